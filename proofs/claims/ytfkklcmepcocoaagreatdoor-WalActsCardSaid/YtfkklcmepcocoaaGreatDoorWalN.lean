/- Records of a log, in plain Lean. -/
import Derived.Test.YtfkklcmepcocoaaGreatDoorNumN
import Derived.Test.YtfkklcmepcocoaaGreatDoorHeadN
import Derived.Test.YtfkklcmepcocoaaGreatDoorChunkSum
import Derived.Test.YtfkklcmepcocoaaGreatDoorDecimal
import Derived.Test.YtfkklcmepcocoaaGreatDoorLabF
namespace Go.Proofs.YtfkklcmepcocoaaGreatDoor
open Go.RowKit
set_option linter.unusedVariables false

theorem decF_digits (f n : Nat) (h : n < 10 ^ (f + 1)) : decF f n = Lib.decDigits n := by
  induction f generalizing n with
  | zero =>
    have h1 : n < 10 := by simpa using h
    unfold decF; rw [Lib.decDigits, dif_pos h1, Nat.mod_eq_of_lt h1]
  | succ f ih =>
    unfold decF
    by_cases h10 : n < 10
    · rw [if_pos h10, Lib.decDigits, dif_pos h10]
    · rw [if_neg h10, ih _ (by rw [Nat.pow_succ] at h; omega)]
      conv => rhs; rw [Lib.decDigits, dif_neg h10]
theorem decZ_itoa {n : Int} (h : n.natAbs < 10 ^ 20) : decZ n = Lib.itoa n := by
  unfold decZ Lib.itoa decN
  rw [decF_digits 19 n.natAbs h]
  split
  · rfl
  · have e : n.toNat = n.natAbs := by omega
    rw [e]

/-- An entry of a log. -/
structure En where
  nm : Bs
  tick : Int
  bit : Nat
def EnOk (e : En) : Prop := (rdF e.nm).1 = 0 ∧ tickB e.tick = true ∧ e.bit < 18446744073709551616
def bodyL (e : En) : Bs := e.nm ++ 64 :: (Lib.itoa e.tick ++ 61 :: hexK 16 e.bit)
def len2 (n : Nat) : Bs := [UInt8.ofNat (n / 256 % 256), UInt8.ofNat (n % 256)]
def crc4 (n : Nat) : Bs := [UInt8.ofNat (n % 256), UInt8.ofNat (n / 256 % 256), UInt8.ofNat (n / 65536 % 256), UInt8.ofNat (n / 16777216 % 256)]
def recB (b : Bs) : Bs := len2 b.length ++ (b ++ crc4 (sumL (natsOf b)))
def recL (e : En) : Bs := recB (bodyL e)
theorem recB_len (b : Bs) : (recB b).length = b.length + 6 := by
  unfold recB len2 crc4
  simp only [List.length_append, List.length_cons, List.length_nil]
  omega

theorem tick_abs {t : Int} (h : tickB t = true) : t.natAbs < 10 ^ 17 := by
  unfold tickB at h
  have := of_decide_eq_true h
  omega
theorem rd_some {s : Bs} (h : (rdF s).1 = 0) : ∃ l, parseL s = some l ∧ textL l = s ∧ l.length ≤ 6 ∧ ∀ j, j < l.length → lbOk l j := by
  cases hp : parseL s with
  | none => rw [rdF_none hp] at h; cases h
  | some l =>
    rw [rdF_some hp] at h
    refine ⟨l, rfl, text_parse hp, ?_⟩
    rcases lbF_cases l with ⟨_, h2⟩ | ⟨_, h2⟩ | ⟨i, _, _, _, _, _, h2⟩ | ⟨h1, h2, h3, _⟩
    · rw [h2] at h; cases h
    · rw [h2] at h; cases h
    · rw [h2] at h; cases h
    · exact ⟨h2, h3⟩
theorem mem_intersperse {α : Type} {sep x : α} : ∀ l : List α, x ∈ l.intersperse sep → x = sep ∨ x ∈ l
  | [], h => by simp at h
  | [a], h => .inr (by simpa using h)
  | a :: b :: l, h => by
    rw [List.intersperse_cons_cons] at h
    rcases List.mem_cons.1 h with rfl | h
    · exact .inr List.mem_cons_self
    · rcases List.mem_cons.1 h with rfl | h
      · exact .inl rfl
      · rcases mem_intersperse (b :: l) h with h | h
        · exact .inl h
        · exact .inr (List.mem_cons_of_mem _ h)
theorem join_mem {ps : List Bs} {c : UInt8} (h : c ∈ Lib.join ps [44]) : c = 44 ∨ ∃ p ∈ ps, c ∈ p := by
  unfold Lib.join List.intercalate at h
  obtain ⟨q, hq, hc⟩ := List.mem_flatten.1 h
  rcases mem_intersperse _ hq with rfl | hq
  · exact .inl (List.mem_singleton.1 hc)
  · exact .inr ⟨q, hq, hc⟩
theorem inter_len {k : Nat} : ∀ (ps : List Bs), (∀ p ∈ ps, p.length ≤ k) → (ps.intersperse [44]).flatten.length ≤ ps.length * (k + 1)
  | [], _ => by simp
  | [a], h => by have := h a List.mem_cons_self; simp; omega
  | a :: b :: l, h => by
    have h1 := h a List.mem_cons_self
    have h2 := inter_len (b :: l) (fun p hp => h p (List.mem_cons_of_mem _ hp))
    have e : (a :: b :: l).length = (b :: l).length + 1 := rfl
    have e1 : ([44] : Bs).length = 1 := rfl
    rw [List.intersperse_cons_cons, List.flatten_cons, List.flatten_cons, List.length_append, List.length_append, e, e1, Nat.succ_mul]
    omega
theorem wordB_len {s : Bs} (h : wordB s = true) : s.length ≤ 12 ∧ ∀ c ∈ s, okB c = true := by
  unfold wordB at h
  rw [Bool.and_eq_true] at h
  exact ⟨(of_decide_eq_true h.1).2, List.all_eq_true.1 h.2⟩
theorem lb_get {l : List Lb} {p : Lb} (hp : p ∈ l) (h : ∀ j, j < l.length → lbOk l j) : wordB p.1 = true ∧ wordB p.2 = true := by
  obtain ⟨i, hi, rfl⟩ := List.getElem_of_mem hp
  obtain ⟨h1, h2, _⟩ := h i hi
  have e : lbAt l i = l[i] := by unfold lbAt; rw [List.getD_eq_getElem?_getD, List.getElem?_eq_getElem hi]; rfl
  rw [e] at h1 h2
  exact ⟨nameB_word h1, h2⟩
theorem nm_chars {s : Bs} (h : (rdF s).1 = 0) : ∀ c ∈ s, c ≠ 64 := by
  obtain ⟨l, _, hs, _, hok⟩ := rd_some h
  intro c hc
  rw [← hs] at hc
  unfold textL at hc
  rcases join_mem hc with rfl | ⟨p, hp, hc⟩
  · decide
  · obtain ⟨q, hq, rfl⟩ := List.mem_map.1 hp
    obtain ⟨w1, w2⟩ := lb_get hq hok
    unfold lbT at hc
    have ok64 : okB 64 = false := by decide
    rcases List.mem_append.1 hc with hc | hc
    · have := (wordB_len w1).2 c hc
      intro e; rw [e, ok64] at this; cases this
    · rcases List.mem_cons.1 hc with rfl | hc
      · decide
      · have := (wordB_len w2).2 c hc
        intro e; rw [e, ok64] at this; cases this
theorem nm_len {s : Bs} (h : (rdF s).1 = 0) : s.length ≤ 156 := by
  obtain ⟨l, _, hs, h6, hok⟩ := rd_some h
  rw [← hs]
  unfold textL Lib.join List.intercalate
  have := inter_len (k := 25) (l.map lbT) (fun p hp => by
    obtain ⟨q, hq, rfl⟩ := List.mem_map.1 hp
    obtain ⟨w1, w2⟩ := lb_get hq hok
    have h1 := (wordB_len w1).1
    have h2 := (wordB_len w2).1
    unfold lbT
    rw [List.length_append, List.length_cons]
    omega)
  rw [List.length_map] at this
  omega
theorem body_len {e : En} (h : EnOk e) : 19 ≤ (bodyL e).length ∧ (bodyL e).length ≤ 192 := by
  have h1 := nm_len h.1
  have h2 := itoa_len (k := 17) (by decide) (tick_abs h.2.1)
  have h3 : 1 ≤ (Lib.itoa e.tick).length := by
    unfold Lib.itoa
    split
    · simp
    · have := decDigits_ne e.tick.toNat
      exact List.length_pos_iff.2 this
  unfold bodyL
  simp only [List.length_append, List.length_cons, hexK_len]
  omega
theorem cut_uniq {c : UInt8} : ∀ {a a' r r' : Bs}, c ∉ a → c ∉ a' → a ++ c :: r = a' ++ c :: r' → a = a' ∧ r = r'
  | [], [], r, r', _, _, e => by simpa using e
  | [], x :: a', r, r', _, h, e => by
    have e := (List.cons.inj e).1
    exact absurd (by rw [e]; exact List.mem_cons_self) h
  | x :: a, [], r, r', h, _, e => by
    have e := (List.cons.inj e).1
    exact absurd (by rw [← e]; exact List.mem_cons_self) h
  | x :: a, y :: a', r, r', h, h', e => by
    obtain ⟨e1, e2⟩ := List.cons.inj e
    obtain ⟨i1, i2⟩ := cut_uniq (fun m => h (List.mem_cons_of_mem _ m)) (fun m => h' (List.mem_cons_of_mem _ m)) e2
    exact ⟨by rw [e1, i1], i2⟩
theorem itoa_no61 (n : Int) : (61 : UInt8) ∉ Lib.itoa n := by
  intro h
  rcases itoa_chars n 61 h with h | h
  · exact absurd h (by decide)
  · exact absurd h.2 (by decide)
theorem itoa_inj {m n : Int} (h : Lib.itoa m = Lib.itoa n) : m = n := by
  have h1 := atoi_itoa m
  rw [h, atoi_itoa] at h1
  exact (Option.some.inj h1).symm
theorem hex_inj {m n : Nat} (hm : m < 18446744073709551616) (hn : n < 18446744073709551616) (h : hexK 16 m = hexK 16 n) : m = n := by
  have h1 := hexFrom_K 16 m
  rw [h, hexFrom_K] at h1
  have := Option.some.inj h1
  have e : (16 : Nat) ^ 16 = 18446744073709551616 := by decide
  rw [e, Nat.mod_eq_of_lt hn, Nat.mod_eq_of_lt hm] at this
  exact this.symm
theorem body_inj {e f : En} (he : EnOk e) (hf : EnOk f) (h : bodyL e = bodyL f) : e = f := by
  obtain ⟨h1, h2⟩ := cut_uniq (fun m => nm_chars he.1 _ m rfl) (fun m => nm_chars hf.1 _ m rfl) h
  obtain ⟨h3, h4⟩ := cut_uniq (itoa_no61 _) (itoa_no61 _) h2
  have h5 := itoa_inj h3
  have h6 := hex_inj he.2.2 hf.2.2 h4
  cases e; cases f
  simp_all
theorem len2_inj {m n : Nat} (hm : m < 65536) (hn : n < 65536) (h : len2 m = len2 n) : m = n := by
  unfold len2 at h
  injection h with h1 h2
  injection h2 with h2 _
  have e1 := congrArg UInt8.toNat h1
  have e2 := congrArg UInt8.toNat h2
  rw [UInt8.toNat_ofNat', UInt8.toNat_ofNat'] at e1 e2
  omega
/-- Two records at one place are one. -/
theorem rec_uniq {e f : En} (he : EnOk e) (hf : EnOk f) {b : Bs} (h1 : recL e <+: b) (h2 : recL f <+: b) : e = f := by
  obtain ⟨r, hr⟩ := h1
  obtain ⟨s, hs⟩ := h2
  have hh := hr.trans hs.symm
  unfold recL recB at hh
  rw [List.append_assoc, List.append_assoc, List.append_assoc, List.append_assoc] at hh
  obtain ⟨h3, h4⟩ := List.append_inj hh rfl
  have hl := len2_inj (by have := body_len he; omega) (by have := body_len hf; omega) h3
  exact body_inj he hf (List.append_inj h4 hl).1

/-- What a log holds: right records from its beginning on, as many as there are, and how many bytes they have. -/
structure IsRead (b : Bs) (l : List En) (n : Nat) : Prop where
  ok : ∀ e ∈ l, EnOk e
  pre : b.take n = l.flatMap recL
  le : n ≤ b.length
  no : ∀ e, EnOk e → ¬ recL e <+: b.drop n
theorem IsRead.len {b : Bs} {l : List En} {n : Nat} (h : IsRead b l n) : (l.flatMap recL).length = n := by
  rw [← h.pre, List.length_take]; exact Nat.min_eq_left h.le
theorem IsRead.split {b : Bs} {l : List En} {n : Nat} (h : IsRead b l n) : b = l.flatMap recL ++ b.drop n := by
  rw [← h.pre, List.take_append_drop]
theorem read_uniq : ∀ {l l' : List En} {b r r' : Bs}, (∀ e ∈ l, EnOk e) → (∀ e ∈ l', EnOk e) → b = l.flatMap recL ++ r → b = l'.flatMap recL ++ r' → (∀ e, EnOk e → ¬ recL e <+: r) → (∀ e, EnOk e → ¬ recL e <+: r') → l = l'
  | [], [], _, _, _, _, _, _, _, _, _ => rfl
  | [], f :: l', b, r, r', _, h2, e1, e2, n1, _ => by
    rw [List.flatMap_cons, List.append_assoc] at e2
    rw [List.flatMap_nil, List.nil_append] at e1
    exact absurd ⟨_, e2.symm.trans e1⟩ (n1 f (h2 f List.mem_cons_self))
  | f :: l, [], b, r, r', h1, _, e1, e2, _, n2 => by
    rw [List.flatMap_cons, List.append_assoc] at e1
    rw [List.flatMap_nil, List.nil_append] at e2
    exact absurd ⟨_, e1.symm.trans e2⟩ (n2 f (h1 f List.mem_cons_self))
  | f :: l, g :: l', b, r, r', h1, h2, e1, e2, n1, n2 => by
    rw [List.flatMap_cons, List.append_assoc] at e1 e2
    have hfg : f = g := rec_uniq (h1 f List.mem_cons_self) (h2 g List.mem_cons_self) ⟨_, e1.symm⟩ ⟨_, e2.symm⟩
    subst hfg
    have e3 := List.append_cancel_left (e1.symm.trans e2)
    rw [read_uniq (fun e he => h1 e (List.mem_cons_of_mem _ he)) (fun e he => h2 e (List.mem_cons_of_mem _ he)) rfl e3 n1 n2]
theorem IsRead.uniq {b : Bs} {l l' : List En} {n n' : Nat} (h : IsRead b l n) (h' : IsRead b l' n') : l = l' ∧ n = n' := by
  have e := read_uniq h.ok h'.ok h.split h'.split h.no h'.no
  refine ⟨e, ?_⟩
  rw [← h.len, ← h'.len, e]
theorem rec_ne (e : En) : recL e ≠ [] := by
  intro h
  have := congrArg List.length h
  unfold recL at this
  rw [recB_len] at this
  simp at this
/-- What is recovered is recovered again. -/
theorem IsRead.twice {b : Bs} {l : List En} {n : Nat} (h : IsRead b l n) : IsRead (b.take n) l n := by
  refine ⟨h.ok, by rw [List.take_take, Nat.min_self]; exact h.pre, by rw [List.length_take]; exact Nat.le_min.2 ⟨Nat.le_refl _, h.le⟩, fun e _ hp => ?_⟩
  rw [List.drop_of_length_le (by rw [List.length_take]; exact Nat.min_le_left _ _)] at hp
  exact rec_ne e (List.prefix_nil.1 hp)
/-- A record that is cut off is none. -/
theorem rec_cut {e : En} (he : EnOk e) {k : Nat} (hk : k < (recL e).length) : ∀ f, EnOk f → ¬ recL f <+: (recL e).take k := by
  intro f hf hp
  have h1 : recL f <+: recL e := hp.trans (List.take_prefix _ _)
  obtain rfl := rec_uniq hf he h1 (List.prefix_refl _)
  have := hp.length_le
  rw [List.length_take] at this
  omega
theorem IsRead.of {l : List En} (h : ∀ e ∈ l, EnOk e) {r : Bs} (hr : ∀ f, EnOk f → ¬ recL f <+: r) : IsRead (l.flatMap recL ++ r) l (l.flatMap recL).length := by
  refine ⟨h, List.take_left' rfl, by rw [List.length_append]; omega, ?_⟩
  rw [List.drop_left']
  · exact hr
  · rfl
end Go.Proofs.YtfkklcmepcocoaaGreatDoor
