/- Sums of texts: package chunk's and the reference's; four bytes of a sum; Seal. -/
import Derived.Test.YthgefobcohlegaaGreatDoorMkcX
import Derived.Test.YthgefobcohlegaaGreatDoorMkeX
import Derived.Test.YthgefobcohlegaaGreatDoorMkhX
import Derived.Test.YthgefobcohlegaaGreatDoorMkgX
import Derived.Test.YthgefobcohlegaaGreatDoorMkfX
import Derived.BigQuiet
namespace Go.Proofs.YthgefobcohlegaaGreatDoor
open Go.RowKit
set_option linter.unusedVariables false

def sumL (xs : List Nat) : Nat := 4294967295 - crcL xs
def fourL (n : Nat) : List Nat := [n / 16777216 % 256, n / 65536 % 256, n / 256 % 256, n % 256]
theorem fourL_256 (n : Nat) : ∀ x ∈ fourL n, x < 256 := by
  intro x hx
  simp [fourL] at hx
  omega
theorem fourL_len (n : Nat) : (fourL n).length = 4 := rfl
theorem sumL_lt (xs : List Nat) : sumL xs < 4294967296 := by unfold sumL; omega
def sealL (xs : List Nat) : List Nat := xs ++ fourL (sumL xs)
theorem xor_ones (c : Nat) (h : c < 4294967296) : c ^^^ 4294967295 = 4294967295 - c := by
  have h1 := congrArg BitVec.toNat (BitVec.xor_allOnes (x := BitVec.ofNat 32 c))
  rw [BitVec.toNat_xor, BitVec.toNat_not, BitVec.toNat_ofNat, BitVec.toNat_allOnes, Nat.mod_eq_of_lt (by omega)] at h1
  exact h1

set_option maxRecDepth 100000 in
set_option maxHeartbeats 4000000 in
theorem sum_any (xs : List Nat) (hx : ∀ x ∈ xs, x < 256) (hl : xs.length ≤ 1000000000) (w : World) :
    Calls Tryz.prog 79 #[.string (bytesOf xs)] w fun e w' => e = .returned (.int .u32 (sumL xs)) ∧ w' = w := by
  obtain ⟨st, hst⟩ : ∃ st, st = bytesOf xs := ⟨_, rfl⟩
  obtain ⟨n, hn⟩ : ∃ n, n = xs.length := ⟨_, rfl⟩
  have hsz : st.size = n := by rw [hst, bytesOf_size, hn]
  have hidx : ∀ k, k < n → ∃ x, xs[k]? = some x ∧ x < 256 ∧ ∀ h : k < st.size, st[k].toNat = x := by
    intro k hk
    have hk2 : k < xs.length := by omega
    have hm := hx _ (List.getElem_mem hk2)
    refine ⟨xs[k], List.getElem?_eq_getElem hk2, hm, fun h => ?_⟩
    subst hst
    exact bytesOf_get xs _ h _ (List.getElem?_eq_getElem hk2) hm
  have Hidx := Lib.hid hidx
  have Hlt := Lib.hid (fun k => crcL_lt (xs.take k) (fun x h => hx x (List.mem_of_mem_take h)))
  have hn2 : n ≤ 1000000000 := by omega
  have Hn := Lib.hid hn
  rw [← hst]
  clear hx hst hidx hn hl
  go_enter Tryz.func79, Tryz.ntmps79
  go_wp2
  go_loopw [3, 7] (fun c iv wr => ∃ k q : Nat, k ≤ n ∧ iv = .int .i64 k ∧ c = .int .u32 q ∧ q = crcL (xs.take k) ∧ wr = w) (fun _ iv _ => n - (intOf iv).toNat)
  case atStart => exact ⟨0, 4294967295, Nat.zero_le _, rfl, rfl, rfl, rfl⟩
  case round =>
    obtain ⟨k, q, hk, rfl, rfl, hq, rfl⟩ := hrel
    have hq32 : q < 4294967296 := by rw [hq]; exact Hlt.out k
    have Hq := Lib.hid hq
    clear hq
    by_cases hkn : k < n
    · obtain ⟨x, hxg, hx8, hix⟩ := Hidx.out k hkn
      have hks : k < st.size := by omega
      have hix' := hix hks
      have hnx : crcL (xs.take (k + 1)) = crcIter 8 (q ^^^ x) := by rw [take_snoc hxg, crcL_snoc, ← Hq.out]; rfl
      have hxr : bits BinOp.xor IntKind.u32 (q : Int) (x : Int) = ((q ^^^ x : Nat) : Int) := bits_xor_u32_nat q x hq32 (by omega)
      have hwx : IntKind.u32.wrap (x : Int) = (x : Int) := by rw [IntKind.wrap_u32]; omega
      have hc0 : q ^^^ x < 4294967296 := Nat.xor_lt_two_pow (n := 32) hq32 (by omega)
      obtain ⟨c0, hce⟩ : ∃ c0, c0 = q ^^^ x := ⟨_, rfl⟩
      rw [← hce] at hnx hxr hc0
      have Hnx := Lib.hid hnx
      clear hnx hce hix hxg
      go_wp2
      go_loopw [3, 16] (fun c jv wr' => ∃ j p : Nat, j ≤ 8 ∧ jv = .int .i64 j ∧ c = .int .u32 p ∧ p = crcIter j c0 ∧ wr' = wr) (fun _ jv _ => 8 - (intOf jv).toNat)
      case atStart => exact ⟨0, c0, Nat.zero_le _, rfl, rfl, rfl, rfl⟩
      case round =>
        obtain ⟨j, p, hj, rfl, rfl, hp, rfl⟩ := hrel
        have hp32 : p < 4294967296 := by rw [hp]; exact crcIter_lt c0 hc0 j
        have Hp := Lib.hid hp
        clear hp
        by_cases hj8 : j < 8
        · have hst : crcIter (j + 1) c0 = crcStep p := by rw [crcIter, ← Hp.out]
          have hsl := crcStep_lt p hp32
          obtain ⟨b, hb⟩ : ∃ b, b = p % 2 := ⟨_, rfl⟩
          obtain ⟨d, hd⟩ : ∃ d, d = p / 2 := ⟨_, rfl⟩
          obtain ⟨m, hm⟩ : ∃ m, m = polyN * b := ⟨_, rfl⟩
          obtain ⟨s, hs⟩ : ∃ s, s = crcStep p := ⟨_, rfl⟩
          have hm32 : m < 4294967296 := by
            rcases Nat.mod_two_eq_zero_or_one p with e | e <;> rw [hm, hb, e] <;> decide
          have hsm : s = d ^^^ m := by rw [hs, hd, hm, hb]; rfl
          have e1 : bits BinOp.and IntKind.u32 (p : Int) 1 = (b : Int) := by rw [bits_and_u32_one p hp32, hb]
          have e2 : IntKind.u32.wrap (3988292384 * (b : Int)) = (m : Int) := by
            have : (3988292384 * (b : Int)) = (m : Int) := by rw [hm]; unfold polyN; omega
            rw [this, IntKind.wrap_u32]; omega
          have e3 : (p : Int) / 2 = (d : Int) := by omega
          have e4 : bits BinOp.xor IntKind.u32 (d : Int) (m : Int) = (s : Int) := by rw [bits_xor_u32_nat d m (by omega) hm32, hsm]
          have Hs := Lib.hid (show s = crcIter (j + 1) c0 by rw [hs, hst])
          clear hb hd hm hs hsm hst hm32 hsl
          go_wp2
          go_roundw
          case rel => exact ⟨j + 1, s, by omega, by go_num, rfl, Hs.out, trivial⟩
          case measure => simp [intOf]; omega
        · obtain rfl : j = 8 := by omega
          have Hp2 := Lib.hid (show p = crcL (xs.take (k + 1)) by rw [Hnx.out, Hp.out])
          go_wp2
          go_roundw
          case rel => exact ⟨k + 1, p, by omega, by go_num, rfl, Hp2.out, trivial⟩
          case measure => simp [intOf]; omega
    · obtain rfl : k = n := by omega
      have hfin : crcL (xs.take k) = crcL xs := by rw [List.take_of_length_le (by have := Hn.out; omega)]
      have hxo : bits BinOp.xor IntKind.u32 IntKind.u32.max (q : Int) = ((4294967295 - q : Nat) : Int) := by
        have := bits_xor_u32_nat 4294967295 q (by decide) hq32
        rw [Nat.xor_comm, xor_ones q hq32] at this
        exact this
      have Hfin := Lib.hid (show (4294967295 - q : Nat) = sumL xs by unfold sumL; rw [← hfin, Hq.out])
      generalize 4294967295 - q = z at hxo Hfin
      clear hfin
      go_wp2
      go_ret
      exact ⟨by rw [← Hfin.out]; rfl, rfl⟩
theorem four_u8 (n : Nat) (W : World) (b : Nat) (h : Blk W b 5 #[.int .u8 ((n / 16777216 % 256 : Nat) : Int), .int .u8 ((n / 65536 % 256 : Nat) : Int), .int .u8 ((n / 256 % 256 : Nat) : Int), .int .u8 ((n % 256 : Nat) : Int)]) :
    (convert 69 9 (.slice (some ⟨b, 0, none⟩) 4 4)).run Tryz.prog W = .ok (.string (bytesOf (fourL n))) W :=
  conv_bytes W (some ⟨b, 0, none⟩) 4 4 (fourL n) (B := W.heap.size) ⟨rfl, fun _ => ⟨_, _, rfl, h.lt, fun j v hv => by rw [Nat.zero_add, h.cell]; simpa [fourL] using hv⟩⟩ (fourL_256 n)
set_option maxHeartbeats 1000000 in
theorem cfour_any (n : Nat) (hn : n < 4294967296) (w : World) : Calls Tryz.prog 161 #[.int .u32 n] w fun e w' => e = .returned (.string (bytesOf (fourL n))) ∧ Below w.heap.size w w' := by
  obtain ⟨b3, h3⟩ : ∃ b, b = n / 16777216 := ⟨_, rfl⟩
  obtain ⟨b2, h2⟩ : ∃ b, b = n / 65536 := ⟨_, rfl⟩
  obtain ⟨b1, h1⟩ : ∃ b, b = n / 256 := ⟨_, rfl⟩
  have e3 : (n : Int) / 16777216 = (b3 : Int) := by omega
  have e2 : (n : Int) / 65536 = (b2 : Int) := by omega
  have e1 : (n : Int) / 256 = (b1 : Int) := by omega
  obtain ⟨q3, hq3⟩ : ∃ q, q = b3 % 256 := ⟨_, rfl⟩
  obtain ⟨q2, hq2⟩ : ∃ q, q = b2 % 256 := ⟨_, rfl⟩
  obtain ⟨q1, hq1⟩ : ∃ q, q = b1 % 256 := ⟨_, rfl⟩
  obtain ⟨q0, hq0⟩ : ∃ q, q = n % 256 := ⟨_, rfl⟩
  have f3 : IntKind.u8.wrap (b3 : Int) = (q3 : Int) := by rw [IntKind.wrap_u8]; omega
  have f2 : IntKind.u8.wrap (b2 : Int) = (q2 : Int) := by rw [IntKind.wrap_u8]; omega
  have f1 : IntKind.u8.wrap (b1 : Int) = (q1 : Int) := by rw [IntKind.wrap_u8]; omega
  have f0 : IntKind.u8.wrap (n : Int) = (q0 : Int) := by rw [IntKind.wrap_u8]; omega
  have hc := four_u8 n (w.alloc (.cells #[.int .u8 (q3 : Int), .int .u8 (q2 : Int), .int .u8 (q1 : Int), .int .u8 (q0 : Int)] 5)) w.heap.size (by rw [← h3, ← h2, ← h1, ← hq3, ← hq2, ← hq1, ← hq0]; exact Blk.new w _ _)
  clear hq3 hq2 hq1 hq0 h3 h2 h1
  go_enter Tryz.func161, Tryz.ntmps161
  go_wp2
  go_ret
  exact ⟨rfl, by go_grown⟩

end Go.Proofs.YthgefobcohlegaaGreatDoor

namespace Go.Proofs.YthgefobcohlegaaGreatDoor
open Go.RowKit
set_option linter.unusedVariables false

end Go.Proofs.YthgefobcohlegaaGreatDoor

namespace Go.Proofs.YthgefobcohlegaaGreatDoor
open Go.RowKit
set_option linter.unusedVariables false

/-- An entry of a log. -/
structure En where
  nm : Bs
  tick : Int
  bit : Nat
def EnOk (e : En) : Prop := (rdF e.nm).1 = 0 ∧ tickB e.tick = true ∧ e.bit < 18446744073709551616
def bodyL (e : En) : Bs := e.nm ++ 64 :: (Lib.itoa e.tick ++ 61 :: hexK 16 e.bit)
def len2 (n : Nat) : Bs := [UInt8.ofNat (n / 256 % 256), UInt8.ofNat (n % 256)]
def crc4 (n : Nat) : Bs := [UInt8.ofNat (n % 256), UInt8.ofNat (n / 256 % 256), UInt8.ofNat (n / 65536 % 256), UInt8.ofNat (n / 16777216 % 256)]
def recB (b : Bs) : Bs := len2 b.length ++ (b ++ crc4 (sumL (natsOf b)))
def recL (e : En) : Bs := recB (bodyL e)
theorem recB_len (b : Bs) : (recB b).length = b.length + 6 := by
  unfold recB len2 crc4
  simp only [List.length_append, List.length_cons, List.length_nil]
  omega

theorem tick_abs {t : Int} (h : tickB t = true) : t.natAbs < 10 ^ 17 := by
  unfold tickB at h
  have := of_decide_eq_true h
  omega
theorem rd_some {s : Bs} (h : (rdF s).1 = 0) : ∃ l, parseL s = some l ∧ textL l = s ∧ l.length ≤ 6 ∧ ∀ j, j < l.length → lbOk l j := by
  cases hp : parseL s with
  | none => rw [rdF_none hp] at h; cases h
  | some l =>
    rw [rdF_some hp] at h
    refine ⟨l, rfl, text_parse hp, ?_⟩
    rcases lbF_cases l with ⟨_, h2⟩ | ⟨_, h2⟩ | ⟨i, _, _, _, _, _, h2⟩ | ⟨h1, h2, h3, _⟩
    · rw [h2] at h; cases h
    · rw [h2] at h; cases h
    · rw [h2] at h; cases h
    · exact ⟨h2, h3⟩
theorem mem_intersperse {α : Type} {sep x : α} : ∀ l : List α, x ∈ l.intersperse sep → x = sep ∨ x ∈ l
  | [], h => by simp at h
  | [a], h => .inr (by simpa using h)
  | a :: b :: l, h => by
    rw [List.intersperse_cons_cons] at h
    rcases List.mem_cons.1 h with rfl | h
    · exact .inr List.mem_cons_self
    · rcases List.mem_cons.1 h with rfl | h
      · exact .inl rfl
      · rcases mem_intersperse (b :: l) h with h | h
        · exact .inl h
        · exact .inr (List.mem_cons_of_mem _ h)
theorem join_mem {ps : List Bs} {c : UInt8} (h : c ∈ Lib.join ps [44]) : c = 44 ∨ ∃ p ∈ ps, c ∈ p := by
  unfold Lib.join List.intercalate at h
  obtain ⟨q, hq, hc⟩ := List.mem_flatten.1 h
  rcases mem_intersperse _ hq with rfl | hq
  · exact .inl (List.mem_singleton.1 hc)
  · exact .inr ⟨q, hq, hc⟩
theorem inter_len {k : Nat} : ∀ (ps : List Bs), (∀ p ∈ ps, p.length ≤ k) → (ps.intersperse [44]).flatten.length ≤ ps.length * (k + 1)
  | [], _ => by simp
  | [a], h => by have := h a List.mem_cons_self; simp; omega
  | a :: b :: l, h => by
    have h1 := h a List.mem_cons_self
    have h2 := inter_len (b :: l) (fun p hp => h p (List.mem_cons_of_mem _ hp))
    have e : (a :: b :: l).length = (b :: l).length + 1 := rfl
    have e1 : ([44] : Bs).length = 1 := rfl
    rw [List.intersperse_cons_cons, List.flatten_cons, List.flatten_cons, List.length_append, List.length_append, e, e1, Nat.succ_mul]
    omega
theorem wordB_len {s : Bs} (h : wordB s = true) : s.length ≤ 12 ∧ ∀ c ∈ s, okB c = true := by
  unfold wordB at h
  rw [Bool.and_eq_true] at h
  exact ⟨(of_decide_eq_true h.1).2, List.all_eq_true.1 h.2⟩
theorem lb_get {l : List Lb} {p : Lb} (hp : p ∈ l) (h : ∀ j, j < l.length → lbOk l j) : wordB p.1 = true ∧ wordB p.2 = true := by
  obtain ⟨i, hi, rfl⟩ := List.getElem_of_mem hp
  obtain ⟨h1, h2, _⟩ := h i hi
  have e : lbAt l i = l[i] := by unfold lbAt; rw [List.getD_eq_getElem?_getD, List.getElem?_eq_getElem hi]; rfl
  rw [e] at h1 h2
  exact ⟨nameB_word h1, h2⟩
theorem nm_chars {s : Bs} (h : (rdF s).1 = 0) : ∀ c ∈ s, c ≠ 64 := by
  obtain ⟨l, _, hs, _, hok⟩ := rd_some h
  intro c hc
  rw [← hs] at hc
  unfold textL at hc
  rcases join_mem hc with rfl | ⟨p, hp, hc⟩
  · decide
  · obtain ⟨q, hq, rfl⟩ := List.mem_map.1 hp
    obtain ⟨w1, w2⟩ := lb_get hq hok
    unfold lbT at hc
    have ok64 : okB 64 = false := by decide
    rcases List.mem_append.1 hc with hc | hc
    · have := (wordB_len w1).2 c hc
      intro e; rw [e, ok64] at this; cases this
    · rcases List.mem_cons.1 hc with rfl | hc
      · decide
      · have := (wordB_len w2).2 c hc
        intro e; rw [e, ok64] at this; cases this
theorem nm_len {s : Bs} (h : (rdF s).1 = 0) : s.length ≤ 156 := by
  obtain ⟨l, _, hs, h6, hok⟩ := rd_some h
  rw [← hs]
  unfold textL Lib.join List.intercalate
  have := inter_len (k := 25) (l.map lbT) (fun p hp => by
    obtain ⟨q, hq, rfl⟩ := List.mem_map.1 hp
    obtain ⟨w1, w2⟩ := lb_get hq hok
    have h1 := (wordB_len w1).1
    have h2 := (wordB_len w2).1
    unfold lbT
    rw [List.length_append, List.length_cons]
    omega)
  rw [List.length_map] at this
  omega
theorem body_len {e : En} (h : EnOk e) : 19 ≤ (bodyL e).length ∧ (bodyL e).length ≤ 192 := by
  have h1 := nm_len h.1
  have h2 := itoa_len (k := 17) (by decide) (tick_abs h.2.1)
  have h3 : 1 ≤ (Lib.itoa e.tick).length := by
    unfold Lib.itoa
    split
    · simp
    · have := decDigits_ne e.tick.toNat
      exact List.length_pos_iff.2 this
  unfold bodyL
  simp only [List.length_append, List.length_cons, hexK_len]
  omega
theorem cut_uniq {c : UInt8} : ∀ {a a' r r' : Bs}, c ∉ a → c ∉ a' → a ++ c :: r = a' ++ c :: r' → a = a' ∧ r = r'
  | [], [], r, r', _, _, e => by simpa using e
  | [], x :: a', r, r', _, h, e => by
    have e := (List.cons.inj e).1
    exact absurd (by rw [e]; exact List.mem_cons_self) h
  | x :: a, [], r, r', h, _, e => by
    have e := (List.cons.inj e).1
    exact absurd (by rw [← e]; exact List.mem_cons_self) h
  | x :: a, y :: a', r, r', h, h', e => by
    obtain ⟨e1, e2⟩ := List.cons.inj e
    obtain ⟨i1, i2⟩ := cut_uniq (fun m => h (List.mem_cons_of_mem _ m)) (fun m => h' (List.mem_cons_of_mem _ m)) e2
    exact ⟨by rw [e1, i1], i2⟩
theorem itoa_no61 (n : Int) : (61 : UInt8) ∉ Lib.itoa n := by
  intro h
  rcases itoa_chars n 61 h with h | h
  · exact absurd h (by decide)
  · exact absurd h.2 (by decide)
theorem itoa_inj {m n : Int} (h : Lib.itoa m = Lib.itoa n) : m = n := by
  have h1 := atoi_itoa m
  rw [h, atoi_itoa] at h1
  exact (Option.some.inj h1).symm
theorem hex_inj {m n : Nat} (hm : m < 18446744073709551616) (hn : n < 18446744073709551616) (h : hexK 16 m = hexK 16 n) : m = n := by
  have h1 := hexFrom_K 16 m
  rw [h, hexFrom_K] at h1
  have := Option.some.inj h1
  have e : (16 : Nat) ^ 16 = 18446744073709551616 := by decide
  rw [e, Nat.mod_eq_of_lt hn, Nat.mod_eq_of_lt hm] at this
  exact this.symm
theorem body_inj {e f : En} (he : EnOk e) (hf : EnOk f) (h : bodyL e = bodyL f) : e = f := by
  obtain ⟨h1, h2⟩ := cut_uniq (fun m => nm_chars he.1 _ m rfl) (fun m => nm_chars hf.1 _ m rfl) h
  obtain ⟨h3, h4⟩ := cut_uniq (itoa_no61 _) (itoa_no61 _) h2
  have h5 := itoa_inj h3
  have h6 := hex_inj he.2.2 hf.2.2 h4
  cases e; cases f
  simp_all
theorem len2_inj {m n : Nat} (hm : m < 65536) (hn : n < 65536) (h : len2 m = len2 n) : m = n := by
  unfold len2 at h
  injection h with h1 h2
  injection h2 with h2 _
  have e1 := congrArg UInt8.toNat h1
  have e2 := congrArg UInt8.toNat h2
  rw [UInt8.toNat_ofNat', UInt8.toNat_ofNat'] at e1 e2
  omega
/-- Two records at one place are one. -/
theorem rec_uniq {e f : En} (he : EnOk e) (hf : EnOk f) {b : Bs} (h1 : recL e <+: b) (h2 : recL f <+: b) : e = f := by
  obtain ⟨r, hr⟩ := h1
  obtain ⟨s, hs⟩ := h2
  have hh := hr.trans hs.symm
  unfold recL recB at hh
  rw [List.append_assoc, List.append_assoc, List.append_assoc, List.append_assoc] at hh
  obtain ⟨h3, h4⟩ := List.append_inj hh rfl
  have hl := len2_inj (by have := body_len he; omega) (by have := body_len hf; omega) h3
  exact body_inj he hf (List.append_inj h4 hl).1

/-- What a log holds: right records from its beginning on, as many as there are, and how many bytes they have. -/
structure IsRead (b : Bs) (l : List En) (n : Nat) : Prop where
  ok : ∀ e ∈ l, EnOk e
  pre : b.take n = l.flatMap recL
  le : n ≤ b.length
  no : ∀ e, EnOk e → ¬ recL e <+: b.drop n
theorem IsRead.len {b : Bs} {l : List En} {n : Nat} (h : IsRead b l n) : (l.flatMap recL).length = n := by
  rw [← h.pre, List.length_take]; exact Nat.min_eq_left h.le
theorem IsRead.split {b : Bs} {l : List En} {n : Nat} (h : IsRead b l n) : b = l.flatMap recL ++ b.drop n := by
  rw [← h.pre, List.take_append_drop]
theorem read_uniq : ∀ {l l' : List En} {b r r' : Bs}, (∀ e ∈ l, EnOk e) → (∀ e ∈ l', EnOk e) → b = l.flatMap recL ++ r → b = l'.flatMap recL ++ r' → (∀ e, EnOk e → ¬ recL e <+: r) → (∀ e, EnOk e → ¬ recL e <+: r') → l = l'
  | [], [], _, _, _, _, _, _, _, _, _ => rfl
  | [], f :: l', b, r, r', _, h2, e1, e2, n1, _ => by
    rw [List.flatMap_cons, List.append_assoc] at e2
    rw [List.flatMap_nil, List.nil_append] at e1
    exact absurd ⟨_, e2.symm.trans e1⟩ (n1 f (h2 f List.mem_cons_self))
  | f :: l, [], b, r, r', h1, _, e1, e2, _, n2 => by
    rw [List.flatMap_cons, List.append_assoc] at e1
    rw [List.flatMap_nil, List.nil_append] at e2
    exact absurd ⟨_, e1.symm.trans e2⟩ (n2 f (h1 f List.mem_cons_self))
  | f :: l, g :: l', b, r, r', h1, h2, e1, e2, n1, n2 => by
    rw [List.flatMap_cons, List.append_assoc] at e1 e2
    have hfg : f = g := rec_uniq (h1 f List.mem_cons_self) (h2 g List.mem_cons_self) ⟨_, e1.symm⟩ ⟨_, e2.symm⟩
    subst hfg
    have e3 := List.append_cancel_left (e1.symm.trans e2)
    rw [read_uniq (fun e he => h1 e (List.mem_cons_of_mem _ he)) (fun e he => h2 e (List.mem_cons_of_mem _ he)) rfl e3 n1 n2]
theorem IsRead.uniq {b : Bs} {l l' : List En} {n n' : Nat} (h : IsRead b l n) (h' : IsRead b l' n') : l = l' ∧ n = n' := by
  have e := read_uniq h.ok h'.ok h.split h'.split h.no h'.no
  refine ⟨e, ?_⟩
  rw [← h.len, ← h'.len, e]
theorem rec_ne (e : En) : recL e ≠ [] := by
  intro h
  have := congrArg List.length h
  unfold recL at this
  rw [recB_len] at this
  simp at this
/-- A record that is cut off is none. -/
theorem rec_cut {e : En} (he : EnOk e) {k : Nat} (hk : k < (recL e).length) : ∀ f, EnOk f → ¬ recL f <+: (recL e).take k := by
  intro f hf hp
  have h1 : recL f <+: recL e := hp.trans (List.take_prefix _ _)
  obtain rfl := rec_uniq hf he h1 (List.prefix_refl _)
  have := hp.length_le
  rw [List.length_take] at this
  omega
theorem IsRead.of {l : List En} (h : ∀ e ∈ l, EnOk e) {r : Bs} (hr : ∀ f, EnOk f → ¬ recL f <+: r) : IsRead (l.flatMap recL ++ r) l (l.flatMap recL).length := by
  refine ⟨h, List.take_left' rfl, by rw [List.length_append]; omega, ?_⟩
  rw [List.drop_left']
  · exact hr
  · rfl
end Go.Proofs.YthgefobcohlegaaGreatDoor

namespace Go.Proofs.YthgefobcohlegaaGreatDoor
open Go.RowKit
set_option linter.unusedVariables false

theorem rec_pre {e : En} (he : EnOk e) {r : Bs} (h : recL e <+: r) : 2 ≤ r.length ∧ (r.getD 0 0).toNat * 256 + (r.getD 1 0).toNat = (bodyL e).length ∧ (bodyL e).length + 6 ≤ r.length ∧
    (r.drop 2).take (bodyL e).length = bodyL e ∧ r.take ((bodyL e).length + 6) = recL e := by
  obtain ⟨t, ht⟩ := h
  have hl := body_len he
  have hr : (recL e).length = (bodyL e).length + 6 := recB_len _
  have hlen : r.length = (bodyL e).length + 6 + t.length := by rw [← ht, List.length_append, hr]
  refine ⟨by omega, ?_, by omega, ?_, ?_⟩
  · rw [← ht]
    unfold recL recB len2
    simp only [List.cons_append, List.nil_append, List.getD_cons_zero, List.getD_cons_succ]
    rw [UInt8.toNat_ofNat', UInt8.toNat_ofNat']
    omega
  · rw [← ht]
    unfold recL recB len2
    simp only [List.cons_append, List.nil_append, List.drop_succ_cons, List.drop_zero, List.append_assoc]
    rw [List.take_left']
    rfl
  · rw [← ht, ← hr, List.take_left]
/-- So far the log is read. -/
structure RdTo (b : Bs) (l : List En) (k : Nat) : Prop where
  ok : ∀ e ∈ l, EnOk e
  pre : b.take k = l.flatMap recL
  le : k ≤ b.length
theorem RdTo.start (b : Bs) : RdTo b [] 0 := ⟨fun e h => (by cases h), rfl, Nat.zero_le _⟩
theorem RdTo.stop {b : Bs} {l : List En} {k : Nat} (h : RdTo b l k) (hn : ∀ e, EnOk e → ¬ recL e <+: b.drop k) : IsRead b l k := ⟨h.ok, h.pre, h.le, hn⟩
theorem RdTo.step {b : Bs} {l : List En} {k n : Nat} (h : RdTo b l k) {e : En} (he : EnOk e) (hn : k + n ≤ b.length) (hr : (b.drop k).take n = recL e) : RdTo b (l ++ [e]) (k + n) := by
  refine ⟨fun x hx => ?_, ?_, hn⟩
  · rcases List.mem_append.1 hx with hx | hx
    · exact h.ok x hx
    · rw [List.mem_singleton.1 hx]; exact he
  · rw [List.flatMap_append, ← h.pre, List.flatMap_singleton, ← hr, List.take_add]
theorem RdTo.len {b : Bs} {l : List En} {k : Nat} (h : RdTo b l k) : l.length * 6 ≤ k := by
  have h1 : (l.flatMap recL).length = k := by rw [← h.pre, List.length_take]; exact Nat.min_eq_left h.le
  rw [← h1]
  clear h h1
  induction l with
  | nil => simp
  | cons e l ih =>
    rw [List.flatMap_cons, List.length_append, List.length_cons]
    have : (recL e).length = (bodyL e).length + 6 := recB_len _
    omega
/-- The number that two bytes tell. -/
def num2 (r : Bs) : Nat := (r.getD 0 0).toNat * 256 + (r.getD 1 0).toNat
theorem stop_short {r : Bs} (h : r.length < 2) : ∀ e, EnOk e → ¬ recL e <+: r := fun e he hp => by have := (rec_pre he hp).1; omega
theorem stop_long {r : Bs} (h : r.length < num2 r + 6) : ∀ e, EnOk e → ¬ recL e <+: r := fun e he hp => by
  obtain ⟨_, h2, h3, _⟩ := rec_pre he hp
  unfold num2 at h
  omega
theorem stop_body {r : Bs} (h : ∀ e, EnOk e → bodyL e = (r.drop 2).take (num2 r) → (r.take (num2 r + 6) = recL e → False)) : ∀ e, EnOk e → ¬ recL e <+: r := fun e he hp => by
  obtain ⟨_, h2, _, h4, h5⟩ := rec_pre he hp
  have e2 : num2 r = (bodyL e).length := h2
  exact h e he (by rw [e2, h4]) (by rw [e2, h5])
end Go.Proofs.YthgefobcohlegaaGreatDoor

namespace Go.Proofs.YthgefobcohlegaaGreatDoor
open Go.RowKit
set_option linter.unusedVariables false

/-- A disk: its bytes; is its power off; how many bytes until power fails (-1: it does not). -/
structure Dk where
  b : Bs
  off : Bool
  cut : Int
/-- Bytes are written one by one; did all go? -/
def wrD (d : Dk) (s : Bs) : Dk × Bool :=
  if d.off = true then (d, false) else if 0 ≤ d.cut ∧ d.cut < s.length then (⟨d.b ++ s.take d.cut.toNat, true, 0⟩, false) else (⟨d.b ++ s, false, if d.cut < 0 then -1 else d.cut - s.length⟩, true)
theorem wrD_off {d : Dk} (h : d.off = true) (s : Bs) : wrD d s = (d, false) := if_pos h
theorem wrD_cut {d : Dk} (h : d.off = false) {s : Bs} (h0 : 0 ≤ d.cut) (h1 : d.cut < s.length) : wrD d s = (⟨d.b ++ s.take d.cut.toNat, true, 0⟩, false) := by
  unfold wrD; rw [if_neg (by rw [h]; decide), if_pos ⟨h0, h1⟩]
theorem wrD_all {d : Dk} (h : d.off = false) {s : Bs} (h1 : ¬ (0 ≤ d.cut ∧ d.cut < s.length)) : wrD d s = (⟨d.b ++ s, false, if d.cut < 0 then -1 else d.cut - s.length⟩, true) := by
  unfold wrD; rw [if_neg (by rw [h]; decide), if_neg h1]
/-- What is wrong with an append: its number, and its place. -/
def apF (d : Dk) (e : En) : Nat × Int :=
  if (rdF e.nm).1 ≠ 0 then rdF e.nm else if tickB e.tick = false then (2, -1) else if 65536 < d.b.length + (recL e).length then (7, -1) else if (wrD d (recL e)).2 = true then (0, -1) else (10, -1)
/-- What it leaves. -/
def apD (d : Dk) (e : En) : Dk :=
  if (rdF e.nm).1 ≠ 0 then d else if tickB e.tick = false then d else if 65536 < d.b.length + (recL e).length then d else (wrD d (recL e)).1
theorem wrD_len (d : Dk) (s : Bs) : (wrD d s).1.b.length ≤ d.b.length + s.length := by
  unfold wrD
  split
  · dsimp only; omega
  · split
    · dsimp only; rw [List.length_append, List.length_take]; omega
    · dsimp only; rw [List.length_append]; omega
theorem apD_len {d : Dk} (h : d.b.length ≤ 65536) (e : En) : (apD d e).b.length ≤ 65536 := by
  unfold apD
  split
  · exact h
  · split
    · exact h
    · split
      · exact h
      · have := wrD_len d (recL e); omega
/-- A cut that may be. -/
def CutOk (c : Int) : Prop := -1 ≤ c ∧ c < 9223372036854775808
def bytC (b : Bs) : List Value := b.map fun x : UInt8 => Value.int .u8 (x.toNat : Int)
theorem bytC_nats (b : Bs) : bytC b = (natsOf b).map fun x : Nat => Value.int .u8 (x : Int) := by unfold bytC natsOf; rw [List.map_map]; rfl
/-- A disk in memory: its block, its slice. -/
structure DiskAt (w : World) (q : Nat) (v : Value) (d : Dk) : Prop where
  hd : Blk w q 71 #[v, .bool d.off, .int .i64 d.cut]
  buf : Buf w v d.b.length (bytC d.b)
  ok : CutOk d.cut
/-- The blocks that a disk lies in. -/
def DkS (q : Nat) (v : Value) (k : Nat) : Prop := k = q ∨ v.ownBlock = some k
theorem DiskAt.ne {w : World} {q : Nat} {v : Value} {d : Dk} (h : DiskAt w q v d) : v.ownBlock ≠ some q := fun e => (h.buf.row q e).ne_blk h.hd (by decide) rfl
theorem DiskAt.S_lt {w : World} {q : Nat} {v : Value} {d : Dk} (h : DiskAt w q v d) : ∀ k, DkS q v k → k < w.heap.size := by
  rintro k (rfl | hk)
  · exact h.hd.lt
  · exact h.buf.lt k hk
theorem DiskAt.fr {S : Nat → Prop} {w w' : World} {q : Nat} {v : Value} {d : Dk} (h : DiskAt w q v d) (hf : Fr S w w') (hn : ∀ k, DkS q v k → ¬ S k) : DiskAt w' q v d :=
  ⟨hf.blk h.hd (hn q (.inl rfl)), h.buf.fr hf (fun k hk => hn k (.inr hk)), h.ok⟩
theorem Fr.ofB {B : Nat} {w w' : World} (h : Below B w w') (hB : w.heap.size ≤ B) : Fr (fun _ => False) w w' := ⟨h.os, h.tape, h.output, h.size, fun k hk _ => h.block k (Nat.lt_of_lt_of_le hk hB)⟩
theorem DiskAt.below {B : Nat} {w w' : World} {q : Nat} {v : Value} {d : Dk} (h : DiskAt w q v d) (hb : Below B w w') (hB : w.heap.size ≤ B) : DiskAt w' q v d := h.fr (Fr.ofB hb hB) (fun _ _ h => h)
/-- The disk has turned; nothing else that was there has. -/
structure DStep (w w' : World) (q : Nat) (v : Value) (v' : Value) (d' : Dk) : Prop where
  at_ : DiskAt w' q v' d'
  fr : Fr (DkS q v) w w'
  mv : ∀ k, v'.ownBlock = some k → v.ownBlock = some k ∨ w.heap.size ≤ k
theorem DStep.trans {w w1 w2 : World} {q : Nat} {v v1 v2 : Value} {d1 d2 : Dk} (h1 : DStep w w1 q v v1 d1) (h2 : DStep w1 w2 q v1 v2 d2) : DStep w w2 q v v2 d2 := by
  refine ⟨h2.at_, Fr.trans h1.fr h2.fr (fun i hi hk => ?_), fun k hk => ?_⟩
  · rcases hk with rfl | hk
    · exact .inl rfl
    · rcases h1.mv i hk with h | h
      · exact .inr h
      · omega
  · rcases h2.mv k hk with h | h
    · exact h1.mv k h
    · exact .inr (Nat.le_trans h1.fr.size h)
theorem DStep.ofBelow {B : Nat} {w w' : World} {q : Nat} {v : Value} {d : Dk} (h : DiskAt w q v d) (hb : Below B w w') (hB : w.heap.size ≤ B) : DStep w w' q v v d :=
  ⟨h.below hb hB, (Fr.ofB hb hB).mono (fun _ _ h => h.elim), fun k hk => .inl hk⟩
theorem DStep.before {B : Nat} {w w1 w' : World} {q : Nat} {v v' : Value} {d d' : Dk} (h0 : DiskAt w q v d) (hb : Below B w w1) (hB : w.heap.size ≤ B) (h : DStep w1 w' q v v' d') : DStep w w' q v v' d' := (DStep.ofBelow h0 hb hB).trans h
theorem DStep.behind {B : Nat} {w w1 w' : World} {q : Nat} {v v' : Value} {d' : Dk} (h : DStep w w1 q v v' d') (hb : Below B w1 w') (hB : w1.heap.size ≤ B) : DStep w w' q v v' d' := h.trans (DStep.ofBelow h.at_ hb hB)
/-- All that the disk lies in is the law's own. -/
def DkLo (B q : Nat) (v : Value) : Prop := ∀ k, DkS q v k → B ≤ k
theorem DStep.lo {B : Nat} {w w' : World} {q : Nat} {v v' : Value} {d' : Dk} (h : DStep w w' q v v' d') (hl : DkLo B q v) (hB : B ≤ w.heap.size) : DkLo B q v' := by
  rintro k (rfl | hk)
  · exact hl _ (.inl rfl)
  · rcases h.mv k hk with h | h
    · exact hl k (.inr h)
    · omega
theorem DStep.below {B : Nat} {w w' : World} {q : Nat} {v v' : Value} {d' : Dk} (h : DStep w w' q v v' d') (hl : DkLo B q v) (hB : B ≤ w.heap.size) : Below B w w' :=
  h.fr.below hB (fun k hk hs => by have := hl k hs; omega)
/-- A row of another type is as it was. -/
theorem DStep.own {w w' : World} {q : Nat} {v v' : Value} {d d' : Dk} (h0 : DiskAt w q v d) (h : DStep w w' q v v' d') {base : Nat} {e : TypeId} {size n : Nat} {x : Value} {xs : List Value} (ho : w.ownsRow base e size x n xs) (h1 : e ≠ 71) (h2 : e ≠ 5) : w'.ownsRow base e size x n xs := by
  refine h.fr.own ho (fun k hk hs => ?_)
  rcases hs with rfl | hs
  · exact own_ne_blk ho h0.hd h1 hk.symm
  · exact (h0.buf.row k hs).ne_own ho h2 hk
theorem DStep.blk {w w' : World} {q : Nat} {v v' : Value} {d d' : Dk} (h0 : DiskAt w q v d) (h : DStep w w' q v v' d') {g : Nat} {t : TypeId} {cs : Array Value} (ho : Blk w g t cs) (h1 : t ≠ 71) (h2 : t ≠ 5) : Blk w' g t cs := by
  refine h.fr.blk ho (fun hs => ?_)
  rcases hs with rfl | hs
  · exact Blk.ne_ ho h0.hd h1 rfl
  · exact (h0.buf.row g hs).ne_blk ho h2 rfl
end Go.Proofs.YthgefobcohlegaaGreatDoor

namespace Go.Proofs.YthgefobcohlegaaGreatDoor
open Go.RowKit
set_option linter.unusedVariables false

def bndB (from_ span : Int) : Bool := decide (1 ≤ span ∧ span ≤ 100000 ∧ -1099511627776 ≤ from_ ∧ from_ ≤ 1099511627776)
theorem bounds_any {es : Nat → Addr} {B : Nat} (f s : Int) (w : World) (hS : SVL es B w) :
    Calls Tryz.prog 89 #[.int .i64 f, .int .i64 s] w fun e w' => (bndB f s = true → e = .returned .nilIface) ∧ (bndB f s = false → e = .returned (sentV (es 1))) ∧ w = w' := by
  have g1 : w.cell? ⟨0, 0, none⟩ = some (sentV (es 1)) := hS.var 1 (by decide)
  clear hS
  have Hno : ∀ (h : ¬ (1 ≤ s ∧ s ≤ 100000 ∧ -1099511627776 ≤ f ∧ f ≤ 1099511627776)), bndB f s = false := fun h => decide_eq_false h
  by_cases h1 : s < 1
  · have Hf := Lib.hid (Hno (by omega))
    clear Hno
    go_enter Tryz.func89, Tryz.ntmps89
    go_wp2
    go_ret
    exact ⟨fun h => (by rw [Hf.out] at h; cases h), fun _ => rfl, rfl⟩
  by_cases h2 : 100000 < s
  · have Hf := Lib.hid (Hno (by omega))
    clear Hno
    go_enter Tryz.func89, Tryz.ntmps89
    go_wp2
    go_ret
    exact ⟨fun h => (by rw [Hf.out] at h; cases h), fun _ => rfl, rfl⟩
  by_cases h3 : f < -1099511627776
  · have Hf := Lib.hid (Hno (by omega))
    clear Hno
    go_enter Tryz.func89, Tryz.ntmps89
    go_wp2
    go_ret
    exact ⟨fun h => (by rw [Hf.out] at h; cases h), fun _ => rfl, rfl⟩
  by_cases h4 : 1099511627776 < f
  · have Hf := Lib.hid (Hno (by omega))
    clear Hno
    go_enter Tryz.func89, Tryz.ntmps89
    go_wp2
    go_ret
    exact ⟨fun h => (by rw [Hf.out] at h; cases h), fun _ => rfl, rfl⟩
  have Hf := Lib.hid (show bndB f s = true from decide_eq_true (by omega))
  clear Hno
  go_enter Tryz.func89, Tryz.ntmps89
  go_wp2
  go_ret
  exact ⟨fun _ => rfl, fun h => (by rw [Hf.out] at h; cases h), rfl⟩
/-- Is a tick outside a stretch? -/
def outB (f e t : Int) : Bool := decide (t < f ∨ e ≤ t)
theorem withinC_any (t b f en : Int) (pf pe : Nat) (w : World) (hf : w.cell? ⟨pf, 0, none⟩ = some (.int .i64 f)) (he : w.cell? ⟨pe, 0, none⟩ = some (.int .i64 en)) (hpf : pf < w.heap.size) (hpe : pe < w.heap.size) :
    Calls Tryz.prog 163 #[.agg #[.int .i64 t, .int .u64 b], .pointer (some ⟨pf, 0, none⟩), .pointer (some ⟨pe, 0, none⟩)] w fun e w' => e = .returned (.bool (outB f en t)) ∧ Below w.heap.size w w' := by
  have Hb := Lib.hid (show Below w.heap.size w (w.alloc (.cells #[.int .i64 t, .int .u64 b] 39)) from Below.alloc (Below.refl _ _) (Nat.le_refl _) _)
  by_cases h1 : t < f
  · have Hr := Lib.hid (show outB f en t = true from decide_eq_true (.inl h1))
    rw [Hr.out]
    go_enter Tryz.func163, Tryz.ntmps163
    go_wp2
    go_ret
    exact ⟨rfl, Hb.out⟩
  by_cases h2 : en ≤ t
  · have Hr := Lib.hid (show outB f en t = true from decide_eq_true (.inr h2))
    rw [Hr.out]
    go_enter Tryz.func163, Tryz.ntmps163
    go_wp2
    go_ret
    exact ⟨rfl, Hb.out⟩
  have h3 : t < en := by omega
  have h4 : f ≤ t := by omega
  have Hr := Lib.hid (show outB f en t = false from decide_eq_false (by omega))
  rw [Hr.out]
  go_enter Tryz.func163, Tryz.ntmps163
  go_wp2
  go_ret
  exact ⟨rfl, Hb.out⟩
/-- The place of the first point outside (-1: none). -/
def idxO (f e : Int) (ps : List (Int × Int)) : Int := match ps.findIdx? fun p => outB f e p.1 with | some k => (k : Int) | none => -1
theorem idxO_some {f e : Int} {ps : List (Int × Int)} {k : Nat} (h : ps.findIdx? (fun p => outB f e p.1) = some k) : idxO f e ps = k := by unfold idxO; rw [h]
theorem idxO_none {f e : Int} {ps : List (Int × Int)} (h : ps.findIdx? (fun p => outB f e p.1) = none) : idxO f e ps = -1 := by unfold idxO; rw [h]
set_option maxRecDepth 100000 in
theorem indexP_any (A : Option Addr) (n c : Nat) (ps : List (Int × Int)) (f en : Int) (pf pe : Nat) (w : World) (hA : Rd w w.heap.size 2 A n (ptsC ps)) (hn : n ≤ 100000) (hf : w.cell? ⟨pf, 0, none⟩ = some (.int .i64 f)) (he : w.cell? ⟨pe, 0, none⟩ = some (.int .i64 en)) (hpf : pf < w.heap.size) (hpe : pe < w.heap.size) :
    Calls Tryz.prog 194 #[.slice A n c, .func (.func 163) #[] #[.pointer (some ⟨pf, 0, none⟩), .pointer (some ⟨pe, 0, none⟩)]] w fun e w' => e = .returned (.int .i64 (idxO f en ps)) ∧ Below w.heap.size w w' := by
  have hlen : ps.length = n := by have := hA.1; rw [flat_len _ 2 (fun _ => rfl)] at this; omega
  have HA := Lib.hid hA; have Hlen := Lib.hid hlen
  have HF := Lib.hid (fun W (hb : Below w.heap.size w W) => show W.cell? ⟨pf, 0, none⟩ = some (.int .i64 f) ∧ W.cell? ⟨pe, 0, none⟩ = some (.int .i64 en) from ⟨(hb.cell (p := ⟨pf, 0, none⟩) hpf).trans hf, (hb.cell (p := ⟨pe, 0, none⟩) hpe).trans he⟩)
  have hn' : (n : Int) ≤ 100000 := by omega
  clear hA hlen hf he
  go_enter Tryz.func194, Tryz.ntmps194
  go_wp2
  go_loopw [5, 8] (fun _ iv wr => ∃ k : Nat, k ≤ n ∧ iv = .int .i64 k ∧ Below w.heap.size w wr ∧ ∀ j (p : Int × Int), j < k → ps[j]? = some p → outB f en p.1 = false) (fun _ iv _ => n - (intOf iv).toNat)
  case atStart => exact ⟨0, Nat.zero_le _, rfl, Below.refl _ _, fun j p h => absurd h (Nat.not_lt_zero j)⟩
  case round =>
    obtain ⟨k, hk, rfl, hb, hpre⟩ := hrel
    have Hpre := Lib.hid hpre; have Hb := Lib.hid hb
    have hszr := hb.size
    by_cases hkn : k < n
    · have hkn' : (k : Int) < n := by omega
      obtain ⟨b0, o0, y, hA0, had0, hy, x0, x1⟩ := (HA.out.below hb).at2 hkn
      subst hA0
      obtain ⟨z0, z1⟩ := HF.out _ hb
      have Hc := Lib.hid (withinC_any y.1 y.2 f en pf pe wr z0 z1 (by omega) (by omega))
      have Hy := Lib.hid hy
      clear hb hpre hy
      go_wp2_with fail
      refine Hc.out.mono ?_
      rintro e w1 ⟨rfl, hb1⟩
      have HB1 := Lib.hid (Below.call Hb.out hb1 hszr)
      clear hb1 Hc
      cases ho : outB f en y.1 with
      | false =>
        have Hn := Lib.hid (show ∀ j (p : Int × Int), j < k + 1 → ps[j]? = some p → outB f en p.1 = false from fun j p hj hp => by
          rcases Nat.lt_or_ge j k with h | h
          · exact Hpre.out j p h hp
          · obtain rfl : j = k := by omega
            rw [Hy.out] at hp
            injection hp with hp
            rw [← hp]; exact ho)
        clear ho
        go_wp2
        go_roundw
        case rel => exact ⟨k + 1, by omega, by go_num, HB1.out, Hn.out⟩
        case measure => simp [intOf]; omega
      | true =>
        have Hi := Lib.hid (show ps.findIdx? (fun p => outB f en p.1) = some k from by
          rw [List.findIdx?_eq_some_iff_getElem]
          obtain ⟨hl, hv⟩ := List.getElem?_eq_some_iff.1 Hy.out
          refine ⟨hl, by rw [hv]; exact ho, fun j hj => ?_⟩
          have h2 := Hpre.out j _ hj (List.getElem?_eq_getElem (by omega))
          rw [h2]; decide)
        clear ho
        go_wp2
        go_ret
        exact ⟨by rw [idxO_some Hi.out]; rfl, HB1.out⟩
    · obtain rfl : k = n := by omega
      have Hi := Lib.hid (show ps.findIdx? (fun p => outB f en p.1) = none from by
        rw [List.findIdx?_eq_none_iff]
        intro x hx
        obtain ⟨j, hj, rfl⟩ := List.getElem_of_mem hx
        exact Hpre.out j _ (by rw [← Hlen.out]; exact hj) (List.getElem?_eq_getElem hj))
      clear hb hpre
      go_wp2
      go_ret
      exact ⟨by rw [idxO_none Hi.out]; rfl, Hb.out⟩
/-- Are all points in a stretch? -/
def allIn (f e : Int) (ps : List (Int × Int)) : Bool := ps.all fun p => !outB f e p.1
theorem allIn_idx (f e : Int) (ps : List (Int × Int)) : allIn f e ps = decide (idxO f e ps < 0) := by
  unfold allIn
  cases h : ps.findIdx? fun p => outB f e p.1 with
  | none =>
    rw [idxO_none h]
    rw [List.findIdx?_eq_none_iff] at h
    exact List.all_eq_true.2 fun p hp => by rw [h p hp]; rfl
  | some k =>
    rw [idxO_some h]
    rw [List.findIdx?_eq_some_iff_getElem] at h
    obtain ⟨hl, hv, _⟩ := h
    have h2 : ¬ ((k : Int) < 0) := by omega
    rw [decide_eq_false h2]
    apply Bool.eq_false_iff.2
    intro hall
    have := List.all_eq_true.1 hall ps[k] (List.getElem_mem hl)
    rw [hv] at this
    cases this
theorem idxO_bd (f e : Int) (ps : List (Int × Int)) : -1 ≤ idxO f e ps := by
  unfold idxO
  split <;> omega
theorem within_any (A : Option Addr) (n c : Nat) (ps : List (Int × Int)) (f en : Int) (w : World) (hA : Rd w w.heap.size 2 A n (ptsC ps)) (hn : n ≤ 100000) :
    Calls Tryz.prog 121 #[.slice A n c, .int .i64 f, .int .i64 en] w fun e w' => e = .returned (.bool (allIn f en ps)) ∧ Below w.heap.size w w' := by
  obtain ⟨pf, hpf⟩ : ∃ pf, pf = w.heap.size := ⟨_, rfl⟩
  have hb2 : Below w.heap.size w ((w.alloc (.cells #[.int .i64 f] 3)).alloc (.cells #[.int .i64 en] 3)) := Below.alloc (Below.alloc (Below.refl _ _) (Nat.le_refl _) _) (by simp) _
  have q0 := (Blk.new w 3 #[.int .i64 f]).alloc (.cells #[.int .i64 en] 3)
  have q1 := Blk.new (w.alloc (.cells #[.int .i64 f] 3)) 3 #[.int .i64 en]
  rw [World.size_alloc, ← hpf] at q1
  rw [← hpf] at q0
  have Hc := Lib.hid (indexP_any A n c ps f en pf (pf + 1) _ ((hA.below hb2).more hb2.size) hn (q0.cell 0) (q1.cell 0) q0.lt q1.lt)
  have HB := Lib.hid hb2
  have Hal := Lib.hid (allIn_idx f en ps)
  have hbd := idxO_bd f en ps
  generalize allIn f en ps = r at Hal
  generalize idxO f en ps = ix at Hc Hal hbd
  have hcf : Calls Tryz.prog 162 #[.slice A n c, .func (.func 163) #[] #[.pointer (some ⟨pf, 0, none⟩), .pointer (some ⟨pf + 1, 0, none⟩)]] ((w.alloc (.cells #[.int .i64 f] 3)).alloc (.cells #[.int .i64 en] 3)) fun e w' => e = .returned (.bool (!r)) ∧ Below ((w.alloc (.cells #[.int .i64 f] 3)).alloc (.cells #[.int .i64 en] 3)).heap.size ((w.alloc (.cells #[.int .i64 f] 3)).alloc (.cells #[.int .i64 en] 3)) w' := by
    clear hb2 q0 q1 HB hpf
    generalize (w.alloc (.cells #[.int .i64 f] 3)).alloc (.cells #[.int .i64 en] 3) = wx at Hc ⊢
    by_cases h0 : 0 ≤ ix
    · have Hr := Lib.hid (show r = false by rw [Hal.out]; exact decide_eq_false (by omega))
      have hd : decide (0 ≤ ix) = true := decide_eq_true h0
      rw [Hr.out]
      go_enter Tryz.func162, Tryz.ntmps162
      go_wp2_with fail
      refine Hc.out.mono ?_
      rintro e w1 ⟨rfl, hb⟩
      have HB1 := Lib.hid hb
      clear hb
      go_wp2
      go_ret
      exact ⟨rfl, HB1.out⟩
    · have Hr := Lib.hid (show r = true by rw [Hal.out]; exact decide_eq_true (by omega))
      have hd : decide (0 ≤ ix) = false := decide_eq_false h0
      rw [Hr.out]
      go_enter Tryz.func162, Tryz.ntmps162
      go_wp2_with fail
      refine Hc.out.mono ?_
      rintro e w1 ⟨rfl, hb⟩
      have HB1 := Lib.hid hb
      clear hb
      go_wp2
      go_ret
      exact ⟨rfl, HB1.out⟩
  have Hcf := Lib.hid hcf
  have hnn : (!(!r)) = r := Bool.not_not r
  clear hb2 q0 q1 hcf hA
  go_enter Tryz.func121, Tryz.ntmps121
  go_wp2_with fail
  rw [← hpf]
  refine Hcf.out.mono ?_
  rintro e w1 ⟨rfl, hb⟩
  have HB1 := Lib.hid (Below.call HB.out hb HB.out.size)
  clear hb
  go_wp2
  go_ret
  exact ⟨by first | rfl | (rw [hnn]), HB1.out⟩
end Go.Proofs.YthgefobcohlegaaGreatDoor
