/- Words and names of labels: label.Word, label.Name, the reference's isWord, IsName. -/
import Derived.Test.YtlpkmghhmpkddaaDoorLab
import Derived.Test.YtlpkmghhmpkddaaDoorConvB
import Derived.BigQuiet
namespace Go.Proofs.YtlpkmghhmpkddaaDoor
open Go.RowKit
set_option linter.unusedVariables false

/-- A list of bytes as numbers. -/
def natsOf (s : Bs) : List Nat := s.map UInt8.toNat
theorem natsOf_256 (s : Bs) : ∀ x ∈ natsOf s, x < 256 := fun x hx => by
  obtain ⟨u, _, rfl⟩ := List.mem_map.1 hx
  exact UInt8.toNat_lt u
theorem bytesOf_nats (s : Bs) : bytesOf (natsOf s) = B8 s := by
  have e : UInt8.ofNat ∘ UInt8.toNat = id := by funext x; simp
  simp [bytesOf, natsOf, B8, e]
theorem okB_nat (b : UInt8) : okB b = ((decide (97 ≤ b.toNat) && decide (b.toNat ≤ 122)) || (decide (48 ≤ b.toNat) && decide (b.toNat ≤ 57)) || decide (b.toNat = 45)) := by
  unfold okB
  rw [show (b == 45) = decide (b.toNat = 45) by
    rw [Bool.eq_iff_iff, beq_iff_eq, decide_eq_true_iff]
    exact ⟨fun h => by rw [h]; rfl, fun h => UInt8.toNat_inj.1 h⟩]
  rfl
def okN (x : Nat) : Bool := (decide (97 ≤ x) && decide (x ≤ 122)) || (decide (48 ≤ x) && decide (x ≤ 57)) || decide (x = 45)
theorem okN_true {x : Nat} : okN x = true ↔ (97 ≤ x ∧ x ≤ 122) ∨ (48 ≤ x ∧ x ≤ 57) ∨ x = 45 := by
  unfold okN; simp only [Bool.or_eq_true, Bool.and_eq_true, decide_eq_true_iff, or_assoc]
theorem okN_false {x : Nat} : okN x = false ↔ ¬ ((97 ≤ x ∧ x ≤ 122) ∨ (48 ≤ x ∧ x ≤ 57) ∨ x = 45) := by
  rw [← okN_true]; simp

/-- The closure: is it no byte of a word? -/
theorem wordC_any (x : Nat) (hx : x < 256) (w : World) : Calls Tryd.prog 42 #[.int .u8 x] w fun e w' => e = .returned (.bool (!okN x)) ∧ w = w' := by
  rcases (show x < 45 ∨ x = 45 ∨ (45 < x ∧ x < 48) ∨ (48 ≤ x ∧ x ≤ 57) ∨ (57 < x ∧ x < 97) ∨ (97 ≤ x ∧ x ≤ 122) ∨ 122 < x by omega) with h | h | ⟨h, h2⟩ | ⟨h, h2⟩ | ⟨h, h2⟩ | ⟨h, h2⟩ | h
  case' inl => have hr : okN x = false := okN_false.2 (by omega)
  case' inr.inl => have hr : okN x = true := okN_true.2 (by omega)
  case' inr.inr.inl => have hr : okN x = false := okN_false.2 (by omega)
  case' inr.inr.inr.inl => have hr : okN x = true := okN_true.2 (by omega)
  case' inr.inr.inr.inr.inl => have hr : okN x = false := okN_false.2 (by omega)
  case' inr.inr.inr.inr.inr.inl => have hr : okN x = true := okN_true.2 (by omega)
  case' inr.inr.inr.inr.inr.inr => have hr : okN x = false := okN_false.2 (by omega)
  all_goals
    rw [hr]
    clear hr
  case' inr.inl => subst h
  all_goals
    go_enter Tryd.func42, Tryd.ntmps42
    go_wp2
    go_ret
    exact ⟨by first | rfl | (simp; omega), rfl⟩

/-- The place of the first byte that is none of a word. -/
def idxW (xs : List Nat) : Int := match (xs.findIdx? fun x => !okN x) with | some k => (k : Int) | none => -1
theorem idxW_some {xs : List Nat} {k : Nat} (h : xs.findIdx? (fun x => !okN x) = some k) : idxW xs = k := by unfold idxW; rw [h]
theorem idxW_none {xs : List Nat} (h : xs.findIdx? (fun x => !okN x) = none) : idxW xs = -1 := by unfold idxW; rw [h]
set_option maxRecDepth 100000 in
theorem indexW_any (A : Option Addr) (n c : Nat) (xs : List Nat) (w : World) (hA : Rd w w.heap.size 1 A n (xs.map fun x : Nat => Value.int .u8 (x : Int))) (hn : n ≤ 100000) (hx : ∀ x ∈ xs, x < 256) :
    Calls Tryd.prog 55 #[.slice A n c, .func (.func 42) #[] #[]] w fun e w' => e = .returned (.int .i64 (idxW xs)) ∧ w = w' := by
  have hlen : xs.length = n := by have := hA.1; simp at this; omega
  have HA := Lib.hid hA; have Hx := Lib.hid hx; have Hlen := Lib.hid hlen
  have hn' : (n : Int) ≤ 100000 := by omega
  clear hA hx hlen
  go_enter Tryd.func55, Tryd.ntmps55
  go_wp2
  go_loopw [8] (fun iv wr => ∃ k : Nat, k ≤ n ∧ iv = .int .i64 k ∧ wr = w ∧ ∀ j, j < k → (xs.getD j 0) < 256 ∧ okN (xs.getD j 0) = true) (fun iv _ => n - (intOf iv).toNat)
  case atStart => exact ⟨0, Nat.zero_le _, rfl, rfl, fun j hj => absurd hj (Nat.not_lt_zero _)⟩
  case round =>
    obtain ⟨k, hk, rfl, rfl, hpre⟩ := hrel
    have Hpre := Lib.hid hpre
    clear hpre
    by_cases hkn : k < n
    · obtain ⟨b1, o1, x, hA1, had1, hy1, e1⟩ := HA.out.at1 hkn
      subst hA1
      have hx256 := Hx.out x (List.mem_of_getElem? hy1)
      have hgd : xs.getD k 0 = x := by rw [List.getD_eq_getElem?_getD, hy1]; rfl
      have Hgd := Lib.hid hgd
      have Hfi := Lib.hid (show okN x = false → xs.findIdx? (fun x => !okN x) = some k from fun ho => by
        rw [List.findIdx?_eq_some_iff_getElem]
        obtain ⟨hl, hv⟩ := List.getElem?_eq_some_iff.1 hy1
        refine ⟨hl, by rw [hv, ho]; rfl, fun j hj => ?_⟩
        have h2 := (Hpre.out j hj).2
        have e2 : xs.getD j 0 = xs[j] := by rw [List.getD_eq_getElem?_getD, List.getElem?_eq_getElem]; rfl
        rw [e2] at h2
        rw [h2]; decide)
      clear hy1 hgd
      go_wp2_with fail
      refine (wordC_any x hx256 _).mono ?_
      rintro e w' ⟨rfl, rfl⟩
      cases ho : okN x with
      | true =>
        have Ho := Lib.hid ho
        clear ho
        go_wp2
        go_roundw
        case rel => exact ⟨k + 1, by omega, by go_num, by first | rfl | trivial, fun j hj => by
          rcases Nat.lt_or_ge j k with h | h
          · exact Hpre.out j h
          · obtain rfl : j = k := by omega
            rw [Hgd.out]; exact ⟨hx256, Ho.out⟩⟩
        case measure => simp [intOf]; omega
      | false =>
        have Hf := Lib.hid (Hfi.out ho)
        clear ho
        go_wp2
        go_ret
        exact ⟨by rw [idxW_some Hf.out]; rfl, rfl⟩
    · obtain rfl : k = n := by omega
      have Hf := Lib.hid (show xs.findIdx? (fun x => !okN x) = none from by
        rw [List.findIdx?_eq_none_iff]
        intro x hx
        obtain ⟨j, hj, rfl⟩ := List.getElem_of_mem hx
        have h2 := (Hpre.out j (by rw [← Hlen.out]; exact hj)).2
        have e2 : xs.getD j 0 = xs[j] := by rw [List.getD_eq_getElem?_getD, List.getElem?_eq_getElem hj]; rfl
        rw [e2] at h2
        rw [h2]; decide)
      go_wp2
      go_ret
      exact ⟨by rw [idxW_none Hf.out]; rfl, rfl⟩

set_option maxRecDepth 100000 in
theorem containsW_any (A : Option Addr) (n c : Nat) (xs : List Nat) (w : World) (hA : Rd w w.heap.size 1 A n (xs.map fun x : Nat => Value.int .u8 (x : Int))) (hn : n ≤ 100000) (hx : ∀ x ∈ xs, x < 256) :
    Calls Tryd.prog 41 #[.slice A n c, .func (.func 42) #[] #[]] w fun e w' => e = .returned (.bool (!xs.all okN)) ∧ w = w' := by
  have Hc := Lib.hid (indexW_any A n c xs w hA hn hx)
  clear hA hx
  cases hf : xs.findIdx? fun x => !okN x with
  | none =>
    rw [idxW_none hf] at Hc
    have Hr := Lib.hid (show xs.all okN = true from by
      rw [List.findIdx?_eq_none_iff] at hf
      exact List.all_eq_true.2 fun x hx => by simpa using hf x hx)
    clear hf
    go_enter Tryd.func41, Tryd.ntmps41
    go_wp2_with fail
    refine Hc.out.mono ?_
    rintro e w' ⟨rfl, rfl⟩
    go_wp2
    go_ret
    exact ⟨by rw [Hr.out]; rfl, rfl⟩
  | some k =>
    rw [idxW_some hf] at Hc
    have Hr := Lib.hid (show xs.all okN = false from by
      rw [List.findIdx?_eq_some_iff_getElem] at hf
      obtain ⟨hl, h2, _⟩ := hf
      rw [← Bool.not_eq_true, List.all_eq_true]
      intro h3
      have := h3 _ (List.getElem_mem hl)
      rw [this] at h2
      cases h2)
    clear hf
    go_enter Tryd.func41, Tryd.ntmps41
    go_wp2_with fail
    refine Hc.out.mono ?_
    rintro e w' ⟨rfl, rfl⟩
    go_wp2
    go_ret
    exact ⟨by rw [Hr.out]; rfl, rfl⟩
theorem all_nats (s : Bs) : (natsOf s).all okN = s.all okB := by
  unfold natsOf
  rw [List.all_map]
  congr 1
  funext b
  rw [okB_nat]; rfl

set_option maxRecDepth 100000 in
theorem word_any (s : Bs) (w : World) :
    Calls Tryd.prog 30 #[.string (B8 s)] w fun e w' => e = .returned (.bool (wordB s)) ∧ Below w.heap.size w w' := by
  obtain ⟨n, hn⟩ : ∃ n, n = s.length := ⟨_, rfl⟩
  have hsz : (B8 s).size = n := by rw [B8_size, hn]
  by_cases h0 : n = 0
  · have hs : s = [] := List.length_eq_zero_iff.1 (by omega)
    subst hs
    have hnil : (B8 []).toList = [] := B8_toList []
    have Hr := Lib.hid (show wordB [] = false from rfl)
    generalize B8 [] = st at hsz hnil ⊢
    go_enter Tryd.func30, Tryd.ntmps30
    go_wp2
    go_ret
    exact ⟨by rw [Hr.out]; rfl, Below.refl _ _⟩
  have hne : ¬ (B8 s).toList = [] := by
    rw [B8_toList]; intro h; rw [h] at hn; exact h0 hn
  by_cases h12 : 12 < n
  · have Hr := Lib.hid (show wordB s = false from by unfold wordB; rw [decide_eq_false (by omega)]; rfl)
    have h12' : ¬ (n : Int) ≤ 12 := by omega
    clear hn
    generalize B8 s = st at hsz hne ⊢
    go_enter Tryd.func30, Tryd.ntmps30
    go_wp2
    go_ret
    exact ⟨by rw [Hr.out]; rfl, Below.refl _ _⟩
  · have Hr := Lib.hid (show wordB s = s.all okB from by unfold wordB; rw [decide_eq_true (by omega)]; rfl)
    have h12' : (n : Int) ≤ 12 := by omega
    obtain ⟨cap, W, hcv, hcb, hcs, hcr, _, _⟩ := conv_str (natsOf s) (natsOf_256 s) w
    rw [show (natsOf s).length = n by rw [natsOf, List.length_map, hn], bytesOf_nats] at hcv
    rw [show (natsOf s).length = n by rw [natsOf, List.length_map, hn]] at hcr
    have Hcb := Lib.hid hcb
    have Hc := Lib.hid (containsW_any _ n cap (natsOf s) W (hcr.more (by omega)) (by omega) (natsOf_256 s))
    rw [all_nats] at Hc
    clear hn hcb hcr hcs
    have Hn2 := Lib.hid (show (B8 s).toList.isEmpty = false from by rw [B8_toList]; cases s with
      | nil => exact absurd (B8_toList []) hne
      | cons => rfl)
    generalize B8 s = st at hsz hne hcv Hn2 ⊢
    go_enter Tryd.func30, Tryd.ntmps30
    go_wp2_with fail
    refine Hc.out.mono ?_
    rintro e w' ⟨rfl, rfl⟩
    cases hs : s.all okB with
    | true =>
      rw [hs] at Hr
      go_wp2
      go_ret
      exact ⟨by rw [Hr.out]; show Ending.returned (.bool (!st.toList.isEmpty)) = _; rw [Hn2.out]; rfl, Hcb.out⟩
    | false =>
      rw [hs] at Hr
      go_wp2
      go_ret
      exact ⟨by rw [Hr.out]; rfl, Hcb.out⟩
set_option maxRecDepth 100000 in
theorem name_any (s : Bs) (w : World) :
    Calls Tryd.prog 29 #[.string (B8 s)] w fun e w' => e = .returned (.bool (nameB s)) ∧ Below w.heap.size w w' := by
  have Hw := Lib.hid (word_any s w)
  cases hs : wordB s with
  | false =>
    rw [hs] at Hw
    have Hr := Lib.hid (show nameB s = false from by unfold nameB; rw [hs]; rfl)
    clear hs
    generalize B8 s = st at Hw ⊢
    go_enter Tryd.func29, Tryd.ntmps29
    go_wp2_with fail
    refine Hw.out.mono ?_
    rintro e w1 ⟨rfl, hb⟩
    have HB1 := Lib.hid hb; clear hb
    go_wp2
    go_ret
    exact ⟨by rw [Hr.out]; rfl, HB1.out⟩
  | true =>
    rw [hs] at Hw
    cases s with
    | nil => cases hs
    | cons b t =>
      have hb := hs
      unfold wordB at hb
      rw [Bool.and_eq_true] at hb
      have hob := (List.all_eq_true.1 hb.2) b List.mem_cons_self
      have hsz : (B8 (b :: t)).size = t.length + 1 := by rw [B8_size, List.length_cons]
      have hg : ∀ h : 0 < (B8 (b :: t)).size, ((B8 (b :: t))[0]).toNat = b.toNat := fun h => by rw [B8_get (b :: t) 0 h b rfl]
      obtain ⟨x, hx⟩ : ∃ x, x = b.toNat := ⟨_, rfl⟩
      rw [okB_nat, ← hx] at hob
      have hob2 : okN x = true := hob
      rw [okN_true] at hob2
      have Hr := Lib.hid (show nameB (b :: t) = decide (97 ≤ x) from by unfold nameB; rw [hs, Bool.true_and, hx]; rfl)
      rw [← hx] at hg
      obtain ⟨m, hm⟩ : ∃ m, m = t.length := ⟨_, rfl⟩
      rw [← hm] at hsz
      clear hs hb hob hx hm
      generalize B8 (b :: t) = st at hsz hg Hw ⊢
      have hpos : 0 < st.size := by omega
      have hg0 := hg hpos
      clear hg
      by_cases h97 : 97 ≤ x
      · have h97' : (97 : Int) ≤ (x : Int) := by omega
        have h122 : (x : Int) ≤ 122 := by omega
        clear hob2
        go_enter Tryd.func29, Tryd.ntmps29
        go_wp2_with fail
        refine Hw.out.mono ?_
        rintro e w1 ⟨rfl, hb⟩
        have HB1 := Lib.hid hb; clear hb
        go_wp2
        go_ret
        exact ⟨by rw [Hr.out, decide_eq_true h97]; rfl, HB1.out⟩
      · have h97' : ¬ (97 : Int) ≤ (x : Int) := by omega
        clear hob2
        go_enter Tryd.func29, Tryd.ntmps29
        go_wp2_with fail
        refine Hw.out.mono ?_
        rintro e w1 ⟨rfl, hb⟩
        have HB1 := Lib.hid hb; clear hb
        go_wp2
        go_ret
        exact ⟨by rw [Hr.out, decide_eq_false h97]; rfl, HB1.out⟩
theorem B8_at (s : Bs) (k : Nat) (h : k < (B8 s).size) : ((B8 s)[k]).toNat = (s.getD k 0).toNat := by
  have hk : k < s.length := by rw [B8_size] at h; exact h
  rw [B8_get s k h (s[k]) (List.getElem?_eq_getElem hk), List.getD_eq_getElem?_getD, List.getElem?_eq_getElem hk]; rfl

set_option maxRecDepth 100000 in
set_option maxHeartbeats 1000000 in
theorem isWord_any (s : Bs) (hl : s.length ≤ 100000) (w : World) :
    Calls Tryd.prog 22 #[.string (B8 s)] w fun e w' => e = .returned (.bool (wordB s)) ∧ w = w' := by
  obtain ⟨n, hn⟩ : ∃ n, n = s.length := ⟨_, rfl⟩
  have hsz : (B8 s).size = n := by rw [B8_size, hn]
  have Hat := Lib.hid (fun k (h : k < (B8 s).size) => B8_at s k h)
  have Hn := Lib.hid hn
  have hn' : n ≤ 100000 := by omega
  clear hn hl
  generalize B8 s = st at hsz Hat ⊢
  go_enter Tryd.func22, Tryd.ntmps22
  go_wp2
  go_loopw [3] (fun iv wr => ∃ k : Nat, k ≤ n ∧ iv = .int .i64 k ∧ wr = w ∧ ∀ j, j < k → okB (s.getD j 0) = true) (fun iv _ => n - (intOf iv).toNat)
  case atStart => exact ⟨0, Nat.zero_le _, rfl, rfl, fun j hj => absurd hj (Nat.not_lt_zero _)⟩
  case round =>
    obtain ⟨k, hk, rfl, rfl, hpre⟩ := hrel
    have Hpre := Lib.hid hpre
    clear hpre
    by_cases hkn : k < n
    · have hks : k < st.size := by omega
      have hat := Hat.out k hks
      obtain ⟨x, hx⟩ : ∃ x, x = (s.getD k 0).toNat := ⟨_, rfl⟩
      have hok : okB (s.getD k 0) = okN x := by rw [okB_nat, ← hx]; rfl
      have Hok := Lib.hid hok
      rw [← hx] at hat
      have hgd : s[k]? = some (s.getD k 0) := by rw [List.getD_eq_getElem?_getD, List.getElem?_eq_getElem (by rw [← Hn.out]; exact hkn)]; rfl
      have Hbad := Lib.hid (show okN x = false → wordB s = false from fun h => by
        unfold wordB
        rw [show s.all okB = false from by
          rw [← Bool.not_eq_true, List.all_eq_true]
          intro h3
          have := h3 _ (List.mem_of_getElem? hgd)
          rw [hok, h] at this
          cases this]
        exact Bool.and_false _)
      have hkl : (k : Int) < (n : Int) := by omega
      clear hok hx hgd
      rcases (show x < 45 ∨ x = 45 ∨ (45 < x ∧ x < 48) ∨ (48 ≤ x ∧ x ≤ 57) ∨ (57 < x ∧ x < 97) ∨ (97 ≤ x ∧ x ≤ 122) ∨ 122 < x by omega) with h | h | ⟨h, h2⟩ | ⟨h, h2⟩ | ⟨h, h2⟩ | ⟨h, h2⟩ | h
      case' inl => (have Hr := Lib.hid (Hbad.out (okN_false.2 (by omega))); have d45 : ((x : Int) == 45) = false := (by rw [beq_eq_false_iff_ne]; omega))
      case' inr.inl =>
        have Hr := Lib.hid (show okB (s.getD k 0) = true from Hok.out.trans (okN_true.2 (by omega)))
        subst h
      case' inr.inr.inl => (have Hr := Lib.hid (Hbad.out (okN_false.2 (by omega))); have d45 : ((x : Int) == 45) = false := (by rw [beq_eq_false_iff_ne]; omega))
      case' inr.inr.inr.inl => have Hr := Lib.hid (show okB (s.getD k 0) = true from Hok.out.trans (okN_true.2 (by omega)))
      case' inr.inr.inr.inr.inl => (have Hr := Lib.hid (Hbad.out (okN_false.2 (by omega))); have d45 : ((x : Int) == 45) = false := (by rw [beq_eq_false_iff_ne]; omega); have d57 : decide ((x : Int) ≤ 57) = false := decide_eq_false (by omega))
      case' inr.inr.inr.inr.inr.inl => have Hr := Lib.hid (show okB (s.getD k 0) = true from Hok.out.trans (okN_true.2 (by omega)))
      case' inr.inr.inr.inr.inr.inr => (have Hr := Lib.hid (Hbad.out (okN_false.2 (by omega))); have d45 : ((x : Int) == 45) = false := (by rw [beq_eq_false_iff_ne]; omega); have d57 : decide ((x : Int) ≤ 57) = false := decide_eq_false (by omega); have d122 : decide ((x : Int) ≤ 122) = false := decide_eq_false (by omega))
      all_goals
        clear Hok Hbad
        go_wp2
      all_goals first
        | (go_ret; exact ⟨congrArg (fun b => Ending.returned (.bool b)) Hr.out.symm, rfl⟩)
        | (go_roundw
           case rel => exact ⟨k + 1, by omega, by go_num, by first | rfl | trivial, fun j hj => by
             rcases Nat.lt_or_ge j k with h' | h'
             · exact Hpre.out j h'
             · obtain rfl : j = k := by omega
               exact Hr.out⟩
           case measure => simp [intOf]; omega)
    · obtain rfl : k = n := by omega
      have hall : s.all okB = true := List.all_eq_true.2 fun b hb => by
        obtain ⟨j, hj, rfl⟩ := List.getElem_of_mem hb
        have h2 := Hpre.out j (by rw [Hn.out]; exact hj)
        rwa [List.getD_eq_getElem?_getD, List.getElem?_eq_getElem hj] at h2
      have Hr := Lib.hid (show wordB s = decide (1 ≤ k ∧ k ≤ 12) from by unfold wordB; rw [hall, Bool.and_true, Hn.out])
      clear hall
      rcases (show k = 0 ∨ (1 ≤ k ∧ k ≤ 12) ∨ 12 < k by omega) with h | ⟨h, h2⟩ | h
      · subst h
        go_wp2
        go_ret
        exact ⟨by rw [Hr.out]; rfl, rfl⟩
      · have h3 : (1 : Int) ≤ k := by omega
        have h4 : (k : Int) ≤ 12 := by omega
        go_wp2
        go_ret
        exact ⟨by rw [Hr.out, decide_eq_true ⟨h, h2⟩]; rfl, rfl⟩
      · have h3 : (1 : Int) ≤ k := by omega
        have h4 : ¬ (k : Int) ≤ 12 := by omega
        go_wp2
        go_ret
        exact ⟨by rw [Hr.out, decide_eq_false (by omega)]; rfl, rfl⟩

set_option maxRecDepth 100000 in
theorem isName_any (s : Bs) (hl : s.length ≤ 100000) (w : World) :
    Calls Tryd.prog 21 #[.string (B8 s)] w fun e w' => e = .returned (.bool (nameB s)) ∧ w = w' := by
  have Hw := Lib.hid (isWord_any s hl w)
  cases hs : wordB s with
  | false =>
    rw [hs] at Hw
    have Hr := Lib.hid (show nameB s = false from by unfold nameB; rw [hs]; rfl)
    clear hs
    generalize B8 s = st at Hw ⊢
    go_enter Tryd.func21, Tryd.ntmps21
    go_wp2_with fail
    refine Hw.out.mono ?_
    rintro e w1 ⟨rfl, rfl⟩
    go_wp2
    go_ret
    exact ⟨by rw [Hr.out]; rfl, rfl⟩
  | true =>
    rw [hs] at Hw
    cases s with
    | nil => cases hs
    | cons b t =>
      have hsz : (B8 (b :: t)).size = t.length + 1 := by rw [B8_size, List.length_cons]
      have hg : ∀ h : 0 < (B8 (b :: t)).size, ((B8 (b :: t))[0]).toNat = b.toNat := fun h => by rw [B8_get (b :: t) 0 h b rfl]
      obtain ⟨x, hx⟩ : ∃ x, x = b.toNat := ⟨_, rfl⟩
      have Hr := Lib.hid (show nameB (b :: t) = decide (97 ≤ x) from by unfold nameB; rw [hs, Bool.true_and, hx]; rfl)
      rw [← hx] at hg
      obtain ⟨m, hm⟩ : ∃ m, m = t.length := ⟨_, rfl⟩
      rw [← hm] at hsz
      clear hs hx hm
      generalize B8 (b :: t) = st at hsz hg Hw ⊢
      have hpos : 0 < st.size := by omega
      have hg0 := hg hpos
      clear hg
      by_cases h97 : 97 ≤ x
      · have h97' : (97 : Int) ≤ (x : Int) := by omega
        go_enter Tryd.func21, Tryd.ntmps21
        go_wp2_with fail
        refine Hw.out.mono ?_
        rintro e w1 ⟨rfl, rfl⟩
        go_wp2
        go_ret
        exact ⟨by rw [Hr.out, decide_eq_true h97]; rfl, rfl⟩
      · have h97' : ¬ (97 : Int) ≤ (x : Int) := by omega
        have hd97 : decide ((97 : Int) ≤ (x : Int)) = false := decide_eq_false h97'
        go_enter Tryd.func21, Tryd.ntmps21
        go_wp2_with fail
        refine Hw.out.mono ?_
        rintro e w1 ⟨rfl, rfl⟩
        go_wp2
        go_ret
        exact ⟨by rw [Hr.out, decide_eq_false h97]; rfl, rfl⟩
end Go.Proofs.YtlpkmghhmpkddaaDoor
