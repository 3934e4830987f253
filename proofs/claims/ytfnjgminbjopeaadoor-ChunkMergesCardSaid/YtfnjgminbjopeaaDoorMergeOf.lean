/- The reference's MergeOf by its contract. -/
import Derived.Test.YtfnjgminbjopeaaDoorBetween
import Derived.Test.YtfnjgminbjopeaaDoorMergeN
import Derived.OwnWalk
import Derived.BigQuiet
namespace Go.Proofs.YtfnjgminbjopeaaDoor
open Go.RowKit
set_option linter.unusedVariables false

theorem drop_at {l : List (Int × Int)} {k : Nat} {y : Int × Int} (h : l[k]? = some y) : l.drop k = y :: l.drop (k + 1) := by
  have hk : k < l.length := (List.getElem?_eq_some_iff.1 h).1
  rw [List.drop_eq_getElem_cons hk]; congr 1; exact (List.getElem?_eq_some_iff.1 h).2
theorem ptsC_append (a b : List (Int × Int)) : ptsC (a ++ b) = ptsC a ++ ptsC b := by simp [ptsC]
theorem ptsC_drop (a : List (Int × Int)) (k : Nat) : (ptsC a).drop (k * 2) = ptsC (a.drop k) := flat_drop (fun p : Int × Int => [Value.int .i64 p.1, Value.int .u64 p.2]) 2 (fun _ => rfl) a k
theorem ptsC_len (a : List (Int × Int)) : (ptsC a).length = a.length * 2 := flat_len (fun p : Int × Int => [Value.int .i64 p.1, Value.int .u64 p.2]) 2 (fun _ => rfl) a
theorem mg_append {w wr wa : World} {v v' : Value} {l : List (Int × Int)} {y : Int × Int} (hown : wr.ownsRow w.heap.size 33 2 v l.length (ptsC l)) (hb : Below w.heap.size w wr)
    (hown' : wa.ownsRow w.heap.size 33 2 v' (l.length + 1) (ptsC l ++ ptsC [y])) (hgr : (wr.alloc (.cells #[.int .i64 y.1, .int .u64 y.2] 33)).grownBy wa v.ownBlock) :
    wa.ownsRow w.heap.size 33 2 v' (l ++ [y]).length (ptsC (l ++ [y])) ∧ Below w.heap.size w wa :=
  ⟨by rw [List.length_append, ptsC_append]; exact hown', Below.grown (Below.alloc hb hb.size _) hgr (by have := hb.size; simp; omega) (fun g hg => (own_lt hown g hg).1)⟩
theorem mg_more {w wr wa : World} {v v' : Value} {l m : List (Int × Int)} {r : Nat} (hr : r = m.length) (hown : wr.ownsRow w.heap.size 33 2 v l.length (ptsC l)) (hb : Below w.heap.size w wr)
    (hown' : wa.ownsRow w.heap.size 33 2 v' (l.length + r) (ptsC l ++ ptsC m)) (hgr : wr.grownBy wa v.ownBlock) :
    wa.ownsRow w.heap.size 33 2 v' (l ++ m).length (ptsC (l ++ m)) ∧ Below w.heap.size w wa :=
  ⟨by rw [List.length_append, ptsC_append, ← hr]; exact hown', Below.grown hb hgr hb.size (fun g hg => (own_lt hown g hg).1)⟩

set_option maxRecDepth 100000 in
set_option maxHeartbeats 4000000 in
theorem mergeOf_any (A : Option Addr) (n c : Nat) (A' : Option Addr) (n' c' : Nat) (a b : List (Int × Int)) (w : World) (hA : Rd w w.heap.size 2 A n (ptsC a)) (hA' : Rd w w.heap.size 2 A' n' (ptsC b)) (hn : n ≤ 10000) (hn' : n' ≤ 10000) (hc : n ≤ c) (hc' : n' ≤ c') :
    Calls Tryd.prog 17 #[.slice A n c, .slice A' n' c'] w fun e w' => ∃ v, e = .returned v ∧ w'.ownsRow w.heap.size 33 2 v (mergeP a b).length (ptsC (mergeP a b)) ∧ Below w.heap.size w w' := by
  have hla : a.length = n := by have := hA.1; rw [ptsC_len] at this; omega
  have hlb : b.length = n' := by have := hA'.1; rw [ptsC_len] at this; omega
  obtain ⟨i0, hi, hz0, hz1, hz2⟩ := info_parts infoPt
  have Hi := Lib.hid hi; have Hz0 := Lib.hid hz0; have Hz1 := Lib.hid hz1; have Hz2 := Lib.hid hz2
  have HA := Lib.hid hA; have HA' := Lib.hid hA'; have Hla := Lib.hid hla; have Hlb := Lib.hid hlb
  clear hi hz0 hz1 hz2 hA hA' hla hlb
  go_enter Tryd.func17, Tryd.ntmps17
  go_wp2
  go_loopw [5, 6, 7] (fun o iv kv wr => ∃ (i k : Nat) (acc : List (Int × Int)), i ≤ n ∧ k ≤ n' ∧ iv = .int .i64 i ∧ kv = .int .i64 k ∧ acc ++ mergeP (a.drop i) (b.drop k) = mergeP a b ∧ acc.length ≤ i + k ∧ wr.ownsRow w.heap.size 33 2 o acc.length (ptsC acc) ∧ Below w.heap.size w wr) (fun _ iv kv _ => (n - (intOf iv).toNat) + (n' - (intOf kv).toNat))
  case atStart => exact ⟨0, 0, [], Nat.zero_le _, Nat.zero_le _, rfl, rfl, rfl, Nat.zero_le _, World.ownsRow_nil _ _ _ _, Below.refl _ _⟩
  case round =>
    obtain ⟨i, k, acc, hin, hkn, rfl, rfl, hacc, hlen, hown, hbel⟩ := hrel
    obtain ⟨Ao, co, rfl, _, _, _⟩ := own_form hown
    have Hacc := Lib.hid hacc; have Hown := Lib.hid hown; have Hbel := Lib.hid hbel
    have hws : w.heap.size ≤ wr.heap.size := hbel.size
    clear hacc hown hbel
    by_cases hi1 : i < n
    · by_cases hk1 : k < n'
      · obtain ⟨b1, o1, y, hA1, had1, hy, e0, e1⟩ := (HA.out.below Hbel.out).at2 hi1
        obtain ⟨b2, o2, z, hA2, had2, hz, e2, e3⟩ := (HA'.out.below Hbel.out).at2 hk1
        subst hA1; subst hA2
        have hda := drop_at hy; have hdb := drop_at hz
        have hk63 : acc.length + 1 ≤ maxLen := by unfold maxLen; omega
        have hk8 : (acc.length + 1) * 16 ≤ 140737488355328 := by omega
        rcases Int.lt_trichotomy y.1 z.1 with hlt | heq | hgt
        · have hm : (acc ++ [y]) ++ mergeP (a.drop (i + 1)) (b.drop k) = mergeP a b := by rw [← Hacc.out, hda, hdb, merge_lt hlt]; simp
          have Hm := Lib.hid hm
          have hd1 : decide (y.1 < z.1) = true := decide_eq_true hlt
          have HrA := Lib.hid (show ∀ q, Rd ((wr.drewN q).alloc (.cells #[.int .i64 y.1, .int .u64 y.2] 33)) ((wr.drewN q).alloc (.cells #[.int .i64 y.1, .int .u64 y.2] 33)).heap.size 2 (some ⟨wr.heap.size, 0, none⟩) 1 (ptsC [y]) from fun q => Rd.one2 (wr.drewN q) 33 y)
          have Hsz := Lib.hid (show ∀ q, w.heap.size ≤ ((wr.drewN q).alloc (.cells #[.int .i64 y.1, .int .u64 y.2] 33)).heap.size from fun q => by simp; omega)
          clear hm hda hdb hy hz
          go_wp2
          go_quiet (fail)
          go_wp2_with (at_builtin; refine wpList_append_rd _ rfl (.tmp 29) (.tmp 34) _ rfl w.heap.size 33 i0 (.agg #[.int .i64 0, .int .u64 0]) 2 16 Tryd.underlying22 Hi.out Hz0.out Hz1.out Hz2.out rfl (by decide) (.slice Ao acc.length co) acc.length _ rfl ((own_drewN Hown.out _).alloc _) _ _ 1 1 (ptsC [y]) rfl (HrA.out _) (ptsC_one [y]) hk63 hk8 (Hsz.out _) ?_; intro v' wa hown' hgr hat; have HR := Lib.hid (mg_append (own_drewN Hown.out _) (Below.drewN Hbel.out _) hown' hgr); clear hown' hgr hat)
          go_roundw
          case rel => exact ⟨i + 1, k, acc ++ [y], by omega, hkn, by go_num, rfl, Hm.out, by rw [List.length_append, List.length_singleton]; omega, HR.out.1, HR.out.2⟩
          case measure => simp [intOf]; omega
        · have hm : acc ++ mergeP (a.drop (i + 1)) (b.drop k) = mergeP a b := by rw [← Hacc.out, hda, hdb, merge_eq heq]
          have Hm := Lib.hid hm
          have hd1 : decide (y.1 < z.1) = false := decide_eq_false (by omega)
          have hd2 : decide (z.1 < y.1) = false := decide_eq_false (by omega)
          clear hm hda hdb hy hz heq
          go_wp2
          go_quiet (fail)
          go_wp2
          go_quiet (fail)
          go_wp2
          go_roundw
          case rel => exact ⟨i + 1, k, acc, by omega, hkn, by go_num, rfl, Hm.out, by omega, (by first | exact own_drewN (own_drewN Hown.out _) _ | exact own_drewN Hown.out _), (by first | exact Below.drewN (Below.drewN Hbel.out _) _ | exact Below.drewN Hbel.out _)⟩
          case measure => simp [intOf]; omega
        · have hm : (acc ++ [z]) ++ mergeP (a.drop i) (b.drop (k + 1)) = mergeP a b := by rw [← Hacc.out, hda, hdb, merge_gt hgt]; simp
          have Hm := Lib.hid hm
          have hd1 : decide (y.1 < z.1) = false := decide_eq_false (by omega)
          have hd2 : decide (z.1 < y.1) = true := decide_eq_true hgt
          have HrA := Lib.hid (show ∀ q, Rd ((wr.drewN q).alloc (.cells #[.int .i64 z.1, .int .u64 z.2] 33)) ((wr.drewN q).alloc (.cells #[.int .i64 z.1, .int .u64 z.2] 33)).heap.size 2 (some ⟨wr.heap.size, 0, none⟩) 1 (ptsC [z]) from fun q => Rd.one2 (wr.drewN q) 33 z)
          have Hsz := Lib.hid (show ∀ q, w.heap.size ≤ ((wr.drewN q).alloc (.cells #[.int .i64 z.1, .int .u64 z.2] 33)).heap.size from fun q => by simp; omega)
          clear hm hda hdb hy hz
          go_wp2
          go_quiet (fail)
          go_wp2
          go_quiet (fail)
          go_wp2_with (at_builtin; refine wpList_append_rd _ rfl (.tmp 49) (.tmp 54) _ rfl w.heap.size 33 i0 (.agg #[.int .i64 0, .int .u64 0]) 2 16 Tryd.underlying22 Hi.out Hz0.out Hz1.out Hz2.out rfl (by decide) (.slice Ao acc.length co) acc.length _ rfl ((own_drewN Hown.out _).alloc _) _ _ 1 1 (ptsC [z]) rfl (HrA.out _) (ptsC_one [z]) hk63 hk8 (Hsz.out _) ?_; intro v' wa hown' hgr hat; have HR := Lib.hid (mg_append (own_drewN Hown.out _) (Below.drewN Hbel.out _) hown' hgr); clear hown' hgr hat)
          go_roundw
          case rel => exact ⟨i, k + 1, acc ++ [z], hin, by omega, rfl, by go_num, Hm.out, by rw [List.length_append, List.length_singleton]; omega, HR.out.1, HR.out.2⟩
          case measure => simp [intOf]; omega
      · have hfin : acc ++ (a.drop i ++ b.drop k) = mergeP a b := by rw [← Hacc.out, List.drop_of_length_le (l := b) (by rw [Hlb.out]; omega), merge_nil, List.append_nil]
        have Hfin := Lib.hid hfin
        have hk63 : acc.length + (n - i) ≤ maxLen := by unfold maxLen; omega
        have hk8 : (acc.length + (n - i)) * 16 ≤ 140737488355328 := by omega
        have hlA : n - i = (a.drop i).length := by rw [List.length_drop, Hla.out]
        have hlB : n' - k = (b.drop k).length := by rw [List.length_drop, Hlb.out]
        have hk64 : (acc ++ a.drop i).length + (n' - k) ≤ maxLen := by rw [List.length_append, ← hlA]; unfold maxLen; omega
        have hk9 : ((acc ++ a.drop i).length + (n' - k)) * 16 ≤ 140737488355328 := by rw [List.length_append, ← hlA]; omega
        have hci : (i : Int) ≤ (n : Int) := by omega
        have hck : (k : Int) ≤ (n' : Int) := by omega
        have HlA := Lib.hid hlA; have HlB := Lib.hid hlB
        have HcA := Lib.hid (show Rd wr wr.heap.size 2 (if c = i then A else A.map (·.add (i * 2))) (n - i) (ptsC (a.drop i)) from by rw [← ptsC_drop]; exact ((HA.out.below Hbel.out).more hws).cut hin hc)
        have HcB := Lib.hid (show ∀ W, Below w.heap.size w W → Rd W W.heap.size 2 (if c' = k then A' else A'.map (·.add (k * 2))) (n' - k) (ptsC (b.drop k)) from fun W hW => by rw [← ptsC_drop]; exact ((HA'.out.below hW).more hW.size).cut hkn hc')
        have tok1 : True := trivial
        clear hfin hlA hlB
        by_cases hca : c = i
        · have HcA2 := Lib.hid (by have h := HcA.out; rw [if_pos hca] at h; exact h)
          by_cases hcb : c' = k
          · have HcB2 := Lib.hid (fun W hW => by have h := HcB.out W hW; rw [if_pos hcb] at h; exact h)
            go_wp2_with (first
              | (have htok := tok1; at_builtin; refine wpList_append_rd _ rfl (.tmp 60) (.tmp 63) _ rfl w.heap.size 33 i0 (.agg #[.int .i64 0, .int .u64 0]) 2 16 Tryd.underlying22 Hi.out Hz0.out Hz1.out Hz2.out rfl (by decide) (.slice Ao acc.length co) acc.length _ rfl Hown.out _ _ (n - i) _ (ptsC (a.drop i)) rfl HcA2.out (ptsC_one (a.drop i)) hk63 hk8 hws ?_; intro v' wa hown' hgr hat; clear htok tok1; have hR := mg_more HlA.out Hown.out Hbel.out hown' hgr; have HcW := Lib.hid (HcB2.out _ hR.2); have HR := Lib.hid hR; have Hws2 := Lib.hid hR.2.size; clear hown' hgr hat hR)
              | (have htok := HR; at_builtin; refine wpList_append_rd _ rfl (.tmp 65) (.tmp 68) _ rfl w.heap.size 33 i0 (.agg #[.int .i64 0, .int .u64 0]) 2 16 Tryd.underlying22 Hi.out Hz0.out Hz1.out Hz2.out rfl (by decide) _ (acc ++ a.drop i).length _ rfl HR.out.1 _ _ (n' - k) _ (ptsC (b.drop k)) rfl HcW.out (ptsC_one (b.drop k)) hk64 hk9 Hws2.out ?_; intro v'' wb hown' hgr hat; clear htok; have hR := mg_more HlB.out HR.out.1 HR.out.2 hown' hgr; have HF := Lib.hid hR; clear hown' hgr hat hR))
            go_ret
            exact ⟨_, rfl, by rw [← Hfin.out, ← List.append_assoc]; exact HF.out.1, HF.out.2⟩
          · have HcB2 := Lib.hid (fun W hW => by have h := HcB.out W hW; rw [if_neg hcb] at h; exact h)
            go_wp2_with (first
              | (have htok := tok1; at_builtin; refine wpList_append_rd _ rfl (.tmp 60) (.tmp 63) _ rfl w.heap.size 33 i0 (.agg #[.int .i64 0, .int .u64 0]) 2 16 Tryd.underlying22 Hi.out Hz0.out Hz1.out Hz2.out rfl (by decide) (.slice Ao acc.length co) acc.length _ rfl Hown.out _ _ (n - i) _ (ptsC (a.drop i)) rfl HcA2.out (ptsC_one (a.drop i)) hk63 hk8 hws ?_; intro v' wa hown' hgr hat; clear htok tok1; have hR := mg_more HlA.out Hown.out Hbel.out hown' hgr; have HcW := Lib.hid (HcB2.out _ hR.2); have HR := Lib.hid hR; have Hws2 := Lib.hid hR.2.size; clear hown' hgr hat hR)
              | (have htok := HR; at_builtin; refine wpList_append_rd _ rfl (.tmp 65) (.tmp 68) _ rfl w.heap.size 33 i0 (.agg #[.int .i64 0, .int .u64 0]) 2 16 Tryd.underlying22 Hi.out Hz0.out Hz1.out Hz2.out rfl (by decide) _ (acc ++ a.drop i).length _ rfl HR.out.1 _ _ (n' - k) _ (ptsC (b.drop k)) rfl HcW.out (ptsC_one (b.drop k)) hk64 hk9 Hws2.out ?_; intro v'' wb hown' hgr hat; clear htok; have hR := mg_more HlB.out HR.out.1 HR.out.2 hown' hgr; have HF := Lib.hid hR; clear hown' hgr hat hR))
            go_ret
            exact ⟨_, rfl, by rw [← Hfin.out, ← List.append_assoc]; exact HF.out.1, HF.out.2⟩
        · have HcA2 := Lib.hid (by have h := HcA.out; rw [if_neg hca] at h; exact h)
          by_cases hcb : c' = k
          · have HcB2 := Lib.hid (fun W hW => by have h := HcB.out W hW; rw [if_pos hcb] at h; exact h)
            go_wp2_with (first
              | (have htok := tok1; at_builtin; refine wpList_append_rd _ rfl (.tmp 60) (.tmp 63) _ rfl w.heap.size 33 i0 (.agg #[.int .i64 0, .int .u64 0]) 2 16 Tryd.underlying22 Hi.out Hz0.out Hz1.out Hz2.out rfl (by decide) (.slice Ao acc.length co) acc.length _ rfl Hown.out _ _ (n - i) _ (ptsC (a.drop i)) rfl HcA2.out (ptsC_one (a.drop i)) hk63 hk8 hws ?_; intro v' wa hown' hgr hat; clear htok tok1; have hR := mg_more HlA.out Hown.out Hbel.out hown' hgr; have HcW := Lib.hid (HcB2.out _ hR.2); have HR := Lib.hid hR; have Hws2 := Lib.hid hR.2.size; clear hown' hgr hat hR)
              | (have htok := HR; at_builtin; refine wpList_append_rd _ rfl (.tmp 65) (.tmp 68) _ rfl w.heap.size 33 i0 (.agg #[.int .i64 0, .int .u64 0]) 2 16 Tryd.underlying22 Hi.out Hz0.out Hz1.out Hz2.out rfl (by decide) _ (acc ++ a.drop i).length _ rfl HR.out.1 _ _ (n' - k) _ (ptsC (b.drop k)) rfl HcW.out (ptsC_one (b.drop k)) hk64 hk9 Hws2.out ?_; intro v'' wb hown' hgr hat; clear htok; have hR := mg_more HlB.out HR.out.1 HR.out.2 hown' hgr; have HF := Lib.hid hR; clear hown' hgr hat hR))
            go_ret
            exact ⟨_, rfl, by rw [← Hfin.out, ← List.append_assoc]; exact HF.out.1, HF.out.2⟩
          · have HcB2 := Lib.hid (fun W hW => by have h := HcB.out W hW; rw [if_neg hcb] at h; exact h)
            go_wp2_with (first
              | (have htok := tok1; at_builtin; refine wpList_append_rd _ rfl (.tmp 60) (.tmp 63) _ rfl w.heap.size 33 i0 (.agg #[.int .i64 0, .int .u64 0]) 2 16 Tryd.underlying22 Hi.out Hz0.out Hz1.out Hz2.out rfl (by decide) (.slice Ao acc.length co) acc.length _ rfl Hown.out _ _ (n - i) _ (ptsC (a.drop i)) rfl HcA2.out (ptsC_one (a.drop i)) hk63 hk8 hws ?_; intro v' wa hown' hgr hat; clear htok tok1; have hR := mg_more HlA.out Hown.out Hbel.out hown' hgr; have HcW := Lib.hid (HcB2.out _ hR.2); have HR := Lib.hid hR; have Hws2 := Lib.hid hR.2.size; clear hown' hgr hat hR)
              | (have htok := HR; at_builtin; refine wpList_append_rd _ rfl (.tmp 65) (.tmp 68) _ rfl w.heap.size 33 i0 (.agg #[.int .i64 0, .int .u64 0]) 2 16 Tryd.underlying22 Hi.out Hz0.out Hz1.out Hz2.out rfl (by decide) _ (acc ++ a.drop i).length _ rfl HR.out.1 _ _ (n' - k) _ (ptsC (b.drop k)) rfl HcW.out (ptsC_one (b.drop k)) hk64 hk9 Hws2.out ?_; intro v'' wb hown' hgr hat; clear htok; have hR := mg_more HlB.out HR.out.1 HR.out.2 hown' hgr; have HF := Lib.hid hR; clear hown' hgr hat hR))
            go_ret
            exact ⟨_, rfl, by rw [← Hfin.out, ← List.append_assoc]; exact HF.out.1, HF.out.2⟩
    · have hfin : acc ++ (a.drop i ++ b.drop k) = mergeP a b := by rw [← Hacc.out, List.drop_of_length_le (l := a) (by rw [Hla.out]; omega), List.nil_append, mergeP]
      have Hfin := Lib.hid hfin
      have hk63 : acc.length + (n - i) ≤ maxLen := by unfold maxLen; omega
      have hk8 : (acc.length + (n - i)) * 16 ≤ 140737488355328 := by omega
      have hlA : n - i = (a.drop i).length := by rw [List.length_drop, Hla.out]
      have hlB : n' - k = (b.drop k).length := by rw [List.length_drop, Hlb.out]
      have hk64 : (acc ++ a.drop i).length + (n' - k) ≤ maxLen := by rw [List.length_append, ← hlA]; unfold maxLen; omega
      have hk9 : ((acc ++ a.drop i).length + (n' - k)) * 16 ≤ 140737488355328 := by rw [List.length_append, ← hlA]; omega
      have hci : (i : Int) ≤ (n : Int) := by omega
      have hck : (k : Int) ≤ (n' : Int) := by omega
      have HlA := Lib.hid hlA; have HlB := Lib.hid hlB
      have HcA := Lib.hid (show Rd wr wr.heap.size 2 (if c = i then A else A.map (·.add (i * 2))) (n - i) (ptsC (a.drop i)) from by rw [← ptsC_drop]; exact ((HA.out.below Hbel.out).more hws).cut hin hc)
      have HcB := Lib.hid (show ∀ W, Below w.heap.size w W → Rd W W.heap.size 2 (if c' = k then A' else A'.map (·.add (k * 2))) (n' - k) (ptsC (b.drop k)) from fun W hW => by rw [← ptsC_drop]; exact ((HA'.out.below hW).more hW.size).cut hkn hc')
      have tok1 : True := trivial
      clear hfin hlA hlB
      by_cases hca : c = i
      · have HcA2 := Lib.hid (by have h := HcA.out; rw [if_pos hca] at h; exact h)
        by_cases hcb : c' = k
        · have HcB2 := Lib.hid (fun W hW => by have h := HcB.out W hW; rw [if_pos hcb] at h; exact h)
          go_wp2_with (first
            | (have htok := tok1; at_builtin; refine wpList_append_rd _ rfl (.tmp 60) (.tmp 63) _ rfl w.heap.size 33 i0 (.agg #[.int .i64 0, .int .u64 0]) 2 16 Tryd.underlying22 Hi.out Hz0.out Hz1.out Hz2.out rfl (by decide) (.slice Ao acc.length co) acc.length _ rfl Hown.out _ _ (n - i) _ (ptsC (a.drop i)) rfl HcA2.out (ptsC_one (a.drop i)) hk63 hk8 hws ?_; intro v' wa hown' hgr hat; clear htok tok1; have hR := mg_more HlA.out Hown.out Hbel.out hown' hgr; have HcW := Lib.hid (HcB2.out _ hR.2); have HR := Lib.hid hR; have Hws2 := Lib.hid hR.2.size; clear hown' hgr hat hR)
            | (have htok := HR; at_builtin; refine wpList_append_rd _ rfl (.tmp 65) (.tmp 68) _ rfl w.heap.size 33 i0 (.agg #[.int .i64 0, .int .u64 0]) 2 16 Tryd.underlying22 Hi.out Hz0.out Hz1.out Hz2.out rfl (by decide) _ (acc ++ a.drop i).length _ rfl HR.out.1 _ _ (n' - k) _ (ptsC (b.drop k)) rfl HcW.out (ptsC_one (b.drop k)) hk64 hk9 Hws2.out ?_; intro v'' wb hown' hgr hat; clear htok; have hR := mg_more HlB.out HR.out.1 HR.out.2 hown' hgr; have HF := Lib.hid hR; clear hown' hgr hat hR))
          go_ret
          exact ⟨_, rfl, by rw [← Hfin.out, ← List.append_assoc]; exact HF.out.1, HF.out.2⟩
        · have HcB2 := Lib.hid (fun W hW => by have h := HcB.out W hW; rw [if_neg hcb] at h; exact h)
          go_wp2_with (first
            | (have htok := tok1; at_builtin; refine wpList_append_rd _ rfl (.tmp 60) (.tmp 63) _ rfl w.heap.size 33 i0 (.agg #[.int .i64 0, .int .u64 0]) 2 16 Tryd.underlying22 Hi.out Hz0.out Hz1.out Hz2.out rfl (by decide) (.slice Ao acc.length co) acc.length _ rfl Hown.out _ _ (n - i) _ (ptsC (a.drop i)) rfl HcA2.out (ptsC_one (a.drop i)) hk63 hk8 hws ?_; intro v' wa hown' hgr hat; clear htok tok1; have hR := mg_more HlA.out Hown.out Hbel.out hown' hgr; have HcW := Lib.hid (HcB2.out _ hR.2); have HR := Lib.hid hR; have Hws2 := Lib.hid hR.2.size; clear hown' hgr hat hR)
            | (have htok := HR; at_builtin; refine wpList_append_rd _ rfl (.tmp 65) (.tmp 68) _ rfl w.heap.size 33 i0 (.agg #[.int .i64 0, .int .u64 0]) 2 16 Tryd.underlying22 Hi.out Hz0.out Hz1.out Hz2.out rfl (by decide) _ (acc ++ a.drop i).length _ rfl HR.out.1 _ _ (n' - k) _ (ptsC (b.drop k)) rfl HcW.out (ptsC_one (b.drop k)) hk64 hk9 Hws2.out ?_; intro v'' wb hown' hgr hat; clear htok; have hR := mg_more HlB.out HR.out.1 HR.out.2 hown' hgr; have HF := Lib.hid hR; clear hown' hgr hat hR))
          go_ret
          exact ⟨_, rfl, by rw [← Hfin.out, ← List.append_assoc]; exact HF.out.1, HF.out.2⟩
      · have HcA2 := Lib.hid (by have h := HcA.out; rw [if_neg hca] at h; exact h)
        by_cases hcb : c' = k
        · have HcB2 := Lib.hid (fun W hW => by have h := HcB.out W hW; rw [if_pos hcb] at h; exact h)
          go_wp2_with (first
            | (have htok := tok1; at_builtin; refine wpList_append_rd _ rfl (.tmp 60) (.tmp 63) _ rfl w.heap.size 33 i0 (.agg #[.int .i64 0, .int .u64 0]) 2 16 Tryd.underlying22 Hi.out Hz0.out Hz1.out Hz2.out rfl (by decide) (.slice Ao acc.length co) acc.length _ rfl Hown.out _ _ (n - i) _ (ptsC (a.drop i)) rfl HcA2.out (ptsC_one (a.drop i)) hk63 hk8 hws ?_; intro v' wa hown' hgr hat; clear htok tok1; have hR := mg_more HlA.out Hown.out Hbel.out hown' hgr; have HcW := Lib.hid (HcB2.out _ hR.2); have HR := Lib.hid hR; have Hws2 := Lib.hid hR.2.size; clear hown' hgr hat hR)
            | (have htok := HR; at_builtin; refine wpList_append_rd _ rfl (.tmp 65) (.tmp 68) _ rfl w.heap.size 33 i0 (.agg #[.int .i64 0, .int .u64 0]) 2 16 Tryd.underlying22 Hi.out Hz0.out Hz1.out Hz2.out rfl (by decide) _ (acc ++ a.drop i).length _ rfl HR.out.1 _ _ (n' - k) _ (ptsC (b.drop k)) rfl HcW.out (ptsC_one (b.drop k)) hk64 hk9 Hws2.out ?_; intro v'' wb hown' hgr hat; clear htok; have hR := mg_more HlB.out HR.out.1 HR.out.2 hown' hgr; have HF := Lib.hid hR; clear hown' hgr hat hR))
          go_ret
          exact ⟨_, rfl, by rw [← Hfin.out, ← List.append_assoc]; exact HF.out.1, HF.out.2⟩
        · have HcB2 := Lib.hid (fun W hW => by have h := HcB.out W hW; rw [if_neg hcb] at h; exact h)
          go_wp2_with (first
            | (have htok := tok1; at_builtin; refine wpList_append_rd _ rfl (.tmp 60) (.tmp 63) _ rfl w.heap.size 33 i0 (.agg #[.int .i64 0, .int .u64 0]) 2 16 Tryd.underlying22 Hi.out Hz0.out Hz1.out Hz2.out rfl (by decide) (.slice Ao acc.length co) acc.length _ rfl Hown.out _ _ (n - i) _ (ptsC (a.drop i)) rfl HcA2.out (ptsC_one (a.drop i)) hk63 hk8 hws ?_; intro v' wa hown' hgr hat; clear htok tok1; have hR := mg_more HlA.out Hown.out Hbel.out hown' hgr; have HcW := Lib.hid (HcB2.out _ hR.2); have HR := Lib.hid hR; have Hws2 := Lib.hid hR.2.size; clear hown' hgr hat hR)
            | (have htok := HR; at_builtin; refine wpList_append_rd _ rfl (.tmp 65) (.tmp 68) _ rfl w.heap.size 33 i0 (.agg #[.int .i64 0, .int .u64 0]) 2 16 Tryd.underlying22 Hi.out Hz0.out Hz1.out Hz2.out rfl (by decide) _ (acc ++ a.drop i).length _ rfl HR.out.1 _ _ (n' - k) _ (ptsC (b.drop k)) rfl HcW.out (ptsC_one (b.drop k)) hk64 hk9 Hws2.out ?_; intro v'' wb hown' hgr hat; clear htok; have hR := mg_more HlB.out HR.out.1 HR.out.2 hown' hgr; have HF := Lib.hid hR; clear hown' hgr hat hR))
          go_ret
          exact ⟨_, rfl, by rw [← Hfin.out, ← List.append_assoc]; exact HF.out.1, HF.out.2⟩
end Go.Proofs.YtfnjgminbjopeaaDoor
