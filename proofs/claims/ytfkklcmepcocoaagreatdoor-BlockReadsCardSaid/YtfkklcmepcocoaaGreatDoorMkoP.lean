/- The reference's BoundsError and its pieces of a text. -/
import Derived.Test.YtfkklcmepcocoaaGreatDoorMkfP
import Derived.Test.YtfkklcmepcocoaaGreatDoorMklP
import Derived.Test.YtfkklcmepcocoaaGreatDoorBlkMakeQP
namespace Go.Proofs.YtfkklcmepcocoaaGreatDoor
open Go.RowKit
set_option linter.unusedVariables false

theorem rbnd_any (f s : Int) (w : World) : Calls Tryz.prog 80 #[.int .i64 f, .int .i64 s] w fun e w' => (bndB f s = true → e = .returned (.int .i64 0)) ∧ (bndB f s = false → e = .returned (.int .i64 2)) ∧ w = w' := by
  have Hno : ∀ (h : ¬ (1 ≤ s ∧ s ≤ 100000 ∧ -1099511627776 ≤ f ∧ f ≤ 1099511627776)), bndB f s = false := fun h => decide_eq_false h
  by_cases h1 : s < 1
  · have Hf := Lib.hid (Hno (by omega))
    clear Hno
    go_enter Tryz.func80, Tryz.ntmps80
    go_wp2
    go_ret
    exact ⟨fun h => (by rw [Hf.out] at h; cases h), fun _ => rfl, rfl⟩
  by_cases h2 : 100000 < s
  · have Hf := Lib.hid (Hno (by omega))
    clear Hno
    go_enter Tryz.func80, Tryz.ntmps80
    go_wp2
    go_ret
    exact ⟨fun h => (by rw [Hf.out] at h; cases h), fun _ => rfl, rfl⟩
  by_cases h3 : f < -1099511627776
  · have Hf := Lib.hid (Hno (by omega))
    clear Hno
    go_enter Tryz.func80, Tryz.ntmps80
    go_wp2
    go_ret
    exact ⟨fun h => (by rw [Hf.out] at h; cases h), fun _ => rfl, rfl⟩
  by_cases h4 : 1099511627776 < f
  · have Hf := Lib.hid (Hno (by omega))
    clear Hno
    go_enter Tryz.func80, Tryz.ntmps80
    go_wp2
    go_ret
    exact ⟨fun h => (by rw [Hf.out] at h; cases h), fun _ => rfl, rfl⟩
  have Hf := Lib.hid (show bndB f s = true from decide_eq_true (by omega))
  clear Hno
  go_enter Tryz.func80, Tryz.ntmps80
  go_wp2
  go_ret
  exact ⟨fun _ => rfl, fun h => (by rw [Hf.out] at h; cases h), rfl⟩
end Go.Proofs.YtfkklcmepcocoaaGreatDoor

namespace Go.Proofs.YtfkklcmepcocoaaGreatDoor
open Go.RowKit
set_option linter.unusedVariables false

theorem pcs_none {c : UInt8} : ∀ {a : Bs}, c ∉ a → pcs c a = [a]
  | [], _ => by rw [pcs]
  | x :: a, h => by
    have hx : x ≠ c := fun e => h (by rw [e]; exact List.mem_cons_self)
    rw [pcs, if_neg hx, pcs_none (fun m => h (List.mem_cons_of_mem _ m))]
theorem pcs_hit {c : UInt8} : ∀ {a : Bs} (b : Bs), c ∉ a → pcs c (a ++ c :: b) = a :: pcs c b
  | [], b, _ => by rw [List.nil_append, pcs, if_pos rfl]
  | x :: a, b, h => by
    have hx : x ≠ c := fun e => h (by rw [e]; exact List.mem_cons_self)
    rw [List.cons_append, pcs, if_neg hx, pcs_hit b (fun m => h (List.mem_cons_of_mem _ m))]
theorem cut_step {c : UInt8} {s : Bs} {f k : Nat} (hf : f ≤ k) (hk : s[k]? = some c) (hn : c ∉ (s.drop f).take (k - f)) : pcs c (s.drop f) = ((s.take k).drop f) :: pcs c (s.drop (k + 1)) := by
  obtain ⟨hl, rfl⟩ := List.getElem?_eq_some_iff.1 hk
  have h1 : s.drop f = (s.drop f).take (k - f) ++ s[k] :: s.drop (k + 1) := by
    conv => lhs; rw [← List.take_append_drop (k - f) (s.drop f)]
    congr 1
    rw [List.drop_drop, show f + (k - f) = k by omega, List.drop_eq_getElem_cons hl]
  conv => lhs; rw [h1]
  rw [pcs_hit _ hn, List.drop_take]
theorem cut_more {c x : UInt8} {s : Bs} {f k : Nat} (hf : f ≤ k) (hk : s[k]? = some x) (hx : x ≠ c) (hn : c ∉ (s.drop f).take (k - f)) : c ∉ (s.drop f).take (k + 1 - f) := by
  have h : (s.drop f)[k - f]? = some x := by rw [List.getElem?_drop, show f + (k - f) = k by omega]; exact hk
  rw [show k + 1 - f = (k - f) + 1 by omega, take_snoc h]
  intro hm
  rcases List.mem_append.1 hm with hm | hm
  · exact hn hm
  · simp at hm; exact hx hm.symm
theorem strL_snoc (D : List Bs) (p : Bs) : strL (D ++ [p]) = strL D ++ [.string (B8 p)] := by unfold strL; rw [List.map_append]; rfl
set_option maxHeartbeats 4000000 in
set_option maxRecDepth 100000 in
theorem rcut_t (c : UInt8) (s : Bs) (hl : s.length ≤ 1000000) (w : World) : Calls Tryz.prog 73 #[.string (B8 s), .int .u8 (c.toNat : Int)] w fun e w' =>
    ∃ v, e = .returned v ∧ w'.ownsRow w.heap.size 9 1 v (pcs c s).length (strL (pcs c s)) ∧ Below w.heap.size w w' := by
  have hsz : (B8 s).size = s.length := B8_size s
  have Hat := Lib.hid (fun i (h : i < (B8 s).size) => show ((B8 s)[i]).toNat = (s.getD i 0).toNat from B8_at s i h)
  have Hex := Lib.hid (fun a b => B8_extract s a b)
  obtain ⟨n, hn⟩ : ∃ n, n = s.length := ⟨_, rfl⟩
  rw [← hn] at hsz hl
  have Hn := Lib.hid hn
  obtain ⟨i0, hi, hz0, hz1, hz2⟩ := info_parts infoSt
  have Hi := Lib.hid hi; have Hz0 := Lib.hid hz0; have Hz1 := Lib.hid hz1; have Hz2 := Lib.hid hz2
  generalize hst : B8 s = st at hsz Hat Hex ⊢
  have hc256 : c.toNat < 256 := c.toNat_lt
  clear hn hst hi hz0 hz1 hz2
  go_enter Tryz.func73, Tryz.ntmps73
  go_wp2
  go_loopw [5, 6, 7] (fun ov fv kv wr => ∃ (k f : Nat) (D : List Bs), f ≤ k ∧ k ≤ n ∧ kv = .int .i64 k ∧ fv = .int .i64 f ∧ D.length ≤ f ∧ wr.ownsRow w.heap.size 9 1 ov D.length (strL D) ∧ pcs c s = D ++ pcs c (s.drop f) ∧ c ∉ (s.drop f).take (k - f) ∧ Below w.heap.size w wr) (fun _ _ kv _ => n - (intOf kv).toNat)
  case atStart => exact ⟨0, 0, [], Nat.le_refl _, Nat.zero_le _, rfl, rfl, Nat.le_refl _, World.ownsRow_nil _ _ _ _, rfl, by simp, Below.refl _ _⟩
  case round =>
    obtain ⟨k, f, D, hfk, hk, rfl, rfl, hDf, hown, hp, hno, hb⟩ := hrel
    obtain ⟨Ao, co, rfl, _, _, _⟩ := own_form hown
    have Hown := Lib.hid hown; have HB := Lib.hid hb; have Hp := Lib.hid hp; have Hno := Lib.hid hno
    have hk63 : D.length + 1 ≤ maxLen := by unfold maxLen; omega
    have hk8 : (D.length + 1) * 16 ≤ 140737488355328 := by omega
    obtain ⟨m, hm⟩ : ∃ m, m = D.length := ⟨_, rfl⟩
    have Hm := Lib.hid hm
    rw [← hm] at hk63 hk8 Hown hDf ⊢
    clear hown hb hp hno hm
    by_cases hkn : k < n
    · have hk1 : k < st.size := by omega
      have x0 := Hat.out k hk1
      obtain ⟨x, hx⟩ : ∃ x, s[k]? = some x := ⟨_, List.getElem?_eq_getElem (by rw [← Hn.out]; exact hkn)⟩
      rw [show s.getD k 0 = x by rw [List.getD_eq_getElem?_getD, hx]; rfl] at x0
      have hki : (k : Int) < (n : Int) := by omega
      have hfi : (f : Int) ≤ (k : Int) := by omega
      have hki2 : (k : Int) ≤ (n : Int) := by omega
      have hx256 : x.toNat < 256 := x.toNat_lt
      by_cases hxc : x = c
      · subst hxc
        have Hs := Lib.hid (cut_step hfk hx Hno.out)
        have xe := Hex.out f k
        generalize hpc : B8 ((s.take k).drop f) = pc at xe
        have Hpc := Lib.hid hpc
        have HoA := Lib.hid (show (wr.alloc (.cells #[.string pc] 9)).ownsRow w.heap.size 9 1 (.slice Ao m co) m (strL D) from Hown.out.alloc _)
        have HrA := Lib.hid (rd_one1 wr 9 (.string pc))
        have HbA := Lib.hid (show Below w.heap.size w (wr.alloc (.cells #[.string pc] 9)) from Below.alloc HB.out HB.out.size _)
        have HzA := Lib.hid (show w.heap.size ≤ (wr.alloc (.cells #[.string pc] 9)).heap.size from HbA.out.size)
        clear hx hpc
        go_wp2_with (at_builtin; refine wpList_append_rd _ rfl (.tmp 19) (.tmp 24) _ rfl w.heap.size 9 i0 (.string ⟨#[]⟩) 1 16 Tryz.underlying25 Hi.out Hz0.out Hz1.out Hz2.out rfl (by decide) (.slice Ao m co) m _ rfl HoA.out _ _ 1 1 [.string pc] rfl HrA.out (str_one1 pc) hk63 hk8 HzA.out ?_; intro v' wa hown' hgr hat; have Hv := Lib.hid hown'; have HBb := Lib.hid (Below.grown HbA.out hgr HzA.out (fun g hg => (own_lt HoA.out g hg).1)); clear hown' hgr hat)
        go_roundw
        case rel =>
          refine ⟨k + 1, k + 1, D ++ [(s.take k).drop f], Nat.le_refl _, by omega, by go_num, by go_num, by rw [List.length_append, ← Hm.out]; simp; omega, ?_, by rw [Hp.out, Hs.out, List.append_assoc]; rfl, by simp, HBb.out⟩
          have := Hv.out
          rw [← Hpc.out] at this
          rw [strL_snoc, List.length_append, ← Hm.out]
          exact this
        case measure => simp [intOf]; omega
      · have hne : ¬ (x.toNat : Int) = (c.toNat : Int) := fun h => hxc (UInt8.toNat_inj.1 (by omega))
        have hnn : ¬ x.toNat = c.toNat := fun h => hxc (UInt8.toNat_inj.1 h)
        have hbe : ((x.toNat : Int) == (c.toNat : Int)) = false := by rw [beq_eq_false_iff_ne]; exact hne
        have Hmo := Lib.hid (cut_more hfk hx hxc Hno.out)
        clear hx
        go_wp2
        go_roundw
        case rel => exact ⟨k + 1, f, D, by omega, by omega, by go_num, rfl, by rw [← Hm.out]; exact hDf, by rw [← Hm.out]; exact Hown.out, Hp.out, Hmo.out, HB.out⟩
        case measure => simp [intOf]; omega
    · obtain rfl : k = n := by omega
      have hkk : ¬ (k : Int) < (k : Int) := by omega
      have hfi : (f : Int) ≤ (k : Int) := by omega
      have hnf : c ∉ s.drop f := by
        have := Hno.out
        rwa [List.take_of_length_le (by rw [List.length_drop, ← Hn.out]; exact Nat.le_refl _)] at this
      have Hs := Lib.hid (show pcs c s = D ++ [s.drop f] by rw [Hp.out, pcs_none hnf])
      have xe := Hex.out f k
      rw [Hn.out, List.take_length, ← Hn.out] at xe
      generalize hpc : B8 (s.drop f) = pc at xe
      have Hpc := Lib.hid hpc
      have HoA := Lib.hid (show (wr.alloc (.cells #[.string pc] 9)).ownsRow w.heap.size 9 1 (.slice Ao m co) m (strL D) from Hown.out.alloc _)
      have HrA := Lib.hid (rd_one1 wr 9 (.string pc))
      have HbA := Lib.hid (show Below w.heap.size w (wr.alloc (.cells #[.string pc] 9)) from Below.alloc HB.out HB.out.size _)
      have HzA := Lib.hid (show w.heap.size ≤ (wr.alloc (.cells #[.string pc] 9)).heap.size from HbA.out.size)
      clear hpc hnf
      go_wp2_with (at_builtin; (refine wpList_append_rd _ rfl (.tmp 28) (.tmp 32) _ rfl w.heap.size 9 i0 (.string ⟨#[]⟩) 1 16 Tryz.underlying25 Hi.out Hz0.out Hz1.out Hz2.out rfl (by decide) (.slice Ao m co) m _ rfl HoA.out _ _ 1 1 [.string pc] rfl HrA.out (str_one1 pc) hk63 hk8 HzA.out ?_); intro v' wa hown' hgr hat; have Hv := Lib.hid hown'; have HBb := Lib.hid (Below.grown HbA.out hgr HzA.out (fun g hg => (own_lt HoA.out g hg).1)); clear hown' hgr hat)
      go_ret
      refine ⟨_, rfl, ?_, HBb.out⟩
      have := Hv.out
      rw [← Hpc.out] at this
      rw [Hs.out, strL_snoc, List.length_append, ← Hm.out]
      exact this
end Go.Proofs.YtfkklcmepcocoaaGreatDoor
