/- slices.insertionSortCmpFunc at numbers that rise, by its contract; symMerge whole. -/
import Derived.Test.YtlpkmghhmpkddaaDoorSym
import Derived.BigRegion
namespace Go.Proofs.YtlpkmghhmpkddaaDoor
open Go.RowKit
set_option linter.unusedVariables false

theorem sym_any {g N c pt tb : Nat} {T : List Bs} {a m b : Nat} {P L R S : List Nat} {w : World} (h : SymH g N pt tb T a m b P L R S w) (hT : T.length ≤ 100000) (hN2 : N ≤ 100000) : SymC g N c pt tb T a m b P L R S w :=
  sym_rec (fun a m b P L R S w IH h h1 h2 => sym_step hT hN2 a m b P L R S w IH h h1 h2) hT hN2 (b - a) a m b P L R S w (Nat.le_refl _) h
theorem insG_perm (P R S : List Nat) (x q : Nat) : (insG P R S x q).Perm (P ++ (R ++ [x]) ++ S) := by
  unfold insG
  refine List.Perm.append_right _ (List.Perm.append_left _ ?_)
  conv => rhs; rw [← List.take_append_drop q R, List.append_assoc]
  exact List.Perm.append_left _ (List.perm_append_comm (l₁ := [x]))
theorem insG_back2 {P S R : List Nat} {a x q y : Nat} (ha : P.length = a) (hy : R[q]? = some y) : (insG P R S x (q + 1))[a + q + 1]? = some x ∧ (insG P R S x (q + 1))[a + q]? = some y ∧ ((insG P R S x (q + 1)).set (a + q + 1) y).set (a + q) x = insG P R S x q := by
  subst ha
  exact insG_back hy
set_option maxRecDepth 100000 in
set_option maxHeartbeats 20000000 in
theorem ins_any (g N c pt tb a b : Nat) (T : List Bs) (P X S : List Nat) (w : World) (hW : SymW w w g pt tb T (P ++ X ++ S)) (hT : T.length ≤ 100000) (hN : (P ++ X ++ S).length = N) (hN2 : N ≤ 100000) (ha : P.length = a) (hb : a + X.length = b) (hX : X.Pairwise (· < ·)) :
    Calls Tryd.prog 51 #[.slice (some ⟨g, 0, none⟩) N c, .int .i64 (a : Int), .int .i64 (b : Int), cmpV pt] w fun e w' => e = .returned (.tuple #[]) ∧ ∃ M, (M.Perm X ∧ M.Pairwise (pre (tOf T))) ∧ SrtTo w w' g (P ++ M ++ S) := by
  have hbN : b ≤ N := by rw [← hN]; simp only [List.length_append]; omega
  obtain ⟨n, hn⟩ : ∃ n, n = X.length := ⟨_, rfl⟩
  rw [← hn] at hb
  have H0 := Lib.hid (show ∃ M, M.Perm (X.take 1) ∧ M.Pairwise (pre (tOf T)) ∧ SymW w w g pt tb T (P ++ M ++ (X.drop 1 ++ S)) from by
    refine ⟨X.take 1, List.Perm.refl _, ?_, ?_⟩
    · match X with
      | [] => exact List.Pairwise.nil
      | x :: X => exact List.pairwise_singleton _ _
    · have e : P ++ X.take 1 ++ (X.drop 1 ++ S) = P ++ X ++ S := by
        conv => rhs; rw [← List.take_append_drop 1 X]
        simp only [List.append_assoc]
      rw [e]; exact hW)
  have Hn := Lib.hid hn; have HN := Lib.hid hN; have Ha := Lib.hid ha; have HX := Lib.hid hX; have HT := Lib.hid hT
  have haN : a ≤ N := by omega
  clear hW hN ha hX hn hT
  go_enter Tryd.func51, Tryd.ntmps51
  go_wp2
  go_loopw [8] (fun iv wr => ∃ (k : Nat) (M : List Nat), k ≤ N ∧ iv = .int .i64 (((a + k : Nat) : Int) + 1) ∧ M.Perm (X.take (k + 1)) ∧ M.Pairwise (pre (tOf T)) ∧ SymW w wr g pt tb T (P ++ M ++ (X.drop (k + 1) ++ S))) (fun iv _ => 2 * N + 2 - (intOf iv).toNat)
  case atStart =>
    obtain ⟨M, h1, h2, h3⟩ := H0.out
    exact ⟨0, M, Nat.zero_le _, rfl, h1, h2, h3⟩
  case round =>
    rename World => wo
    obtain ⟨k, M, hkN, rfl, hp, hs, hsw⟩ := hrel
    have Hp := Lib.hid hp; have Hs := Lib.hid hs; have HS := Lib.hid hsw
    clear hp hs hsw
    by_cases hkn : k + 1 < n
    case neg =>
      have hkn' : ¬ ((a + k : Nat) : Int) + 1 < (b : Int) := by omega
      have HZ := Lib.hid (show ∃ M, (M.Perm X ∧ M.Pairwise (pre (tOf T))) ∧ SrtTo w wo g (P ++ M ++ S) from by
        have h1 := Hp.out
        have h2 := HS.out.s
        rw [List.take_of_length_le (by rw [← Hn.out]; omega)] at h1
        rw [List.drop_of_length_le (by rw [← Hn.out]; omega), List.nil_append] at h2
        exact ⟨M, ⟨h1, Hs.out⟩, h2⟩)
      clear H0 hkn
      go_wp2
      go_end0
      obtain ⟨M', h1, h2⟩ := HZ.out
      exact ⟨rfl, M', h1, by first | exact h2 | (rw [List.append_assoc] at h2; exact h2)⟩
    have hkn' : ((a + k : Nat) : Int) + 1 < (b : Int) := by omega
    obtain ⟨x, hx⟩ : ∃ x, X[k + 1]? = some x := ⟨_, List.getElem?_eq_getElem (by rw [← Hn.out]; exact hkn)⟩
    have hMl : M.length = k + 1 := by rw [Hp.out.length_eq, List.length_take, ← Hn.out]; omega
    have hdx : X.drop (k + 1) = x :: X.drop (k + 2) := by
      obtain ⟨h1, h2⟩ := List.getElem?_eq_some_iff.1 hx
      rw [List.drop_eq_getElem_cons h1, h2]
    have Hlt := Lib.hid (fun y (hy : y ∈ M) => show y < x from by
      have hy' := Hp.out.mem_iff.1 hy
      obtain ⟨i, hi, rfl⟩ := List.getElem_of_mem hy'
      rw [List.length_take] at hi
      obtain ⟨h1, h2⟩ := List.getElem?_eq_some_iff.1 hx
      rw [List.getElem_take, ← h2]
      exact List.pairwise_iff_getElem.1 HX.out i (k + 1) (by omega) h1 (by omega))
    have HI := Lib.hid (show SymIn (tOf T) M [x] from ⟨Hs.out, List.pairwise_singleton _ _, fun y hy z hz => by rw [List.mem_singleton.1 hz]; exact Hlt.out y hy⟩)
    obtain ⟨S2, hS2⟩ : ∃ S2, S2 = X.drop (k + 2) ++ S := ⟨_, rfl⟩
    have HI0 := Lib.hid (show SymW w wo g pt tb T (insG P M S2 x (k + 1)) from by
      have h := HS.out
      rw [hdx] at h
      unfold insG
      rw [← hMl, List.take_length, List.drop_length, hS2]
      simpa only [List.append_assoc, List.cons_append, List.nil_append] using h)
    have Hnx := Lib.hid (fun W q (hq : q ≤ k + 1) (h1 : q = 0 ∨ pre (tOf T) (M.getD (q - 1) 0) x) (h2 : q = M.length ∨ pre (tOf T) x (M.getD q 0)) (h3 : SymW w W g pt tb T (insG P M S2 x q)) => show (M.take q ++ x :: M.drop q).Perm (X.take (k + 1 + 1)) ∧ (M.take q ++ x :: M.drop q).Pairwise (pre (tOf T)) ∧ SymW w W g pt tb T (P ++ (M.take q ++ x :: M.drop q) ++ (X.drop (k + 1 + 1) ++ S)) from by
      obtain ⟨h4, h5⟩ := sym_one_r HI.out (by rw [hMl]; exact hq) h1 h2
      refine ⟨?_, h5, ?_⟩
      · rw [take_snoc hx]
        exact h4.trans (List.Perm.append_right _ Hp.out)
      · have h := h3
        unfold insG at h
        rw [hS2] at h
        exact h)
    have Hgt := Lib.hid (fun q (hq : q < k + 1) => show ∃ y, M.getD q 0 = y ∧ y < x ∧ (insG P M S2 x (q + 1))[a + q + 1]? = some x ∧ (insG P M S2 x (q + 1))[a + q]? = some y ∧ ((insG P M S2 x (q + 1)).set (a + q + 1) y).set (a + q) x = insG P M S2 x q from by
      have hq' : q < M.length := by rw [hMl]; exact hq
      have hy : M[q]? = some M[q] := List.getElem?_eq_getElem hq'
      obtain ⟨h1, h2, h3⟩ := insG_back2 (P := P) (S := S2) (x := x) Ha.out hy
      exact ⟨M[q], by rw [List.getD_eq_getElem?_getD, hy]; rfl, Hlt.out _ (List.getElem_mem hq'), h1, h2, h3⟩)
    have Hpm := Lib.hid (fun q => show (insG P M S2 x q).Perm (insG P M S2 x (q + 1)) from (insG_perm P M S2 x q).trans (insG_perm P M S2 x (q + 1)).symm)
    have HMl := Lib.hid hMl
    generalize insG P M S2 x = G at HI0 Hnx Hgt Hpm
    clear hx hdx hS2 hMl HS Hp Hs HI Hlt H0
    go_wp2
    go_loopw [9] (fun jv wq => ∃ q : Nat, q ≤ k + 1 ∧ jv = .int .i64 ((a + q : Nat) : Int) ∧ (q = M.length ∨ pre (tOf T) x (M.getD q 0)) ∧ SymW w wq g pt tb T (G q)) (fun jv _ => (intOf jv).toNat)
    case atStart => exact ⟨k + 1, Nat.le_refl _, by rw [show ((a + (k + 1) : Nat) : Int) = ((a + k : Nat) : Int) + 1 by omega], .inl HMl.out.symm, HI0.out⟩
    case round =>
      rename World => wq
      obtain ⟨q, hq, rfl, h2, h3⟩ := hrel
      have H2 := Lib.hid h2; have H3 := Lib.hid h3
      clear h2 h3
      rcases Nat.eq_zero_or_pos q with rfl | hq0
      · have hd : decide ((a : Int) < ((a + 0 : Nat) : Int)) = false := decide_eq_false (by omega)
        have HZ := Lib.hid (fun n => Hnx.out (wq.drewN n) 0 (Nat.zero_le _) (.inl rfl) H2.out (H3.out.drewN n))
        rw [show ((a + 0 : Nat) : Int) = (a : Int) by omega]
        have hd2 : ¬ (a : Int) < (a : Int) := by omega
        have hd3 : decide ((a : Int) < (a : Int)) = false := decide_eq_false hd2
        clear hd
        go_wp2
        go_quiet (fail)
        go_wp2
        go_roundw
        case rel =>
          exact ⟨k + 1, _, by omega, by go_num, HZ.out nq⟩
        case measure => simp [intOf]; omega
      obtain ⟨p, rfl⟩ : ∃ p, q = p + 1 := ⟨q - 1, by omega⟩
      obtain ⟨j, hj⟩ : ∃ j, j = a + p := ⟨_, rfl⟩
      rw [show ((a + (p + 1) : Nat) : Int) = (j : Int) + 1 by omega]
      obtain ⟨y, hyp, hyx, g1, g2, g3⟩ := Hgt.out p (by omega)
      rw [← hj] at g1 g2 g3
      have z0 := nC_cell H3.out.s.bk g1
      have z1 := nC_cell H3.out.s.bk g2
      have f0 := H3.out.s.bk.frozen j
      have f1 := H3.out.s.bk.frozen (j + 1)
      have G3 := Lib.hid g3
      have i1 : (j : Int) < (N : Int) := by omega
      have i2 : (j : Int) + 1 < (N : Int) := by omega
      have i3 : (0 : Int) ≤ (j : Int) + 1 := by omega
      have Hj := Lib.hid hj
      have hd : decide ((a : Int) < (j : Int) + 1) = true := decide_eq_true (by omega)
      have hd1 : (a : Int) < (j : Int) + 1 := by omega
      have Hq := Lib.hid (fun n => H3.out.order HT.out (List.mem_of_getElem? g1) (List.mem_of_getElem? g2) n)
      obtain ⟨v, hv⟩ : ∃ v, v = cmpZ (tOf T x) (tOf T y) := ⟨_, rfl⟩
      rw [← hv] at Hq
      have Hv := Lib.hid (show v < 0 ↔ tOf T x < tOf T y from by rw [hv]; exact cmpZ_neg _ _)
      have Hyp := Lib.hid hyp
      clear g1 g2 g3 hj hv hyp
      by_cases hv0 : v < 0
      · have hdv : decide (v < 0) = true := decide_eq_true hv0
        have Hn2 := Lib.hid (pre_right (t := tOf T) hyx (Hv.out.1 hv0))
        clear hyx
        go_wp2
        go_quiet ((go_at_call 26; exact Calls.quiet_of (Hq.out _)))
        have HZ := Lib.hid (show SymW w (((wq.setCell ⟨g, j + 1, none⟩ (.int .i64 (y : Int))).setCell ⟨g, j, none⟩ (.int .i64 (x : Int)))) g pt tb T (G p) from
          H3.out.next (by have h := (H3.out.self.s.put (j + 1) y).put j x; rw [G3.out] at h; exact h) (Hpm.out p))
        go_wp2
        go_region
        all_goals
          go_wp2
          go_roundw
          case rel =>
            exact ⟨p, by omega, by rw [← Hj.out], .inr (by rw [Hyp.out]; exact Hn2.out), by first | exact (HZ.out.drewN nq).drewN 1 | exact (HZ.out.drewN (nq + 1)) | exact (HZ.out.drewN nq) | exact HZ.out.drewN 1⟩
          case measure => simp [intOf] <;> omega
      · have hdv : decide (v < 0) = false := decide_eq_false hv0
        have Hn2 := Lib.hid (pre_left (t := tOf T) hyx (fun e => hv0 (Hv.out.2 e)))
        clear hyx
        have HZ := Lib.hid (fun n => Hnx.out (wq.drewN n) (p + 1) hq (.inr (by rw [Nat.add_sub_cancel, Hyp.out]; exact Hn2.out)) H2.out (H3.out.drewN n))
        go_wp2
        go_quiet ((go_at_call 26; exact Calls.quiet_of (Hq.out _)))
        go_wp2
        go_roundw
        case rel => exact ⟨k + 1, _, by omega, by go_num, HZ.out _⟩
        case measure => simp [intOf]; omega
end Go.Proofs.YtlpkmghhmpkddaaDoor
