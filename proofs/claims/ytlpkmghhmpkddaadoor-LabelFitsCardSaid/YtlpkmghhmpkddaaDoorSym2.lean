/- slices.symMergeCmpFunc at numbers: where the right part is one number. -/
import Derived.Test.YtlpkmghhmpkddaaDoorSym1
namespace Go.Proofs.YtlpkmghhmpkddaaDoor
open Go.RowKit
set_option linter.unusedVariables false

theorem insG_back {P S R : List Nat} {x q y : Nat} (hy : R[q]? = some y) : (insG P R S x (q + 1))[P.length + q + 1]? = some x ∧ (insG P R S x (q + 1))[P.length + q]? = some y ∧ ((insG P R S x (q + 1)).set (P.length + q + 1) y).set (P.length + q) x = insG P R S x q := by
  obtain ⟨h1, h2⟩ := List.getElem?_eq_some_iff.1 hy
  have e0 : insG P R S x (q + 1) = (P ++ R.take q ++ [y]) ++ x :: (R.drop (q + 1) ++ S) := by
    unfold insG
    rw [take_snoc hy]
    simp
  have l1 : (P ++ R.take q).length = P.length + q := by rw [List.length_append, List.length_take]; omega
  have l2 : (P ++ R.take q ++ [y]).length = P.length + q + 1 := by rw [List.length_append, l1]; rfl
  have e1 : (insG P R S x (q + 1)).set (P.length + q + 1) y = (P ++ R.take q) ++ y :: (y :: (R.drop (q + 1) ++ S)) := by
    rw [e0, ← l2, set_mid]; simp
  refine ⟨?_, ?_, ?_⟩
  · rw [e0, ← l2, List.getElem?_append_right (Nat.le_refl _), Nat.sub_self]; rfl
  · rw [e0, List.append_assoc, ← l1, List.getElem?_append_right (Nat.le_refl _), Nat.sub_self]; rfl
  · rw [e1, ← l1, set_mid]
    unfold insG
    rw [List.drop_eq_getElem_cons h1, h2]
    simp
set_option maxRecDepth 100000 in
set_option maxHeartbeats 4000000 in
theorem sym2_any (g N c pt tb a m b : Nat) (T : List Bs) (P R S : List Nat) (x : Nat) (w : World) (hW : SymW w w g pt tb T (P ++ R ++ x :: S)) (hT : T.length ≤ 100000) (hN : (P ++ R ++ x :: S).length = N) (hN2 : N ≤ 100000) (ha : P.length = a) (hm : a + R.length = m) (hb : m + 1 = b) (hR1 : R.length ≠ 1) (hin : SymIn (tOf T) R [x]) :
    Calls Tryd.prog 52 #[.slice (some ⟨g, 0, none⟩) N c, .int .i64 (a : Int), .int .i64 (m : Int), .int .i64 (b : Int), cmpV pt] w fun e w' => e = .returned (.tuple #[]) ∧ ∃ M, SymOut (tOf T) R [x] M ∧ SrtTo w w' g (P ++ M ++ S) := by
  obtain ⟨F, hF⟩ : ∃ F, F = P ++ R ++ x :: S := ⟨_, rfl⟩
  rw [← hF] at hW hN
  have HW := Lib.hid hW
  have hFa : F[m]? = some x := by rw [hF, List.getElem?_append_right (by rw [List.length_append]; omega), show m - (P ++ R).length = 0 by rw [List.length_append]; omega]; rfl
  have HFr := Lib.hid (fun q (hq : q < R.length) => show ∃ y, F[a + q]? = some y ∧ R.getD q 0 = y ∧ y ∈ R from by
    refine ⟨R[q], ?_, ?_, List.getElem_mem hq⟩
    · rw [hF, List.append_assoc, List.getElem?_append_right (by omega), show a + q - P.length = q by omega, List.getElem?_append_left hq, List.getElem?_eq_getElem hq]
    · rw [List.getD_eq_getElem?_getD, List.getElem?_eq_getElem hq]; rfl)
  have hxF : x ∈ F := List.mem_of_getElem? hFa
  have Hlr := Lib.hid (fun y hy => hin.lr y hy x (by simp))
  have HRF := Lib.hid (fun y (hy : y ∈ R) => show y ∈ F by rw [hF]; simp [hy])
  have hma : ((m : Int) - (a : Int) == 1) = false := by rw [beq_eq_false_iff_ne]; omega
  have hbm : (b : Int) - (m : Int) = 1 := by omega
  have hbN : b ≤ N := by rw [← hN, hF]; simp only [List.length_append, List.length_cons]; omega
  have haN : (m : Int) < (N : Int) := by omega
  have Hm := Lib.hid hm; have Hb := Lib.hid hb; have Hfa := Lib.hid hFa; have HxF := Lib.hid hxF; have Ha := Lib.hid ha; have Hin := Lib.hid hin; have HN := Lib.hid hN; have HF := Lib.hid hF; have HT := Lib.hid hT
  have hmb : a ≤ m := by omega
  have hmN : m ≤ N := by omega
  clear hW hN hT ha hm hb hin hF hFa hxF hR1
  go_enter Tryd.func52, Tryd.ntmps52
  go_wp2
  go_loopw [14, 15] (fun iv jv wr => ∃ i j : Nat, a ≤ i ∧ i ≤ j ∧ j ≤ m ∧ iv = .int .i64 i ∧ jv = .int .i64 j ∧ (i = a ∨ pre (tOf T) (R.getD (i - a - 1) 0) x) ∧ (j = m ∨ pre (tOf T) x (R.getD (j - a) 0)) ∧ SymW w wr g pt tb T F) (fun iv jv _ => (intOf jv).toNat - (intOf iv).toNat)
  case atStart => exact ⟨a, m, Nat.le_refl _, hmb, Nat.le_refl _, rfl, rfl, .inl rfl, .inl rfl, HW.out⟩
  case round =>
    obtain ⟨i, j, hmi, hij, hjb, rfl, rfl, hp1, hp2, hsw⟩ := hrel
    have Hp1 := Lib.hid hp1; have Hp2 := Lib.hid hp2; have HS := Lib.hid hsw
    clear hp1 hp2 hsw
    by_cases h : i < j
    · have h' : (i : Int) < (j : Int) := by omega
      obtain ⟨k, hk⟩ : ∃ k, k = (i + j) / 2 := ⟨_, rfl⟩
      obtain ⟨hik, hkj⟩ := mid_in hk h
      have hk' : ((i : Int) + (j : Int)) / 2 = (k : Int) := by omega
      have hkN : (k : Int) < (N : Int) := by omega
      obtain ⟨q, hq⟩ : ∃ q, q = k - a := ⟨_, rfl⟩
      obtain ⟨y, hy, hyR, hyM⟩ := HFr.out q (by have := Hm.out; omega)
      have hmk : a + q = k := by omega
      rw [hmk] at hy
      have z0 := nC_cell HS.out.s.bk Hfa.out
      have z1 := nC_cell HS.out.s.bk hy
      have Hq := Lib.hid (fun n => HS.out.order HT.out HxF.out (HRF.out y hyM) n)
      have hxy := Hlr.out y hyM
      obtain ⟨v, hv⟩ : ∃ v, v = cmpZ (tOf T x) (tOf T y) := ⟨_, rfl⟩
      rw [← hv] at Hq
      have Hv := Lib.hid (show v < 0 ↔ tOf T x < tOf T y from by rw [hv]; exact cmpZ_neg _ _)
      have HyR := Lib.hid (show R.getD (k - a) 0 = y by rw [← hq]; exact hyR)
      clear hy hyM hv hk hq hyR hmk
      by_cases hv0 : v < 0
      · have Hn := Lib.hid (pre_right (t := tOf T) hxy (Hv.out.1 hv0))
        clear hxy
        have hd : decide (v < 0) = true := decide_eq_true hv0
        go_wp2
        go_quiet ((go_at_call 26; exact Calls.quiet_of (Hq.out _)))
        go_wp2
        go_roundw
        case rel => exact ⟨i, k, hmi, hik, by omega, rfl, rfl, Hp1.out, .inr (by rw [HyR.out]; exact Hn.out), HS.out.drewN _⟩
        case measure => simp [intOf]; omega
      · have Hn := Lib.hid (pre_left (t := tOf T) hxy (fun e => hv0 (Hv.out.2 e)))
        clear hxy
        have hd : decide (v < 0) = false := decide_eq_false hv0
        go_wp2
        go_quiet ((go_at_call 26; exact Calls.quiet_of (Hq.out _)))
        go_wp2
        go_roundw
        case rel => exact ⟨k + 1, j, by omega, hkj, hjb, by go_num, rfl, .inr (by rw [show k + 1 - a - 1 = k - a by omega, HyR.out]; exact Hn.out), Hp2.out, HS.out.drewN _⟩
        case measure => simp [intOf]; omega
    · obtain rfl : i = j := by omega
      have h' : ¬ (i : Int) < (i : Int) := by omega
      obtain ⟨Q, hQ⟩ : ∃ Q, Q = i - a := ⟨_, rfl⟩
      have HQ := Lib.hid (show a + Q = i ∧ Q ≤ R.length from by have := Hm.out; omega)
      have Hout := Lib.hid (show SymOut (tOf T) R [x] (R.take Q ++ x :: R.drop Q) from by
        refine sym_one_r Hin.out HQ.out.2 ?_ ?_
        · rcases Hp1.out with h1 | h1
          · exact .inl (by omega)
          · exact .inr (by rw [hQ]; exact h1)
        · rcases Hp2.out with h1 | h1
          · exact .inl (by have := Hm.out; omega)
          · exact .inr (by rw [hQ]; exact h1))
      have Hst := Lib.hid (fun q (hq : q < R.length) => show ∃ y, (insG P R S x (q + 1))[a + q + 1]? = some x ∧ (insG P R S x (q + 1))[a + q]? = some y ∧ ((insG P R S x (q + 1)).set (a + q + 1) y).set (a + q) x = insG P R S x q from by
        have hq2 : q < R.length := hq
        have := insG_back (P := P) (S := S) (x := x) (List.getElem?_eq_getElem hq2)
        rw [Ha.out] at this
        exact ⟨_, this⟩)
      have H0 := Lib.hid (show Srt w wr g (insG P R S x R.length) from by
        have := HS.out.s
        rw [HF.out] at this
        unfold insG
        rw [List.take_length, List.drop_length]
        simpa using this)
      have HE := Lib.hid (show insG P R S x Q = P ++ (R.take Q ++ x :: R.drop Q) ++ S from rfl)
      generalize insG P R S x = G at Hst H0 HE
      have hiN : i ≤ N := by omega
      have haQ : a + Q = i := HQ.out.1
      obtain ⟨n, hn⟩ : ∃ n, n = R.length := ⟨_, rfl⟩
      rw [← hn] at H0 Hst
      have hQn : Q ≤ n := by rw [hn]; exact HQ.out.2
      have han : a + n = m := by rw [hn]; exact Hm.out
      clear hn
      clear hQ Hp1 Hp2
      rename World => wi
      go_wp2
      go_loopw [17] (fun kv wq => ∃ q : Nat, Q ≤ q ∧ q ≤ n ∧ kv = .int .i64 ((a + q : Nat) : Int) ∧ Srt w wq g (G q)) (fun kv _ => (intOf kv).toNat)
      case atStart => exact ⟨n, hQn, Nat.le_refl _, by rw [han], H0.out⟩
      case round =>
        obtain ⟨q, hqQ, hqn, rfl, hs⟩ := hrel
        have HSq := Lib.hid hs
        clear hs
        by_cases hlt : Q < q
        · obtain ⟨p, rfl⟩ : ∃ p, q = p + 1 := ⟨q - 1, by omega⟩
          obtain ⟨k, hk⟩ : ∃ k, k = a + p := ⟨_, rfl⟩
          rw [show ((a + (p + 1) : Nat) : Int) = (k : Int) + 1 by omega]
          have hk1 : (i : Int) < (k : Int) + 1 := by omega
          obtain ⟨y, g1, g2, g3⟩ := Hst.out p (by omega)
          rw [← hk] at g1 g2 g3
          have z0 := nC_cell HSq.out.bk g1
          have z1 := nC_cell HSq.out.bk g2
          have f0 := HSq.out.bk.frozen k
          have f1 := HSq.out.bk.frozen (k + 1)
          have G3 := Lib.hid g3
          have i1 : (k : Int) < (N : Int) := by omega
          have i2 : (k : Int) + 1 < (N : Int) := by omega
          have i3 : (0 : Int) ≤ (k : Int) + 1 := by omega
          have Hk := Lib.hid hk
          clear g1 g2 g3 hk haQ han
          go_wp2
          go_region
          go_wp2
          go_roundw
          case rel => exact ⟨p, by omega, by omega, by rw [← Hk.out], by have h := ((HSq.out.put (k + 1) y).put k x).drew; rw [G3.out] at h; exact h⟩
          case measure => simp [intOf]
        · obtain rfl : q = Q := by omega
          have hk1 : ¬ (i : Int) < ((a + q : Nat) : Int) := by omega
          rw [show a + q = i from haQ]
          have hk2 : ¬ (i : Int) < (i : Int) := by omega
          have HE2 := Lib.hid (show SrtTo w wr g (P ++ (R.take q ++ x :: R.drop q) ++ S) from by have := HSq.out; rw [HE.out] at this; exact this)
          clear haQ hk1
          generalize R.take q ++ x :: R.drop q = M at Hout HE2
          generalize hE3 : P ++ M ++ S = E at HE2
          have HE3 := Lib.hid hE3
          clear hE3
          go_wp2
          refine bodyPost_ret (results_none rfl _ _ _) rfl ?_
          exact ⟨rfl, M, Hout.out, by first | (rw [HE3.out]; exact HE2.out) | (have := HE2.out; rw [← HE3.out] at this; simpa using this)⟩
end Go.Proofs.YtlpkmghhmpkddaaDoor
