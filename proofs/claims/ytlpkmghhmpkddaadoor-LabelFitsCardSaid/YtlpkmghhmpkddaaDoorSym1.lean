/- slices.symMergeCmpFunc at numbers: where the left part is one number. -/
import Derived.Test.YtlpkmghhmpkddaaDoorRot
import Derived.Deep.QuietTactic
import Derived.BigQuiet
import Derived.BigRegion
namespace Go.Proofs.YtlpkmghhmpkddaaDoor
open Go.RowKit
set_option linter.unusedVariables false

/-- The numbers in block g, and the texts that they are sorted by. -/
structure SymW (w W : World) (g pt tb : Nat) (T : List Bs) (F : List Nat) : Prop where
  s : Srt w W g F
  t : SrtW W pt tb T
  np : g ≠ pt
  nb : g ≠ tb
  lt : ∀ x ∈ F, x < T.length
theorem SymW.drewN {w W : World} {g pt tb : Nat} {T : List Bs} {F : List Nat} (h : SymW w W g pt tb T F) (n : Nat) : SymW w (W.drewN n) g pt tb T F :=
  ⟨⟨h.s.bk.drewN n, h.s.fr.call (Below.drewN (Below.refl _ _) n) h.s.fr.size, h.s.lt⟩, ⟨h.t.p.drewN n, h.t.b.drewN n⟩, h.np, h.nb, h.lt⟩
theorem SymW.order {w W : World} {g pt tb : Nat} {T : List Bs} {F : List Nat} (h : SymW w W g pt tb T F) (hT : T.length ≤ 100000) {x y : Nat} (hx : x ∈ F) (hy : y ∈ F) (n : Nat) :
    Calls Tryd.prog 26 #[.int .i64 (x : Int), .int .i64 (y : Int), .pointer (some ⟨pt, 0, none⟩)] (W.drewN n) fun e w' => e = .returned (.int .i64 (cmpZ (tOf T x) (tOf T y))) ∧ ∃ m, w' = (W.drewN n).drewN m :=
  order1_any x y (h.lt x hx) (h.lt y hy) hT _ (h.drewN n).t
/-- A number that is taken up to a place. -/
def insG (P R S : List Nat) (x q : Nat) : List Nat := P ++ (R.take q ++ x :: R.drop q) ++ S
theorem insG_step {P S R : List Nat} {x q y : Nat} (hy : R[q]? = some y) : (insG P R S x q)[P.length + q]? = some x ∧ (insG P R S x q)[P.length + q + 1]? = some y ∧ ((insG P R S x q).set (P.length + q) y).set (P.length + q + 1) x = insG P R S x (q + 1) := by
  obtain ⟨h1, h2⟩ := List.getElem?_eq_some_iff.1 hy
  have e0 : insG P R S x q = (P ++ R.take q) ++ x :: (y :: (R.drop (q + 1) ++ S)) := by
    unfold insG
    rw [List.drop_eq_getElem_cons h1, h2]
    simp
  have l1 : (P ++ R.take q).length = P.length + q := by rw [List.length_append, List.length_take]; omega
  have e1 : (insG P R S x q).set (P.length + q) y = ((P ++ R.take q) ++ [y]) ++ y :: (R.drop (q + 1) ++ S) := by
    rw [e0, ← l1, set_mid]; simp
  have l2 : ((P ++ R.take q) ++ [y]).length = P.length + q + 1 := by rw [List.length_append, l1]; rfl
  refine ⟨?_, ?_, ?_⟩
  · rw [e0, ← l1, List.getElem?_append_right (Nat.le_refl _), Nat.sub_self]; rfl
  · rw [e0, List.getElem?_append_right (by omega), l1, show P.length + q + 1 - (P.length + q) = 1 by omega]; rfl
  · rw [e1, ← l2, set_mid]
    unfold insG
    rw [take_snoc hy]
    simp
theorem mid_in {i j h : Nat} (hh : h = (i + j) / 2) (hij : i < j) : i ≤ h ∧ h < j := by omega
set_option maxRecDepth 100000 in
set_option maxHeartbeats 4000000 in
theorem sym1_any (g N c pt tb a m b : Nat) (T : List Bs) (P R S : List Nat) (x : Nat) (w : World) (hW : SymW w w g pt tb T (P ++ x :: R ++ S)) (hT : T.length ≤ 100000) (hN : (P ++ x :: R ++ S).length = N) (hN2 : N ≤ 100000) (ha : P.length = a) (hm : a + 1 = m) (hb : m + R.length = b) (hin : SymIn (tOf T) [x] R) :
    Calls Tryd.prog 52 #[.slice (some ⟨g, 0, none⟩) N c, .int .i64 (a : Int), .int .i64 (m : Int), .int .i64 (b : Int), cmpV pt] w fun e w' => e = .returned (.tuple #[]) ∧ ∃ M, SymOut (tOf T) [x] R M ∧ SrtTo w w' g (P ++ M ++ S) := by
  obtain ⟨F, hF⟩ : ∃ F, F = P ++ x :: R ++ S := ⟨_, rfl⟩
  rw [← hF] at hW hN
  have HW := Lib.hid hW
  have hFa : F[a]? = some x := by rw [hF, ← ha, List.append_assoc, List.getElem?_append_right (Nat.le_refl _), Nat.sub_self]; rfl
  have HFr := Lib.hid (fun q (hq : q < R.length) => show ∃ y, F[m + q]? = some y ∧ R.getD q 0 = y ∧ y ∈ R from by
    refine ⟨R[q], ?_, ?_, List.getElem_mem hq⟩
    · rw [hF, List.append_assoc, List.getElem?_append_right (by omega), show m + q - P.length = q + 1 by omega, List.cons_append, List.getElem?_cons_succ, List.getElem?_append_left hq, List.getElem?_eq_getElem hq]
    · rw [List.getD_eq_getElem?_getD, List.getElem?_eq_getElem hq]; rfl)
  have hxF : x ∈ F := List.mem_of_getElem? hFa
  have Hlr := Lib.hid (fun y hy => hin.lr x (by simp) y hy)
  have HRF := Lib.hid (fun y (hy : y ∈ R) => show y ∈ F by rw [hF]; simp [hy])
  have hma : (m : Int) - (a : Int) = 1 := by omega
  have hbN : b ≤ N := by rw [← hN, hF]; simp only [List.length_append, List.length_cons]; omega
  have haN : (a : Int) < (N : Int) := by omega
  have Hm := Lib.hid hm; have Hb := Lib.hid hb; have Hfa := Lib.hid hFa; have HxF := Lib.hid hxF; have Ha := Lib.hid ha; have Hin := Lib.hid hin; have HN := Lib.hid hN; have HF := Lib.hid hF; have HT := Lib.hid hT
  have hmb : m ≤ b := by omega
  clear hW hN hT ha hm hb hin hF hFa hxF
  go_enter Tryd.func52, Tryd.ntmps52
  go_wp2
  go_loopw [10, 11] (fun iv jv wr => ∃ i j : Nat, m ≤ i ∧ i ≤ j ∧ j ≤ b ∧ iv = .int .i64 i ∧ jv = .int .i64 j ∧ (i = m ∨ pre (tOf T) (R.getD (i - m - 1) 0) x) ∧ (j = b ∨ pre (tOf T) x (R.getD (j - m) 0)) ∧ SymW w wr g pt tb T F) (fun iv jv _ => (intOf jv).toNat - (intOf iv).toNat)
  case atStart => exact ⟨m, b, Nat.le_refl _, hmb, Nat.le_refl _, rfl, rfl, .inl rfl, .inl rfl, HW.out⟩
  case round =>
    obtain ⟨i, j, hmi, hij, hjb, rfl, rfl, hp1, hp2, hsw⟩ := hrel
    have Hp1 := Lib.hid hp1; have Hp2 := Lib.hid hp2; have HS := Lib.hid hsw
    clear hp1 hp2 hsw
    by_cases h : i < j
    · have h' : (i : Int) < (j : Int) := by omega
      obtain ⟨k, hk⟩ : ∃ k, k = (i + j) / 2 := ⟨_, rfl⟩
      obtain ⟨hik, hkj⟩ := mid_in hk h
      have hk' : ((i : Int) + (j : Int)) / 2 = (k : Int) := by omega
      have hkN : (k : Int) < (N : Int) := by omega
      obtain ⟨q, hq⟩ : ∃ q, q = k - m := ⟨_, rfl⟩
      obtain ⟨y, hy, hyR, hyM⟩ := HFr.out q (by have := Hb.out; omega)
      have hmk : m + q = k := by omega
      rw [hmk] at hy
      have z0 := nC_cell HS.out.s.bk Hfa.out
      have z1 := nC_cell HS.out.s.bk hy
      have Hq := Lib.hid (fun n => HS.out.order HT.out (HRF.out y hyM) HxF.out n)
      have hxy := Hlr.out y hyM
      obtain ⟨v, hv⟩ : ∃ v, v = cmpZ (tOf T y) (tOf T x) := ⟨_, rfl⟩
      rw [← hv] at Hq
      have Hv := Lib.hid (show v < 0 ↔ tOf T y < tOf T x from by rw [hv]; exact cmpZ_neg _ _)
      have HyR := Lib.hid (show R.getD (k - m) 0 = y by rw [← hq]; exact hyR)
      clear hy hyM hv hk hq hyR hmk
      by_cases hv0 : v < 0
      · have Hn := Lib.hid (pre_right (t := tOf T) hxy (Hv.out.1 hv0))
        clear hxy
        go_wp2
        go_quiet ((go_at_call 26; exact Calls.quiet_of (Hq.out _)))
        go_wp2
        go_roundw
        case rel => exact ⟨k + 1, j, by omega, hkj, hjb, by go_num, rfl, .inr (by rw [show k + 1 - m - 1 = k - m by omega, HyR.out]; exact Hn.out), Hp2.out, HS.out.drewN _⟩
        case measure => simp [intOf]; omega
      · have Hn := Lib.hid (pre_left (t := tOf T) hxy (fun e => hv0 (Hv.out.2 e)))
        clear hxy
        go_wp2
        go_quiet ((go_at_call 26; exact Calls.quiet_of (Hq.out _)))
        go_wp2
        go_roundw
        case rel => exact ⟨i, k, hmi, hik, by omega, rfl, rfl, Hp1.out, .inr (by rw [HyR.out]; exact Hn.out), HS.out.drewN _⟩
        case measure => simp [intOf]; omega
    · obtain rfl : i = j := by omega
      have h' : ¬ (i : Int) < (i : Int) := by omega
      obtain ⟨Q, hQ⟩ : ∃ Q, Q = i - m := ⟨_, rfl⟩
      have HQ := Lib.hid (show a + 1 + Q = i ∧ Q ≤ R.length from by have := Hm.out; have := Hb.out; omega)
      have Hout := Lib.hid (show SymOut (tOf T) [x] R (R.take Q ++ x :: R.drop Q) from by
        refine sym_one_l Hin.out HQ.out.2 ?_ ?_
        · rcases Hp1.out with h1 | h1
          · exact .inl (by omega)
          · exact .inr (by rw [hQ]; exact h1)
        · rcases Hp2.out with h1 | h1
          · exact .inl (by have := Hb.out; omega)
          · exact .inr (by rw [hQ]; exact h1))
      have Hst := Lib.hid (fun q (hq : q < Q) => show ∃ y, (insG P R S x q)[a + q]? = some x ∧ (insG P R S x q)[a + q + 1]? = some y ∧ ((insG P R S x q).set (a + q) y).set (a + q + 1) x = insG P R S x (q + 1) from by
        have hq2 : q < R.length := Nat.lt_of_lt_of_le hq HQ.out.2
        have := insG_step (P := P) (S := S) (x := x) (List.getElem?_eq_getElem hq2)
        rw [Ha.out] at this
        exact ⟨_, this⟩)
      have H0 := Lib.hid (show Srt w wr g (insG P R S x 0) from by
        have := HS.out.s
        rw [HF.out] at this
        unfold insG
        simpa using this)
      have HE := Lib.hid (show insG P R S x Q = P ++ (R.take Q ++ x :: R.drop Q) ++ S from rfl)
      generalize insG P R S x = G at Hst H0 HE
      have hiN : i ≤ N := by omega
      have haQ : a + Q + 1 = i := by have := HQ.out.1; omega
      clear hQ Hp1 Hp2
      rename World => wi
      go_wp2
      go_loopw [13] (fun kv wq => ∃ q : Nat, q ≤ Q ∧ kv = .int .i64 ((a + q : Nat) : Int) ∧ Srt w wq g (G q)) (fun kv _ => i - (intOf kv).toNat)
      case atStart => exact ⟨0, Nat.zero_le _, by first | rfl | go_num, H0.out⟩
      case round =>
        obtain ⟨q, hqQ, rfl, hs⟩ := hrel
        have HSq := Lib.hid hs
        obtain ⟨k, hk⟩ : ∃ k, k = a + q := ⟨_, rfl⟩
        rw [← hk]
        clear hs
        by_cases hlt : q < Q
        · have hk1 : (k : Int) < (i : Int) - 1 := by omega
          obtain ⟨y, g1, g2, g3⟩ := Hst.out q hlt
          rw [← hk] at g1 g2 g3
          have z0 := nC_cell HSq.out.bk g1
          have z1 := nC_cell HSq.out.bk g2
          have f0 := HSq.out.bk.frozen k
          have f1 := HSq.out.bk.frozen (k + 1)
          have G3 := Lib.hid g3
          have i1 : (k : Int) < (N : Int) := by omega
          have i2 : (k : Int) + 1 < (N : Int) := by omega
          have i3 : (0 : Int) ≤ (k : Int) + 1 := by omega
          have Hk := Lib.hid hk
          clear g1 g2 g3 hk haQ
          go_wp2
          go_region
          go_wp2
          go_roundw
          case rel => exact ⟨q + 1, hlt, by rw [Hk.out]; go_num, by have h := ((HSq.out.put k y).put (k + 1) x).drew; rw [G3.out] at h; exact h⟩
          case measure => simp [intOf]; omega
        · obtain rfl : q = Q := by omega
          have hk1 : ¬ (k : Int) < (i : Int) - 1 := by omega
          have HE2 := Lib.hid (show SrtTo w wr g (P ++ (R.take q ++ x :: R.drop q) ++ S) from by have := HSq.out; rw [HE.out] at this; exact this)
          clear hk haQ
          generalize R.take q ++ x :: R.drop q = M at Hout HE2
          generalize hE3 : P ++ M ++ S = E at HE2
          have HE3 := Lib.hid hE3
          clear hE3
          go_wp2
          refine bodyPost_ret (results_none rfl _ _ _) rfl ?_
          exact ⟨rfl, M, Hout.out, by first | (rw [HE3.out]; exact HE2.out) | (have := HE2.out; rw [← HE3.out] at this; simpa using this)⟩
end Go.Proofs.YtlpkmghhmpkddaaDoor
