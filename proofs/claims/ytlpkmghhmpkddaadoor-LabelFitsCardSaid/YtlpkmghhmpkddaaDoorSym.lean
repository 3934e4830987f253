/- slices.symMergeCmpFunc at numbers, by its contract. -/
import Derived.Test.YtlpkmghhmpkddaaDoorSymK
import Derived.Deep.DeepCutAuto
import Derived.Deep.Light
namespace Go.Proofs.YtlpkmghhmpkddaaDoor
open Go.RowKit
set_option linter.unusedVariables false

theorem tri (p q : Prop) : (p ∧ q) ∨ (p ∧ ¬ q) ∨ ¬ p := by
  by_cases h : p
  · by_cases k : q
    · exact .inl ⟨h, k⟩
    · exact .inr (.inl ⟨h, k⟩)
  · exact .inr (.inr h)
theorem nn_lt (x y : Nat) : (x < y → (x : Int) < (y : Int)) ∧ (¬ x < y → ¬ (x : Int) < (y : Int)) := ⟨fun h => Int.ofNat_lt.2 h, fun h k => h (Int.ofNat_lt.1 k)⟩
theorem ar_sym {a m b mid : Nat} (h : mid = (a + b) / 2) (h1 : a < m) (h2 : m < b) : ∃ st0 r0 : Nat, ((mid < m ∧ (mid : Int) + m - b = (st0 : Int) ∧ r0 = mid ∧ st0 + b = mid + m) ∨ (¬ mid < m ∧ st0 = a ∧ r0 = m)) ∧ st0 ≤ r0 ∧ a ≤ st0 ∧ r0 ≤ m ∧ r0 ≤ mid ∧ mid + m ≤ st0 + b ∧ (st0 = a ∨ st0 + b = mid + m) ∧ (r0 = mid ∨ r0 = m) := by
  rcases Nat.lt_or_ge mid m with h3 | h3
  · exact ⟨mid + m - b, mid, .inl ⟨h3, by omega, rfl, by omega⟩, by omega, by omega, by omega, by omega, by omega, .inr (by omega), .inl rfl⟩
  · exact ⟨a, m, .inr ⟨by omega, rfl, rfl⟩, by omega, by omega, by omega, by omega, by omega, .inl rfl, .inr rfl⟩
set_option maxRecDepth 100000 in
set_option maxHeartbeats 60000000 in
theorem sym_step {g N c pt tb : Nat} {T : List Bs} (hT : T.length ≤ 100000) (hN2 : N ≤ 100000) (a m b : Nat) (P L R S : List Nat) (w : World)
    (IH : ∀ (a' m' b' : Nat) (P' L' R' S' : List Nat) (w' : World), b' - a' < b - a → SymH g N pt tb T a' m' b' P' L' R' S' w' → SymC g N c pt tb T a' m' b' P' L' R' S' w')
    (h : SymH g N pt tb T a m b P L R S w) (hL1 : L.length ≠ 1) (hR1 : R.length ≠ 1) : SymC g N c pt tb T a m b P L R S w := by
  obtain ⟨hW, hN, ha, hm, hb, hL, hR, hin⟩ := h
  unfold SymC
  obtain ⟨lL, hlL⟩ : ∃ l, l = L.length := ⟨_, rfl⟩
  obtain ⟨lR, hlR⟩ : ∃ l, l = R.length := ⟨_, rfl⟩
  rw [← hlL] at hm hL hL1
  rw [← hlR] at hb hR hR1
  have hma : ((m : Int) - (a : Int) == 1) = false := by rw [beq_eq_false_iff_ne]; omega
  have hbm : ((b : Int) - (m : Int) == 1) = false := by rw [beq_eq_false_iff_ne]; omega
  obtain ⟨mid, hmid⟩ : ∃ mid, mid = (a + b) / 2 := ⟨_, rfl⟩
  have hmid' : ((a : Int) + (b : Int)) / 2 = (mid : Int) := by omega
  have hbN : b ≤ N := by rw [← hN]; simp only [List.length_append]; omega
  obtain ⟨st0, r0, hcase, k1, k2, k3, k4, k5, k6, k7⟩ := ar_sym (m := m) hmid (by omega) (by omega)
  have hmb : mid < b := by omega
  have ham : a < mid := by omega
  obtain ⟨F, hF⟩ : ∃ F, F = P ++ L ++ R ++ S := ⟨_, rfl⟩
  have HLf := Lib.hid (fun q (hq : q < lL) => show ∃ x, F[a + q]? = some x ∧ L.getD q 0 = x ∧ x ∈ L from by
    rw [hlL] at hq
    refine ⟨L[q], ?_, ?_, List.getElem_mem hq⟩
    · rw [hF, List.append_assoc, List.append_assoc, List.getElem?_append_right (by omega), show a + q - P.length = q by omega, List.getElem?_append_left hq, List.getElem?_eq_getElem hq]
    · rw [List.getD_eq_getElem?_getD, List.getElem?_eq_getElem hq]; rfl)
  have HRf := Lib.hid (fun q (hq : q < lR) => show ∃ y, F[m + q]? = some y ∧ R.getD q 0 = y ∧ y ∈ R from by
    rw [hlR] at hq
    refine ⟨R[q], ?_, ?_, List.getElem_mem hq⟩
    · rw [hF, List.append_assoc, List.getElem?_append_right (by rw [List.length_append]; omega), show m + q - (P ++ L).length = q by rw [List.length_append]; omega, List.getElem?_append_left hq, List.getElem?_eq_getElem hq]
    · rw [List.getD_eq_getElem?_getD, List.getElem?_eq_getElem hq]; rfl)
  have HmL := Lib.hid (fun x (hx : x ∈ L) => show x ∈ F by rw [hF]; simp [hx])
  have HmR := Lib.hid (fun x (hx : x ∈ R) => show x ∈ F by rw [hF]; simp [hx])
  have HW := Lib.hid (show SymW w w g pt tb T F by rw [hF]; exact hW)
  have Hin := Lib.hid hin; have HF := Lib.hid hF; have HN := Lib.hid hN; have Ha := Lib.hid ha; have HlL := Lib.hid hlL; have HlR := Lib.hid hlR
  have Hm := Lib.hid hm; have Hb := Lib.hid hb; have HT := Lib.hid hT; have IHh := Lib.hid IH; have K6 := Lib.hid k6; have K7 := Lib.hid k7; have Hmid := Lib.hid hmid
  clear hW hN ha hin hF hlL hlR hm hb hT IH k6 k7 hmid
  have hcase' := Lib.hid hcase
  clear hcase
  go_enter Tryd.func52, Tryd.ntmps52
  go_upto_if 140 with fail
  go_cut [20, 21] (fun s20 s21 wx => s20 = .int .i64 (st0 : Int) ∧ s21 = .int .i64 (r0 : Int) ∧ w = wx)
  case first =>
    rcases hcase'.out with ⟨h3, hst, hr0, h4⟩ | ⟨h3, hst, hr0⟩
    · have h3' : (m : Int) > (mid : Int) := by omega
      have hs0 := Lib.hid (show Value.int .i64 ((mid : Int) + m - b) = .int .i64 (st0 : Int) by rw [hst])
      have hs1 := Lib.hid (show Value.int .i64 (mid : Int) = .int .i64 (r0 : Int) by rw [hr0])
      clear hst hr0 h4
      go_wp2
      go_meet
      exact ⟨hs0.out, hs1.out, rfl⟩
    · have h3' : ¬ (m : Int) > (mid : Int) := by omega
      have hs0 := Lib.hid (show Value.int .i64 (a : Int) = .int .i64 (st0 : Int) by rw [hst])
      have hs1 := Lib.hid (show Value.int .i64 (m : Int) = .int .i64 (r0 : Int) by rw [hr0])
      clear hst hr0
      go_wp2
      go_meet
      exact ⟨hs0.out, hs1.out, rfl⟩
  case rest =>
    obtain ⟨rfl, rfl, rfl⟩ := hcut
    apply_assumption
    clear hcase'
    go_wp2
    go_loopw [20, 21] (fun iv jv wr => ∃ i j : Nat, st0 ≤ i ∧ i ≤ j ∧ j ≤ r0 ∧ iv = .int .i64 i ∧ jv = .int .i64 j ∧ (i = st0 ∨ pre (tOf T) (L.getD (i - 1 - a) 0) (R.getD (mid - i) 0)) ∧ (j = r0 ∨ pre (tOf T) (R.getD (mid - 1 - j) 0) (L.getD (j - a) 0)) ∧ SymW w wr g pt tb T F) (fun iv jv _ => (intOf jv).toNat - (intOf iv).toNat)
    case atStart => exact ⟨st0, r0, Nat.le_refl _, k1, Nat.le_refl _, rfl, rfl, .inl rfl, .inl rfl, HW.out⟩
    case round =>
      obtain ⟨i, j, q1, q2, q3, rfl, rfl, hp1, hp2, hsw⟩ := hrel
      have Hp1 := Lib.hid hp1; have Hp2 := Lib.hid hp2; have HS := Lib.hid hsw
      clear hp1 hp2 hsw
      by_cases hij : i < j
      · have hij' : (i : Int) < (j : Int) := by omega
        obtain ⟨k, hk⟩ : ∃ k, k = (i + j) / 2 := ⟨_, rfl⟩
        obtain ⟨hik, hkj⟩ := mid_in hk hij
        have hk' : ((i : Int) + (j : Int)) / 2 = (k : Int) := by omega
        obtain ⟨x, hx, hxL, hxM⟩ := HLf.out (k - a) (by have := Hm.out; omega)
        obtain ⟨y, hy, hyR, hyM⟩ := HRf.out (mid - 1 - k) (by have := Hb.out; omega)
        obtain ⟨l, hl⟩ : ∃ l, l = m + (mid - 1 - k) := ⟨_, rfl⟩
        rw [show a + (k - a) = k by omega] at hx
        rw [← hl] at hy
        have hw1 : IntKind.i64.wrap ((mid : Int) + (m : Int) - 1 - (k : Int)) = (l : Int) := by rw [IntKind.wrap_i64]; omega
        have hlN : (l : Int) < (N : Int) := by omega
        have hkN : (k : Int) < (N : Int) := by omega
        have z0 := nC_cell HS.out.s.bk hx
        have z1 := nC_cell HS.out.s.bk hy
        have Hq := Lib.hid (fun n => HS.out.order HT.out (HmR.out y hyM) (HmL.out x hxM) n)
        have hxy := Hin.out.lr x hxM y hyM
        obtain ⟨v, hv⟩ : ∃ v, v = cmpZ (tOf T y) (tOf T x) := ⟨_, rfl⟩
        rw [← hv] at Hq
        have Hv := Lib.hid (show v < 0 ↔ tOf T y < tOf T x from by rw [hv]; exact cmpZ_neg _ _)
        have HxL := Lib.hid hxL; have HyR := Lib.hid hyR
        clear hx hxL hxM hy hyR hyM hv hk hl
        by_cases hv0 : v < 0
        · have Hn := Lib.hid (pre_right (t := tOf T) hxy (Hv.out.1 hv0))
          clear hxy
          have hd : decide (v < 0) = true := decide_eq_true hv0
          go_wp2
          go_quiet ((go_at_call 26; exact Calls.quiet_of (Hq.out _)))
          go_wp2
          go_roundw
          case rel => exact ⟨i, k, q1, hik, by omega, rfl, rfl, Hp1.out, .inr (by rw [HxL.out, HyR.out]; exact Hn.out), HS.out.drewN _⟩
          case measure => simp [intOf]; omega
        · have Hn := Lib.hid (pre_left (t := tOf T) hxy (fun e => hv0 (Hv.out.2 e)))
          clear hxy
          have hd : decide (v < 0) = false := decide_eq_false hv0
          go_wp2
          go_quiet ((go_at_call 26; exact Calls.quiet_of (Hq.out _)))
          go_wp2
          go_roundw
          case rel => exact ⟨k + 1, j, by omega, hkj, q3, by go_num, rfl, .inr (by rw [show k + 1 - 1 - a = k - a by omega, show mid - (k + 1) = mid - 1 - k by omega, HxL.out, HyR.out]; exact Hn.out), Hp2.out, HS.out.drewN _⟩
          case measure => simp [intOf]; omega
      obtain rfl : i = j := by omega
      have hij' : ¬ (i : Int) < (i : Int) := by omega
      obtain ⟨s, hs⟩ : ∃ s, s = i - a := ⟨_, rfl⟩
      obtain ⟨e, he⟩ : ∃ e, e = mid - i := ⟨_, rfl⟩
      obtain ⟨en, hen⟩ : ∃ en, en = m + e := ⟨_, rfl⟩
      have hm := Hm.out; have hb := Hb.out
      have his : a + s = i := by omega
      have hme : a + s + e = mid := by omega
      have hsl : s ≤ lL := by omega
      have hel : e ≤ lR := by omega
      have hsL : s ≤ L.length := by rw [← HlL.out]; exact hsl
      have heR : e ≤ R.length := by rw [← HlR.out]; exact hel
      have HSp := Lib.hid (sym_split Hin.out hsL heR (by
        rw [← HlR.out]
        rcases Hp1.out with h1 | h1
        · rcases K6.out with h2 | h2
          · exact .inl (by omega)
          · exact .inr (.inl (by omega))
        · exact .inr (.inr (by rw [hs, he, show i - a - 1 = i - 1 - a by omega]; exact h1))) (by
        rw [← HlL.out]
        rcases Hp2.out with h1 | h1
        · rcases K7.out with h2 | h2
          · exact .inl (by omega)
          · exact .inr (.inl (by omega))
        · exact .inr (.inr (by rw [hs, he, show mid - i - 1 = mid - 1 - i by omega]; exact h1))))
      have hW0 := HS.out
      rw [HF.out] at hW0
      have HW0 := Lib.hid hW0
      have C1 := Lib.hid (fun h1 h2 => show Calls _ _ _ wr _ from by
        have := st1_call (c := c) (m := m) HW0.out HN.out hN2 Ha.out (by rw [← HlL.out]; exact hm) (s := s) (e := e) h1 h2 heR
        rw [his, ← hen] at this
        exact this)
      have C1s := Lib.hid (fun h1 => st1_skip (s := s) (e := e) HW0.out h1)
      have C2 := Lib.hid (fun W (h : St1 w W g pt tb T P L R S s e) (h1 : 0 < s) (h2 : 0 < e) => show Calls _ _ _ W _ from by
        have := st2_call (a := a) IHh.out h HSp.out.1 HN.out Ha.out h1 hsL h2 heR (by omega)
        rw [hme, his] at this
        exact this)
      have C2s := Lib.hid (fun W (h : St1 w W g pt tb T P L R S s e) (h1 : s = 0 ∨ e = 0) => st2_skip h HSp.out.1 h1)
      have C3 := Lib.hid (fun W (h : St2 w W g pt tb T P L R S s e) (h1 : s < L.length) (h2 : e < R.length) => show Calls _ _ _ W _ from by
        have := st3_call (a := a) (m := m) (b := b) IHh.out h HSp.out.2.1 HN.out Ha.out (by rw [← HlL.out]; exact hm) (by rw [← HlR.out]; exact hb) h1 h2 (by omega)
        rw [hme, ← hen] at this
        exact this)
      have C3s := Lib.hid (fun W (h : St2 w W g pt tb T P L R S s e) (h1 : L.length ≤ s ∨ R.length ≤ e) => st3_skip h HSp.out.2.1 h1)
      have Hfin := Lib.hid (fun W (h : St3 w W g T P L R S s e) => show ∃ M, SymOut (tOf T) L R M ∧ SrtTo w W g (P ++ M ++ S) from by
        obtain ⟨M1, M2, h1, h2, h3⟩ := h
        exact ⟨_, HSp.out.2.2 M1 M2 h1 h2, h3⟩)
      have hen' : (mid : Int) + (m : Int) - (i : Int) = (en : Int) := by omega
      have w1 : en ≤ 100000 := by omega
      have w2 : i ≤ 100000 := by omega
      have w3 : m ≤ 100000 := by omega
      have w4 : mid ≤ 100000 := by omega
      have HlL2 := HlL.out; have HlR2 := HlR.out
      have D1 := Lib.hid (fun (u : i < m ∧ m < en) => C1.out (by omega) (by omega))
      have D1s := Lib.hid (fun (u : ¬ (i < m ∧ m < en)) => C1s.out (by omega))
      have D2 := Lib.hid (fun (u : a < i ∧ i < mid) W h => C2.out W h (by omega) (by omega))
      have D2s := Lib.hid (fun (u : ¬ (a < i ∧ i < mid)) W h => C2s.out W h (by omega))
      have D3 := Lib.hid (fun (u : mid < en ∧ en < b) W h => C3.out W h (by omega) (by omega))
      have D3s := Lib.hid (fun (u : ¬ (mid < en ∧ en < b)) W h => C3s.out W h (by omega))
      have G1 := Lib.hid (nn_lt i m); have G2 := Lib.hid (nn_lt m en); have G3 := Lib.hid (nn_lt a i); have G4 := Lib.hid (nn_lt i mid); have G5 := Lib.hid (nn_lt mid en); have G6 := Lib.hid (nn_lt en b)
      have HS3 := Lib.hid (show (¬ a < i ∧ i < m ∧ mid < en) ∨ (a < i ∧ ¬ i < m ∧ ¬ mid < en) ∨ (a < i ∧ i < m ∧ mid < en) by omega)
      have HE3 := Lib.hid (show (¬ i < mid ∧ ¬ m < en ∧ en < b) ∨ (i < mid ∧ m < en ∧ ¬ en < b) ∨ (i < mid ∧ m < en ∧ en < b) by omega)
      clear HLf HRf HmL HmR HW Hin Hp1 Hp2 HS hW0 C1 C1s C2 C2s C3 C3s HSp HW0 HlL2 HlR2 hs he hen hm hb his hme hsl hel hsL heR hma hbm hmid' hbN k1 k2 k3 k4 k5 hmb ham K6 K7 Hmid IHh HT Hm Hb HlL HlR Ha HN HF q1 q2 q3 hL1 hL hR1 hR hij hij'
      rcases HS3.out with ⟨n3, n1, n5⟩ | ⟨n3, n1, n5⟩ | ⟨n3, n1, n5⟩
      · rcases HE3.out with ⟨n4, n2, n6⟩ | ⟨n4, n2, n6⟩ | ⟨n4, n2, n6⟩
        · have g1 := G1.out.1 n1
          have g2 := G2.out.2 n2
          have g3 := G3.out.2 n3
          have g4 := G4.out.2 n4
          have g5 := G5.out.1 n5
          have g6 := G6.out.1 n6
          have HC1 := Lib.hid (D1s.out (fun h => n2 h.2))
          have HC2 := Lib.hid (D2s.out (fun h => n3 h.1))
          have HC3 := Lib.hid (D3.out ⟨n5, n6⟩)
          clear n1 n2 n3 n4 n5 n6 D1 D1s D2 D2s D3 D3s G1 G2 G3 G4 G5 G6 HS3 HE3
          have H1 := HC1
          have H2 := Lib.hid (HC2.out _ H1.out)
          go_wp2_with fail
          refine (HC3.out _ H2.out).mono ?_
          rintro e' w3 ⟨rfl, hh⟩
          have H3 := Lib.hid (Hfin.out _ hh)
          clear hh HC1 HC2 HC3 H1 H2 Hfin
          go_wp2
          go_end0
          exact ⟨rfl, by obtain ⟨M, h1, h2⟩ := H3.out; exact ⟨M, h1, by first | exact h2 | (rw [List.append_assoc] at h2; exact h2)⟩⟩
        · have g1 := G1.out.1 n1
          have g2 := G2.out.1 n2
          have g3 := G3.out.2 n3
          have g4 := G4.out.1 n4
          have g5 := G5.out.1 n5
          have g6 := G6.out.2 n6
          have HC1 := Lib.hid (D1.out ⟨n1, n2⟩)
          have HC2 := Lib.hid (D2s.out (fun h => n3 h.1))
          have HC3 := Lib.hid (D3s.out (fun h => n6 h.2))
          clear n1 n2 n3 n4 n5 n6 D1 D1s D2 D2s D3 D3s G1 G2 G3 G4 G5 G6 HS3 HE3
          go_wp2_with fail
          refine HC1.out.mono ?_
          rintro e' w1 ⟨rfl, hh⟩
          have H1 := Lib.hid hh
          clear hh
          have H2 := Lib.hid (HC2.out _ H1.out)
          have H3 := Lib.hid (Hfin.out _ (HC3.out _ H2.out))
          clear HC1 HC2 HC3 H1 H2 Hfin
          go_wp2
          go_end0
          exact ⟨rfl, by obtain ⟨M, h1, h2⟩ := H3.out; exact ⟨M, h1, by first | exact h2 | (rw [List.append_assoc] at h2; exact h2)⟩⟩
        · have g1 := G1.out.1 n1
          have g2 := G2.out.1 n2
          have g3 := G3.out.2 n3
          have g4 := G4.out.1 n4
          have g5 := G5.out.1 n5
          have g6 := G6.out.1 n6
          have HC1 := Lib.hid (D1.out ⟨n1, n2⟩)
          have HC2 := Lib.hid (D2s.out (fun h => n3 h.1))
          have HC3 := Lib.hid (D3.out ⟨n5, n6⟩)
          clear n1 n2 n3 n4 n5 n6 D1 D1s D2 D2s D3 D3s G1 G2 G3 G4 G5 G6 HS3 HE3
          go_wp2_with fail
          refine HC1.out.mono ?_
          rintro e' w1 ⟨rfl, hh⟩
          have H1 := Lib.hid hh
          clear hh
          have H2 := Lib.hid (HC2.out _ H1.out)
          go_wp2_with fail
          refine (HC3.out _ H2.out).mono ?_
          rintro e' w3 ⟨rfl, hh⟩
          have H3 := Lib.hid (Hfin.out _ hh)
          clear hh HC1 HC2 HC3 H1 H2 Hfin
          go_wp2
          go_end0
          exact ⟨rfl, by obtain ⟨M, h1, h2⟩ := H3.out; exact ⟨M, h1, by first | exact h2 | (rw [List.append_assoc] at h2; exact h2)⟩⟩
      · rcases HE3.out with ⟨n4, n2, n6⟩ | ⟨n4, n2, n6⟩ | ⟨n4, n2, n6⟩
        · have g1 := G1.out.2 n1
          have g2 := G2.out.2 n2
          have g3 := G3.out.1 n3
          have g4 := G4.out.2 n4
          have g5 := G5.out.2 n5
          have g6 := G6.out.1 n6
          have HC1 := Lib.hid (D1s.out (fun h => n1 h.1))
          have HC2 := Lib.hid (D2s.out (fun h => n4 h.2))
          have HC3 := Lib.hid (D3s.out (fun h => n5 h.1))
          clear n1 n2 n3 n4 n5 n6 D1 D1s D2 D2s D3 D3s G1 G2 G3 G4 G5 G6 HS3 HE3
          have H1 := HC1
          have H2 := Lib.hid (HC2.out _ H1.out)
          have H3 := Lib.hid (Hfin.out _ (HC3.out _ H2.out))
          clear HC1 HC2 HC3 H1 H2 Hfin
          go_wp2
          go_end0
          exact ⟨rfl, by obtain ⟨M, h1, h2⟩ := H3.out; exact ⟨M, h1, by first | exact h2 | (rw [List.append_assoc] at h2; exact h2)⟩⟩
        · have g1 := G1.out.2 n1
          have g2 := G2.out.1 n2
          have g3 := G3.out.1 n3
          have g4 := G4.out.1 n4
          have g5 := G5.out.2 n5
          have g6 := G6.out.2 n6
          have HC1 := Lib.hid (D1s.out (fun h => n1 h.1))
          have HC2 := Lib.hid (D2.out ⟨n3, n4⟩)
          have HC3 := Lib.hid (D3s.out (fun h => n5 h.1))
          clear n1 n2 n3 n4 n5 n6 D1 D1s D2 D2s D3 D3s G1 G2 G3 G4 G5 G6 HS3 HE3
          have H1 := HC1
          go_wp2_with fail
          refine (HC2.out _ H1.out).mono ?_
          rintro e' w2 ⟨rfl, hh⟩
          have H2 := Lib.hid hh
          clear hh
          have H3 := Lib.hid (Hfin.out _ (HC3.out _ H2.out))
          clear HC1 HC2 HC3 H1 H2 Hfin
          go_wp2
          go_end0
          exact ⟨rfl, by obtain ⟨M, h1, h2⟩ := H3.out; exact ⟨M, h1, by first | exact h2 | (rw [List.append_assoc] at h2; exact h2)⟩⟩
        · have g1 := G1.out.2 n1
          have g2 := G2.out.1 n2
          have g3 := G3.out.1 n3
          have g4 := G4.out.1 n4
          have g5 := G5.out.2 n5
          have g6 := G6.out.1 n6
          have HC1 := Lib.hid (D1s.out (fun h => n1 h.1))
          have HC2 := Lib.hid (D2.out ⟨n3, n4⟩)
          have HC3 := Lib.hid (D3s.out (fun h => n5 h.1))
          clear n1 n2 n3 n4 n5 n6 D1 D1s D2 D2s D3 D3s G1 G2 G3 G4 G5 G6 HS3 HE3
          have H1 := HC1
          go_wp2_with fail
          refine (HC2.out _ H1.out).mono ?_
          rintro e' w2 ⟨rfl, hh⟩
          have H2 := Lib.hid hh
          clear hh
          have H3 := Lib.hid (Hfin.out _ (HC3.out _ H2.out))
          clear HC1 HC2 HC3 H1 H2 Hfin
          go_wp2
          go_end0
          exact ⟨rfl, by obtain ⟨M, h1, h2⟩ := H3.out; exact ⟨M, h1, by first | exact h2 | (rw [List.append_assoc] at h2; exact h2)⟩⟩
      · rcases HE3.out with ⟨n4, n2, n6⟩ | ⟨n4, n2, n6⟩ | ⟨n4, n2, n6⟩
        · have g1 := G1.out.1 n1
          have g2 := G2.out.2 n2
          have g3 := G3.out.1 n3
          have g4 := G4.out.2 n4
          have g5 := G5.out.1 n5
          have g6 := G6.out.1 n6
          have HC1 := Lib.hid (D1s.out (fun h => n2 h.2))
          have HC2 := Lib.hid (D2s.out (fun h => n4 h.2))
          have HC3 := Lib.hid (D3.out ⟨n5, n6⟩)
          clear n1 n2 n3 n4 n5 n6 D1 D1s D2 D2s D3 D3s G1 G2 G3 G4 G5 G6 HS3 HE3
          have H1 := HC1
          have H2 := Lib.hid (HC2.out _ H1.out)
          go_wp2_with fail
          refine (HC3.out _ H2.out).mono ?_
          rintro e' w3 ⟨rfl, hh⟩
          have H3 := Lib.hid (Hfin.out _ hh)
          clear hh HC1 HC2 HC3 H1 H2 Hfin
          go_wp2
          go_end0
          exact ⟨rfl, by obtain ⟨M, h1, h2⟩ := H3.out; exact ⟨M, h1, by first | exact h2 | (rw [List.append_assoc] at h2; exact h2)⟩⟩
        · have g1 := G1.out.1 n1
          have g2 := G2.out.1 n2
          have g3 := G3.out.1 n3
          have g4 := G4.out.1 n4
          have g5 := G5.out.1 n5
          have g6 := G6.out.2 n6
          have HC1 := Lib.hid (D1.out ⟨n1, n2⟩)
          have HC2 := Lib.hid (D2.out ⟨n3, n4⟩)
          have HC3 := Lib.hid (D3s.out (fun h => n6 h.2))
          clear n1 n2 n3 n4 n5 n6 D1 D1s D2 D2s D3 D3s G1 G2 G3 G4 G5 G6 HS3 HE3
          go_wp2_with fail
          refine HC1.out.mono ?_
          rintro e' w1 ⟨rfl, hh⟩
          have H1 := Lib.hid hh
          clear hh
          go_wp2_with fail
          refine (HC2.out _ H1.out).mono ?_
          rintro e' w2 ⟨rfl, hh⟩
          have H2 := Lib.hid hh
          clear hh
          have H3 := Lib.hid (Hfin.out _ (HC3.out _ H2.out))
          clear HC1 HC2 HC3 H1 H2 Hfin
          go_wp2
          go_end0
          exact ⟨rfl, by obtain ⟨M, h1, h2⟩ := H3.out; exact ⟨M, h1, by first | exact h2 | (rw [List.append_assoc] at h2; exact h2)⟩⟩
        · have g1 := G1.out.1 n1
          have g2 := G2.out.1 n2
          have g3 := G3.out.1 n3
          have g4 := G4.out.1 n4
          have g5 := G5.out.1 n5
          have g6 := G6.out.1 n6
          have HC1 := Lib.hid (D1.out ⟨n1, n2⟩)
          have HC2 := Lib.hid (D2.out ⟨n3, n4⟩)
          have HC3 := Lib.hid (D3.out ⟨n5, n6⟩)
          clear n1 n2 n3 n4 n5 n6 D1 D1s D2 D2s D3 D3s G1 G2 G3 G4 G5 G6 HS3 HE3
          go_wp2_with fail
          refine HC1.out.mono ?_
          rintro e' w1 ⟨rfl, hh⟩
          have H1 := Lib.hid hh
          clear hh
          go_wp2_with fail
          refine (HC2.out _ H1.out).mono ?_
          rintro e' w2 ⟨rfl, hh⟩
          have H2 := Lib.hid hh
          clear hh
          go_wp2_with fail
          refine (HC3.out _ H2.out).mono ?_
          rintro e' w3 ⟨rfl, hh⟩
          have H3 := Lib.hid (Hfin.out _ hh)
          clear hh HC1 HC2 HC3 H1 H2 Hfin
          go_wp2
          go_end0
          exact ⟨rfl, by obtain ⟨M, h1, h2⟩ := H3.out; exact ⟨M, h1, by first | exact h2 | (rw [List.append_assoc] at h2; exact h2)⟩⟩
end Go.Proofs.YtlpkmghhmpkddaaDoor
