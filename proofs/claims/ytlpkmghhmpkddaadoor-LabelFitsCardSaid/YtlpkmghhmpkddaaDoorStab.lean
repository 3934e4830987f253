/- slices.stableCmpFunc at numbers, by its contract. -/
import Derived.Test.YtlpkmghhmpkddaaDoorIns
import Derived.Test.YtlpkmghhmpkddaaDoorStabN
namespace Go.Proofs.YtlpkmghhmpkddaaDoor
open Go.RowKit
set_option linter.unusedVariables false

/-- A stretch by its contract: insertionSort. -/
theorem ins_seg {g N c pt tb a n b : Nat} {T : List Bs} {F : List Nat} {w W : World} (hW : SymW w W g pt tb T F) (hT : T.length ≤ 100000) (hF : F.length = N) (hN2 : N ≤ 100000) (hb : a + n = b) (hbN : b ≤ N) (hr : (seg a n F).Pairwise (· < ·)) :
    Calls Tryd.prog 51 #[.slice (some ⟨g, 0, none⟩) N c, .int .i64 (a : Int), .int .i64 (b : Int), cmpV pt] W fun e w' => e = .returned (.tuple #[]) ∧ ∃ M, M.Perm (seg a n F) ∧ M.Pairwise (pre (tOf T)) ∧ SymW w w' g pt tb T (F.take a ++ M ++ F.drop (a + n)) := by
  have hp := seg_parts a n F
  have hW' := SymW.self hW
  rw [hp] at hW'
  refine (ins_any g N c pt tb a b T (F.take a) (seg a n F) (F.drop (a + n)) W hW' hT (by rw [← hp]; exact hF) hN2 (by rw [List.length_take]; omega) (by rw [seg_len]; omega) hr).mono ?_
  rintro e w' ⟨rfl, M, ⟨h1, h2⟩, h3⟩
  refine ⟨rfl, M, h1, h2, hW.next h3 ?_⟩
  conv => rhs; rw [hp]
  exact List.Perm.append_right _ (List.Perm.append_left _ h1)
/-- Two stretches side by side by its contract: symMerge. -/
theorem sym_seg {g N c pt tb a n k m b : Nat} {T : List Bs} {F : List Nat} {w W : World} (hW : SymW w W g pt tb T F) (hT : T.length ≤ 100000) (hF : F.length = N) (hN2 : N ≤ 100000) (hm : a + n = m) (hb : m + k = b) (hbN : b ≤ N) (hn : 0 < n) (hk : 0 < k) (hin : SymIn (tOf T) (seg a n F) (seg m k F)) :
    Calls Tryd.prog 52 #[.slice (some ⟨g, 0, none⟩) N c, .int .i64 (a : Int), .int .i64 (m : Int), .int .i64 (b : Int), cmpV pt] W fun e w' => e = .returned (.tuple #[]) ∧ ∃ M, SymOut (tOf T) (seg a n F) (seg m k F) M ∧ SymW w w' g pt tb T (F.take a ++ M ++ F.drop (a + (n + k))) := by
  have hp := seg_parts a (n + k) F
  rw [seg_split, hm] at hp
  have hp2 : F = F.take a ++ seg a n F ++ seg m k F ++ F.drop (a + (n + k)) := by
    conv => lhs; rw [hp]
    simp only [List.append_assoc]
  have hW' := SymW.self hW
  rw [hp2] at hW'
  refine (sym_any (c := c) (⟨hW', by rw [← hp2]; exact hF, by rw [List.length_take]; omega, by rw [seg_len]; omega, by rw [seg_len]; omega, by rw [seg_len]; omega, by rw [seg_len]; omega, hin⟩ : SymH g N pt tb T a m b (F.take a) (seg a n F) (seg m k F) (F.drop (a + (n + k))) W) hT hN2).mono ?_
  rintro e w' ⟨rfl, M, h1, h2⟩
  refine ⟨rfl, M, h1, hW.next h2 ?_⟩
  conv => rhs; rw [hp]
  exact List.Perm.append_right _ (List.Perm.append_left _ h1.1)
set_option maxRecDepth 100000 in
set_option maxHeartbeats 40000000 in
theorem stab_any (g N c pt tb : Nat) (T : List Bs) (w : World) (hW : SymW w w g pt tb T (List.range N)) (hT : T.length ≤ 100000) (hN2 : N ≤ 1000) :
    Calls Tryd.prog 36 #[.slice (some ⟨g, 0, none⟩) N c, .int .i64 (N : Int), cmpV pt] w fun e w' => e = .returned (.tuple #[]) ∧ ∃ M, (M.Perm (List.range N) ∧ M.Pairwise (pre (tOf T))) ∧ SrtTo w w' g M := by
  have HW := Lib.hid hW; have HT := Lib.hid hT
  have HN := Lib.hid (show N ≤ 100000 by omega)
  clear hW hT
  go_enter Tryd.func36, Tryd.ntmps36
  go_wp2
  go_loopw [7, 8] (fun av bv wr => ∃ (i : Nat) (F : List Nat), 20 * i ≤ N ∧ av = .int .i64 ((20 * i : Nat) : Int) ∧ bv = .int .i64 (((20 * i : Nat) : Int) + 20) ∧ Inv1 (tOf T) N F (20 * i) ∧ SymW w wr g pt tb T F) (fun av _ _ => N + 20 - (intOf av).toNat)
  case atStart => exact ⟨0, List.range N, Nat.zero_le _, rfl, rfl, Inv1.start, HW.out⟩
  case round =>
    rename World => wo
    obtain ⟨i, F, hi, rfl, rfl, hinv, hsw⟩ := hrel
    have HI := Lib.hid hinv; have HS := Lib.hid hsw
    clear hinv hsw
    obtain ⟨a, ha⟩ : ∃ a, a = 20 * i := ⟨_, rfl⟩
    have Hai := Lib.hid ha
    rw [← ha] at hi ⊢
    clear ha
    by_cases hb : a + 20 ≤ N
    · have hb' : (a : Int) + 20 ≤ (N : Int) := by omega
      have Hc := Lib.hid (ins_seg (c := c) (a := a) (n := 20) (b := a + 20) HS.out HT.out HI.out.1 HN.out rfl hb (by rw [Hai.out]; exact HI.out.rise.2))
      rw [show ((a + 20 : Nat) : Int) = (a : Int) + 20 by omega] at Hc
      go_wp2_with fail
      refine Hc.out.mono ?_
      rintro e w2 ⟨rfl, M, h1, h2, h3⟩
      have HZ := Lib.hid (show Inv1 (tOf T) N (F.take a ++ M ++ F.drop (a + 20)) (20 * (i + 1)) from by
        have hb2 := hb
        rw [Hai.out] at hb2 h1 ⊢
        exact HI.out.step hb2 h1 h2)
      have HS2 := Lib.hid h3
      have he : ((20 * (i + 1) : Nat) : Int) = (a : Int) + 20 := by have := Hai.out; omega
      have He := Lib.hid he
      clear h1 h2 h3 Hc he
      go_wp2
      go_roundw
      case rel => exact ⟨i + 1, _, by have := Hai.out; omega, by rw [He.out], by rw [He.out], HZ.out, HS2.out⟩
      case measure => simp [intOf]; omega
    · have hb' : ¬ (a : Int) + 20 ≤ (N : Int) := by omega
      have Hc := Lib.hid (ins_seg (c := c) (a := a) (n := N - a) (b := N) HS.out HT.out HI.out.1 HN.out (by omega) (Nat.le_refl _) (by rw [Hai.out]; exact HI.out.rise.2))
      go_wp2_with fail
      refine Hc.out.mono ?_
      rintro e w2 ⟨rfl, M, h1, h2, h3⟩
      have HZ := Lib.hid (show AllB (tOf T) N (F.take a ++ M ++ F.drop (a + (N - a))) 20 from by
        have e := Hai.out
        have hi2 := hi
        have hb2 : N < a + 20 := by omega
        rw [e] at hi2 hb2 h1 ⊢
        exact HI.out.last hi2 hb2 h1 h2)
      have HS2 := Lib.hid h3
      generalize F.take a ++ M ++ F.drop (a + (N - a)) = F1 at HZ HS2
      clear h1 h2 h3 Hc HI HS
      go_wp2
      go_loopw [6] (fun sv wr => ∃ (B : Nat) (F : List Nat), 0 < B ∧ B ≤ 2 * N + 20 ∧ sv = .int .i64 (B : Int) ∧ AllB (tOf T) N F B ∧ SymW w wr g pt tb T F) (fun sv _ => 2 * N + 40 - (intOf sv).toNat)
      case atStart => exact ⟨20, F1, by decide, by omega, rfl, HZ.out, HS2.out⟩
      case round =>
        rename World => wb
        obtain ⟨B, F2, hB, hB2, rfl, hinv, hsw⟩ := hrel
        have HA := Lib.hid hinv; have HS3 := Lib.hid hsw
        clear hinv hsw
        by_cases hBN : B < N
        case neg =>
          have hBN' : ¬ (B : Int) < (N : Int) := by omega
          have HE := Lib.hid (HA.out.done (by omega))
          clear hBN HZ HS2
          go_wp2
          go_end0
          exact ⟨rfl, F2, HE.out, HS3.out.s⟩
        have hBN' : (B : Int) < (N : Int) := by omega
        have HI2 := Lib.hid HA.out.start
        go_wp2
        go_loopw [7, 8] (fun av bv wr => ∃ (i : Nat) (F : List Nat), 2 * B * i ≤ N ∧ av = .int .i64 ((2 * B * i : Nat) : Int) ∧ bv = .int .i64 (((2 * B * i : Nat) : Int) + 2 * (B : Int)) ∧ Inv2 (tOf T) N F B (2 * B * i) ∧ SymW w wr g pt tb T F) (fun av _ _ => N + 1 - (intOf av).toNat)
        case atStart => exact ⟨0, F2, by rw [Nat.mul_zero]; exact Nat.zero_le _, by rw [Nat.mul_zero]; rfl, by rw [Nat.mul_zero]; simp, by rw [Nat.mul_zero]; exact HI2.out, HS3.out⟩
        case round =>
          rename World => wc
          obtain ⟨i3, F3, hi3, rfl, rfl, hinv, hsw⟩ := hrel
          have HI3 := Lib.hid hinv; have HS4 := Lib.hid hsw
          clear hinv hsw
          obtain ⟨d, hd⟩ : ∃ d, d = 2 * B * i3 := ⟨_, rfl⟩
          have Hd := Lib.hid hd
          have Hd1 := Lib.hid (show 2 * B * (i3 + 1) = d + 2 * B by rw [hd, Nat.mul_add, Nat.mul_one])
          rw [← hd] at hi3 ⊢
          clear hd
          have e0 := Lib.hid (show okS (tOf T) N F3 d B ∧ okS (tOf T) N F3 (d + B) B from by
            have q0 : B * (2 * i3) = 2 * B * i3 := by rw [Nat.mul_comm 2 B, Nat.mul_assoc]
            have q1 : B * (2 * i3 + 1) = 2 * B * i3 + B := by rw [Nat.mul_add, q0, Nat.mul_one]
            have o1 := HI3.out.2.2 (2 * i3) (by omega)
            have o2 := HI3.out.2.2 (2 * i3 + 1) (by omega)
            rw [q0, ← Hd.out] at o1
            rw [q1, ← Hd.out] at o2
            exact ⟨o1, o2⟩)
          by_cases hb3 : d + 2 * B ≤ N
          · have hb3' : (d : Int) + 2 * (B : Int) ≤ (N : Int) := by omega
            have Hc := Lib.hid (sym_seg (c := c) (a := d) (n := B) (k := B) (m := d + B) (b := d + 2 * B) HS4.out HT.out HI3.out.1 HN.out rfl (by omega) hb3 hB hB (okS_in e0.out.1 e0.out.2))
            rw [show ((d + B : Nat) : Int) = (d : Int) + (B : Int) by omega, show ((d + 2 * B : Nat) : Int) = (d : Int) + 2 * (B : Int) by omega] at Hc
            go_wp2_with fail
            refine Hc.out.mono ?_
            rintro e w5 ⟨rfl, M, h1, h3⟩
            have HZ2 := Lib.hid (show Inv2 (tOf T) N (F3.take d ++ M ++ F3.drop (d + (B + B))) B (2 * B * (i3 + 1)) from by
              have hb4 := hb3
              rw [Hd.out] at hb4 h1 ⊢
              exact HI3.out.step hB hb4 h1)
            have HS5 := Lib.hid h3
            have He := Lib.hid (show ((2 * B * (i3 + 1) : Nat) : Int) = (d : Int) + 2 * (B : Int) by rw [Hd1.out]; omega)
            clear h1 h3 Hc
            go_wp2
            go_roundw
            case rel => exact ⟨i3 + 1, _, by rw [Hd1.out]; exact hb3, by rw [He.out], by rw [He.out], HZ2.out, HS5.out⟩
            case measure => simp [intOf]; omega
          · have hb3' : ¬ (d : Int) + 2 * (B : Int) ≤ (N : Int) := by omega
            have Hb2 := Lib.hid (show ((2 * B : Nat) : Int) = (B : Int) * 2 by omega)
            by_cases hm : d + B < N
            · have hm' : (d : Int) + (B : Int) < (N : Int) := by omega
              have e1 := Lib.hid (show okS (tOf T) N F3 (d + B) (N - (d + B)) from by
                have e3 : ∀ G : List Nat, G.length = N → seg (d + B) (N - (d + B)) G = seg (d + B) B G := fun G hG => by
                  unfold seg
                  rw [List.take_of_length_le (by rw [List.length_drop]; omega), List.take_of_length_le (by rw [List.length_drop]; omega)]
                unfold okS
                rw [e3 F3 HI3.out.1, e3 _ (List.length_range ..)]
                exact e0.out.2)
              have Hc := Lib.hid (sym_seg (c := c) (a := d) (n := B) (k := N - (d + B)) (m := d + B) (b := N) HS4.out HT.out HI3.out.1 HN.out rfl (by omega) (Nat.le_refl _) hB (by omega) (okS_in e0.out.1 e1.out))
              rw [show ((d + B : Nat) : Int) = (d : Int) + (B : Int) by omega] at Hc
              go_wp2_with fail
              refine Hc.out.mono ?_
              rintro e w5 ⟨rfl, M, h1, h3⟩
              have HZ2 := Lib.hid (show AllB (tOf T) N (F3.take d ++ M ++ F3.drop (d + (B + (N - (d + B))))) (2 * B) from by
                have q1 := hm
                have q2 : N < d + 2 * B := by omega
                rw [Hd.out] at q1 q2 h1 ⊢
                exact HI3.out.last hB q1 q2 h1)
              have HS5 := Lib.hid h3
              clear h1 h3 Hc e0 e1
              go_wp2
              go_roundw
              case rel => exact ⟨2 * B, _, by omega, by omega, by rw [Hb2.out], HZ2.out, HS5.out⟩
              case measure => simp [intOf]; omega
            · have hm' : ¬ (d : Int) + (B : Int) < (N : Int) := by omega
              have HZ2 := Lib.hid (show AllB (tOf T) N F3 (2 * B) from by
                have q1 : N ≤ d + B := by omega
                rw [Hd.out] at q1
                exact HI3.out.skip hB q1)
              clear e0
              go_wp2
              go_roundw
              case rel => exact ⟨2 * B, F3, by omega, by omega, by rw [Hb2.out], HZ2.out, HS4.out⟩
              case measure => simp [intOf]; omega
end Go.Proofs.YtlpkmghhmpkddaaDoor
