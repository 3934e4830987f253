/- The reference's head: Points, Count, Series. -/
import Derived.Test.YtfnjgminbjopeaaGreatDoorRHeadQ
import Derived.Test.YtfnjgminbjopeaaGreatDoorHeadIterQ
import Derived.Test.YtfnjgminbjopeaaGreatDoorBetween
namespace Go.Proofs.YtfnjgminbjopeaaGreatDoor
open Go.RowKit
set_option linter.unusedVariables false

theorem rIx_get {L : List RLn} {s : Bs} (h : rIx L s < L.length) : ∃ x, L[rIx L s]? = some x ∧ x ∈ L ∧ hFind (absR L) s = some (x.nm, x.pts, x.last) := by
  refine ⟨L[rIx L s], List.getElem?_eq_getElem h, List.getElem_mem h, (rIx_at (List.getElem?_eq_getElem h)).2⟩

set_option maxRecDepth 100000 in
theorem rpoints_any {G : Nat → Prop} {b : Nat} {lv : Value} {L : List RLn} (s : Bs) (f t : Int) (w : World) (hR : RefAt w G b lv L) (hL : L.length ≤ 1000) (hN : ∀ x ∈ L, x.pts.length ≤ 100000) :
    Calls Tryz.prog 14 #[.pointer (some ⟨b, 0, none⟩), .string (B8 s), .int .i64 f, .int .i64 t] w fun e w' => ∃ v, e = .returned v ∧ w'.ownsRow w.heap.size 32 2 v (hPoints (absR L) s f t).length (ptsC (hPoints (absR L) s f t)) ∧ Below w.heap.size w w' := by
  by_cases h : rIx L s < L.length
  · obtain ⟨x, hx, hxm, hfx⟩ := rIx_get h
    have hpt : hPoints (absR L) s f t = betL f t x.pts := by unfold hPoints; rw [hfx]
    rw [hpt]
    have Hfind := Lib.hid (rfind_in s w hR hL h)
    obtain ⟨A, c, rfl, _, _, hrd⟩ := own_form hR.rows
    have z1 : w.cell? ⟨b, 0, none⟩ = some (.slice A L.length c) := hR.hd.cell 0
    obtain ⟨bl, o, y, hA, _, hy, _, e1, _⟩ := hrd.at3r h
    obtain rfl : y = x := Option.some.inj (hy.symm.trans hx)
    subst hA
    obtain ⟨Ap, cp, hv, _, _, hrp⟩ := own_form (hR.pts y hxm)
    rw [hv] at e1
    have Hb := Lib.hid (betweenOf_any Ap y.pts.length cp y.pts f t w hrp (hN y hxm))
    clear hR hrd hx hxm hfx hpt hy hv hrp hN
    generalize rIx L s = ix at h Hfind e1
    generalize L.length = n at h z1 hL
    have h' : (ix : Int) < n := by omega
    go_enter Tryz.func14, Tryz.ntmps14
    go_wp2_with (first | (go_at_call 23; refine Hfind.out.mono ?_; rintro e w' ⟨rfl, rfl⟩) | (go_at_call 26; refine Hb.out.mono ?_; rintro e w1 ⟨v1, rfl, hown, hb⟩; have HO := Lib.hid hown; have HB := Lib.hid hb; obtain ⟨A1, c1, hv1, _, _, _⟩ := own_form hown; have Hv1 := Lib.hid hv1; clear hown hb hv1))
    go_ret
    exact ⟨_, rfl, HO.out, HB.out⟩
  · have hpt : hPoints (absR L) s f t = [] := by unfold hPoints; rw [rIx_none h]
    rw [hpt]
    have Hfind := Lib.hid (rfind_out s w hR hL h)
    clear hR hN hpt h
    go_enter Tryz.func14, Tryz.ntmps14
    go_wp2_with (first | (go_at_call 23; refine Hfind.out.mono ?_; rintro e w' ⟨rfl, rfl⟩))
    go_ret
    exact ⟨_, rfl, World.ownsRow_nil _ _ _ _, Below.refl _ _⟩

def cntR (L : List RLn) (k : Nat) : Nat := ((L.take k).map fun x => x.pts.length).sum
theorem cntR_snoc {L : List RLn} {k : Nat} {x : RLn} (h : L[k]? = some x) : cntR L (k + 1) = cntR L k + x.pts.length := by
  unfold cntR
  rw [List.take_add_one, h, List.map_append, List.sum_append]
  simp
theorem cntR_all (L : List RLn) : cntR L L.length = hCount (absR L) := by
  unfold cntR hCount absR
  rw [List.take_length, List.map_map]; rfl
theorem cntR_le (L : List RLn) (k : Nat) : cntR L k ≤ hCount (absR L) := by
  rw [← cntR_all]
  unfold cntR
  rw [List.take_length]
  conv => rhs; rw [← List.take_append_drop k L, List.map_append, List.sum_append]
  omega
set_option maxRecDepth 100000 in
theorem rcount_any {G : Nat → Prop} {b : Nat} {lv : Value} {L : List RLn} (w : World) (hR : RefAt w G b lv L) (hL : L.length ≤ 1000) (hN : hCount (absR L) ≤ 1000000000) :
    Calls Tryz.prog 16 #[.pointer (some ⟨b, 0, none⟩)] w fun e w' => e = .returned (.int .i64 (hCount (absR L) : Nat)) ∧ w = w' := by
  obtain ⟨A, c, rfl, _, _, hrd⟩ := own_form hR.rows
  have z1 : w.cell? ⟨b, 0, none⟩ = some (.slice A L.length c) := hR.hd.cell 0
  have Hrd := Lib.hid hrd
  have Hp := Lib.hid hR.pts
  clear hR hrd
  generalize hn : L.length = n at z1 Hrd hL
  have Hn := Lib.hid hn
  clear hn
  go_enter Tryz.func16, Tryz.ntmps16
  go_wp2
  go_loopw [3, 4] (fun cv iv wr => ∃ i : Nat, i ≤ n ∧ iv = .int .i64 i ∧ cv = .int .i64 (cntR L i : Nat) ∧ w = wr) (fun _ iv _ => 1001 - (intOf iv).toNat)
  case atStart => exact ⟨0, Nat.zero_le _, rfl, rfl, rfl⟩
  case round =>
    obtain ⟨i, hi, rfl, rfl, rfl⟩ := hrel
    by_cases hin : i < n
    · obtain ⟨bl, o, y, hA, _, hy, _, e1, _⟩ := Hrd.out.at3r hin
      subst hA
      obtain ⟨Ap, cp, hv, _, _, _⟩ := own_form (Hp.out y (List.mem_of_getElem? hy))
      rw [hv] at e1
      have hs := cntR_snoc hy
      have hle := cntR_le L (i + 1)
      generalize hc : cntR L i = ci at hs
      generalize hc1 : cntR L (i + 1) = ci1 at hs hle
      generalize y.pts.length = yl at hs e1
      have hb : ci + yl ≤ 1000000000 := by omega
      have Hc1 := Lib.hid (hs.symm.trans hc1.symm)
      clear hy hv hc1 hs hle hc
      go_wp2
      go_roundw
      case rel => exact ⟨i + 1, by omega, by go_num, by rw [← Hc1.out]; go_num, by first | rfl | trivial⟩
      case measure => simp [intOf]; omega
    · obtain rfl : i = n := by omega
      go_wp2
      go_ret
      exact ⟨by rw [← Hn.out, cntR_all]; rfl, by first | rfl | trivial⟩

theorem filt_snoc {L : List RLn} {k : Nat} {x : RLn} (h : L[k]? = some x) : hSeries (absR (L.take (k + 1))) = hSeries (absR (L.take k)) ++ if x.pts = [] then [] else [x.nm] := by
  unfold hSeries absR
  rw [List.take_add_one, h, List.map_append, List.filter_append, List.map_append]
  congr 1
  by_cases h : x.pts = []
  · simp [h]
  · simp [h]
theorem txC_snoc (l : List Bs) (s : Bs) : txC (l ++ [s]) = txC l ++ [.string (B8 s)] := by unfold txC; rw [List.map_append]; rfl
set_option maxRecDepth 100000 in
theorem rseries_any {G : Nat → Prop} {b : Nat} {lv : Value} {L : List RLn} (w : World) (hR : RefAt w G b lv L) (hL : L.length ≤ 1000) :
    Calls Tryz.prog 19 #[.pointer (some ⟨b, 0, none⟩)] w fun e w' => ∃ v, e = .returned v ∧ w'.ownsRow w.heap.size 9 1 v (hSeries (absR L)).length (txC (hSeries (absR L))) ∧ Below w.heap.size w w' := by
  obtain ⟨A, c, rfl, _, _, hrd⟩ := own_form hR.rows
  have HR := Lib.hid hR
  have Hp := Lib.hid hR.pts
  obtain ⟨i0, hi0, hz0, hz1, hz2⟩ := info_parts infoTx
  have Hi := Lib.hid hi0; have Hz0 := Lib.hid hz0; have Hz1 := Lib.hid hz1; have Hz2 := Lib.hid hz2
  clear hR hrd hi0 hz0 hz1 hz2
  generalize hn : L.length = n at HR hL
  have Hn := Lib.hid hn
  clear hn
  go_enter Tryz.func19, Tryz.ntmps19
  go_wp2
  go_loopw [3, 4] (fun ov iv wr => ∃ i : Nat, i ≤ n ∧ iv = .int .i64 i ∧ wr.ownsRow w.heap.size 9 1 ov (hSeries (absR (L.take i))).length (txC (hSeries (absR (L.take i)))) ∧ Below w.heap.size w wr) (fun _ iv _ => 1001 - (intOf iv).toNat)
  case atStart => exact ⟨0, Nat.zero_le _, rfl, World.ownsRow_nil _ _ _ _, Below.refl _ _⟩
  case round =>
    obtain ⟨i, hi, rfl, hown, hbel⟩ := hrel
    have HB := Lib.hid hbel; have HO := Lib.hid hown
    have HR' := HR.out.below hbel
    obtain ⟨Ao, co, rfl, _, _, _⟩ := own_form hown
    have z1 : wr.cell? ⟨b, 0, none⟩ = some (.slice A n c) := HR'.hd.cell 0
    obtain ⟨A', c', hv', _, _, hrd⟩ := own_form HR'.rows
    injection hv' with h1 h2 h3
    subst h1
    have hol : (hSeries (absR (L.take i))).length ≤ 1000 := by
      unfold hSeries absR
      rw [List.length_map]
      refine Nat.le_trans (List.length_filter_le _ _) ?_
      rw [List.length_map, List.length_take]
      omega
    have hsz := hbel.size
    clear hbel hown HR' h2 h3
    by_cases hin : i < n
    · obtain ⟨bl, o, y, hA, _, hy, e0, e1, _⟩ := hrd.at3r (k := i) (by rw [Hn.out]; exact hin)
      subst hA
      obtain ⟨Ap, cp, hv, _, _, _⟩ := own_form (Hp.out y (List.mem_of_getElem? hy))
      rw [hv] at e1
      have Hs := Lib.hid (filt_snoc hy)
      by_cases hp : y.pts = []
      · rw [hp, List.length_nil] at e1
        have hs := Hs.out
        rw [if_pos hp, List.append_nil] at hs
        have Hs' := Lib.hid hs
        clear hy hv hrd hs hp
        go_wp2
        go_roundw
        case rel => exact ⟨i + 1, by omega, by go_num, by rw [Hs'.out]; exact HO.out, HB.out⟩
        case measure => simp [intOf]; omega
      · have hs := Hs.out
        rw [if_neg hp] at hs
        have Hs' := Lib.hid hs
        have hpl : 0 < y.pts.length := List.length_pos_iff.2 hp
        generalize y.pts.length = yl at hpl e1
        clear hy hv hrd hs hp
        have hwr : w.heap.size ≤ wr.heap.size := hsz
        generalize hst : B8 y.nm = st at e0
        have Hst := Lib.hid hst
        have hk63 : (hSeries (absR (L.take i))).length + 1 ≤ maxLen := by unfold maxLen; omega
        have hk8 : ((hSeries (absR (L.take i))).length + 1) * 16 ≤ 140737488355328 := by omega
        have HoA := Lib.hid (show (wr.alloc (.cells #[.string st] 9)).ownsRow w.heap.size 9 1 (.slice Ao (hSeries (absR (L.take i))).length co) (hSeries (absR (L.take i))).length (txC (hSeries (absR (L.take i)))) from HO.out.alloc _)
        have HrA := Lib.hid (one_cell wr 9 (.string st))
        have HzA := Lib.hid (show w.heap.size ≤ (wr.alloc (.cells #[.string st] 9)).heap.size by simp; omega)
        have HbA := Lib.hid (Below.alloc HB.out hwr (.cells #[.string st] 9))
        generalize hln : (hSeries (absR (L.take i))).length = ln at hk63 hk8 HoA
        have Hln := Lib.hid hln
        clear hln hst hol
        go_wp2_with (at_builtin; refine wpList_append_rd _ rfl (.tmp 24) (.tmp 33) _ rfl w.heap.size 9 i0 (.string ⟨#[]⟩) 1 16 Tryz.underlying47 Hi.out Hz0.out Hz1.out Hz2.out rfl (by decide) (.slice Ao ln co) ln _ rfl HoA.out _ _ 1 1 [.string st] rfl HrA.out (by intro u hu; simp at hu; subst hu; rfl) hk63 hk8 HzA.out ?_; intro v' wa hown' hgr hat; have Hv := Lib.hid hown'; have HBb := Lib.hid (Below.grown HbA.out hgr HzA.out (fun g hg => (own_lt HoA.out g hg).1)); clear hown' hgr hat)
        go_roundw
        case rel => exact ⟨i + 1, by omega, by go_num, by
          have h := Hv.out
          rw [Hs'.out, List.length_append, Hln.out, txC_snoc, Hst.out]
          exact h, HBb.out⟩
        case measure => simp [intOf]; omega
    · obtain rfl : i = n := by omega
      go_wp2
      go_ret
      have e : L.take i = L := by rw [← Hn.out]; exact List.take_length
      refine ⟨.slice Ao (hSeries (absR (L.take i))).length co, rfl, ?_, HB.out⟩
      have h := HO.out
      rw [e] at h ⊢
      exact h
end Go.Proofs.YtfnjgminbjopeaaGreatDoor
