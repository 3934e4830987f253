/- Joined blocks, plain: all points of both, at any ticks, of any series. -/
import Derived.Test.YtfkklcmepcocoaaGreatDoorJoinQ
import Derived.Test.YtfkklcmepcocoaaGreatDoorMki
import Derived.Test.YtfkklcmepcocoaaGreatDoorMkk
import Derived.Test.YtfkklcmepcocoaaGreatDoorCode
import Derived.Test.YtfkklcmepcocoaaGreatDoorMkd
namespace Go.Proofs.YtfkklcmepcocoaaGreatDoor
open Go.RowKit
set_option linter.unusedVariables false

theorem merge_app : ∀ (a b : List (Int × Int)), (∀ p ∈ a, ∀ q ∈ b, p.1 < q.1) → mergeP a b = a ++ b
  | [], b, _ => by rw [mergeP]; rfl
  | a :: l1, [], _ => by rw [mergeP]; simp
  | a :: l1, b :: l2, h => by
    rw [merge_lt (h a List.mem_cons_self b List.mem_cons_self), merge_app l1 (b :: l2) fun p hp q hq => h p (List.mem_cons_of_mem _ hp) q hq]
    rfl
theorem catP_ptsOf {X : List Rw} (h : (X.map Prod.fst).Pairwise (· < ·)) (s : Bs) : catP X s = ptsOf X s := by
  induction X with
  | nil => rfl
  | cons r X ih =>
    rw [List.map_cons, List.pairwise_cons] at h
    have ih := ih h.2
    rw [show r :: X = [r] ++ X from rfl, catP_append]
    by_cases e : r.1 = s
    · subst e
      have hno : ∀ q ∈ X, q.1 ≠ r.1 := fun q hq e => by
        have := h.1 q.1 (List.mem_map.2 ⟨q, hq, rfl⟩)
        rw [e] at this
        exact lt_irrefl_bs _ this
      rw [catP_none hno, List.append_nil, ptsOf_hit (k := 0) (r := r) rfl rfl (fun j x hj => by omega)]
      simp [catP]
    · rw [show catP [r] s = [] from catP_none fun q hq => by rw [List.mem_singleton.1 hq]; exact e, List.nil_append, ih]
      unfold ptsOf
      rw [List.find?_append, show [r].find? (fun r => decide (r.1 = s)) = none by simp [e]]
      rfl
theorem ptsOf_both (l : List Rw) (s : Bs) : ptsOf (keepR (bothR l)) s = catP l s := by
  unfold ptsOf
  cases hf : (keepR (bothR l)).find? fun r => decide (r.1 = s) with
  | some r =>
    have h1 : r.1 = s := by simpa using List.find?_some hf
    have h2 := (List.mem_filter.1 (List.mem_of_find?_eq_some hf)).1
    obtain ⟨u, _, rfl⟩ := List.mem_map.1 h2
    show catP l u = catP l s
    rw [show u = s from h1]
  | none =>
    show [] = _
    by_cases hs : s ∈ srtN l
    · by_cases hc : catP l s = []
      · exact hc.symm
      · have hm : (s, catP l s) ∈ keepR (bothR l) := List.mem_filter.2 ⟨List.mem_map.2 ⟨s, hs, rfl⟩, by simpa using hc⟩
        have := List.find?_eq_none.1 hf _ hm
        simp at this
    · exact (catP_none fun r hr e => hs (srtN_mem.2 ⟨r, hr, e⟩)).symm
theorem betL_append (f t : Int) (a b : List (Int × Int)) : betL f t (a ++ b) = betL f t a ++ betL f t b := by unfold betL; rw [List.filter_append]
theorem ptsOf_sub {rows : List Rw} {s : Bs} {p : Int × Int} (h : p ∈ ptsOf rows s) : ∃ r ∈ rows, p ∈ r.2 := by
  unfold ptsOf at h
  split at h
  · rename_i r hr
    exact ⟨r, List.mem_of_find?_eq_some hr, h⟩
  · cases h
theorem allIn_mem {f e : Int} {l : List (Int × Int)} (h : allIn f e l = true) {p : Int × Int} (hp : p ∈ l) : f ≤ p.1 ∧ p.1 < e := by
  have := (List.all_eq_true.1 h) p hp
  unfold outB at this
  simp at this
  omega
/-- What a joined block answers. -/
theorem join_pts {fr a b : Int} {X Y : List Rw} (hX : RowsOk fr (fr + a) X) (hY : RowsOk (fr + a) (fr + a + b) Y) (s : Bs) (lo hi : Int) :
    betL lo hi (ptsOf (keepR (bothR (X ++ Y))) s) = mergeP (betL lo hi (ptsOf X s)) (betL lo hi (ptsOf Y s)) := by
  rw [ptsOf_both, catP_append, catP_ptsOf hX.2, catP_ptsOf hY.2, betL_append, merge_app]
  intro p hp q hq
  obtain ⟨r, hr, hpr⟩ := ptsOf_sub (betL_mem hp)
  obtain ⟨t, ht, hqt⟩ := ptsOf_sub (betL_mem hq)
  have h1 := allIn_mem (hX.1 r hr).2.2 hpr
  have h2 := allIn_mem (hY.1 t ht).2.2 hqt
  omega
/-- A block that Make gave, as an argument. -/
theorem Back.rows {fr sp : Int} {L : List Rw} (h : Back fr sp L) : (rowsR fr sp (nmsOf (encR L)) (chsOf (encR L))) = ((0, -1), L) := h.rd
end Go.Proofs.YtfkklcmepcocoaaGreatDoor

namespace Go.Proofs.YtfkklcmepcocoaaGreatDoor
open Go.RowKit
set_option linter.unusedVariables false

theorem coded2_any {es : Nat → Addr} {B : Nat} (v : Value) (n t c : Int) (w : World) (hS : Sents es B w) (hB : B ≤ w.heap.size) (hv : ErrIs es w v n t) :
    Calls Tryz.prog 21 #[v, .int .i64 c] w fun e w' => e = .returned (.bool (decide (n = c) && decide (t = -1))) ∧ Below w.heap.size w w' := by
  have hc := code_any v n t w hS hB hv
  clear hv hS
  by_cases h1 : n = c
  · by_cases h2 : t = -1
    · subst h1; subst h2
      have Hc := Lib.hid hc; clear hc
      go_enter Tryz.func21, Tryz.ntmps21
      go_wp2_with fail
      refine Hc.out.mono ?_
      rintro e w1 ⟨rfl, hb⟩
      have Hb := Lib.hid hb; clear hb
      go_wp2
      go_ret
      exact ⟨by simp, Hb.out⟩
    · subst h1
      have b2 : (t == -1) = false := by simp [h2]
      have Hc := Lib.hid hc; have H2 := Lib.hid h2; clear hc h2
      go_enter Tryz.func21, Tryz.ntmps21
      go_wp2_with fail
      refine Hc.out.mono ?_
      rintro e w1 ⟨rfl, hb⟩
      have Hb := Lib.hid hb; clear hb
      go_wp2
      go_ret
      exact ⟨by simp [H2.out], Hb.out⟩
  · have b1 : (n == c) = false := by simp [h1]
    have Hc := Lib.hid hc; have H1 := Lib.hid h1; clear hc h1
    go_enter Tryz.func21, Tryz.ntmps21
    go_wp2_with fail
    refine Hc.out.mono ?_
    rintro e w1 ⟨rfl, hb⟩
    have Hb := Lib.hid hb; clear hb
    go_wp2
    go_ret
    exact ⟨by simp [H1.out], Hb.out⟩
theorem faulted2_any {es : Nat → Addr} {B : Nat} (v : Value) (n t : Int) (c at_ : Int) (w : World) (hS : Sents es B w) (hB : B ≤ w.heap.size) (hv : ErrIs es w v n t) (hc : n = c) (ht : c = 0 ∨ t = at_) :
    Calls Tryz.prog 18 #[v, .agg #[.int .i64 c, .int .i64 at_]] w fun e w' => e = .returned (.bool true) ∧ Below w.heap.size w w' := by
  subst hc
  have hb1 : Below w.heap.size w (w.alloc (.cells #[.int .i64 n, .int .i64 at_] 57)) := by go_grown
  have hcd := code_any v n t _ (hS.below hb1 hB) (by simp; omega) (hv.below hb1 (Nat.le_refl _))
  have Hcd := Lib.hid hcd; have Hb1 := Lib.hid hb1
  have HK := Lib.hid (Blk.new w 57 #[.int .i64 n, .int .i64 at_])
  clear hcd hb1 hv hS
  by_cases h0 : n = 0
  · subst h0
    go_enter Tryz.func18, Tryz.ntmps18
    go_wp2_with fail
    refine Hcd.out.mono ?_
    rintro e w1 ⟨rfl, hb⟩
    have hk := HK.out.below hb (by simp)
    have z0 := hk.cell 0; have z1 := hk.cell 1
    simp only [List.getElem?_toArray, List.getElem?_cons_zero, List.getElem?_cons_succ] at z0 z1
    have Hb := Lib.hid (Below.call Hb1.out hb (by simp))
    clear hb hk
    go_wp2
    go_ret
    exact ⟨rfl, Hb.out⟩
  · obtain rfl : t = at_ := by omega
    have b0 : (n == 0) = false := by rw [beq_eq_false_iff_ne]; exact h0
    clear h0 ht
    go_enter Tryz.func18, Tryz.ntmps18
    go_wp2_with fail
    refine Hcd.out.mono ?_
    rintro e w1 ⟨rfl, hb⟩
    have hk := HK.out.below hb (by simp)
    have z0 := hk.cell 0; have z1 := hk.cell 1
    simp only [List.getElem?_toArray, List.getElem?_cons_zero, List.getElem?_cons_succ] at z0 z1
    have Hb := Lib.hid (Below.call Hb1.out hb (by simp))
    clear hb hk
    go_wp2
    go_ret
    exact ⟨rfl, Hb.out⟩
end Go.Proofs.YtfkklcmepcocoaaGreatDoor

namespace Go.Proofs.YtfkklcmepcocoaaGreatDoor
open Go.RowKit
set_option linter.unusedVariables false

/-- A block in its variable, with its two slices. -/
structure BVar (W : World) (base g : Nat) (fr sp : Int) (A1 : Option Addr) (c1 : Nat) (A2 : Option Addr) (c2 m : Nat) (L : List Rw) : Prop where
  bk : Blk W g 27 #[.int .i64 fr, .int .i64 sp, .slice A1 m c1, .slice A2 m c2]
  pr : Pair W base 9 (.slice A1 m c1) m (txS (encR L)) (.slice A2 m c2) m (chS (encR L))
  ok : Back fr sp L
theorem BVar.below {W W' : World} {base g : Nat} {fr sp : Int} {A1 A2 : Option Addr} {c1 c2 m : Nat} {L : List Rw} (h : BVar W base g fr sp A1 c1 A2 c2 m L) (hb : Below W.heap.size W W') : BVar W' base g fr sp A1 c1 A2 c2 m L :=
  ⟨h.bk.below hb h.bk.lt, h.pr.fr (Fr.ofBel hb), h.ok⟩
theorem BVar.arg {W : World} {base g : Nat} {fr sp : Int} {A1 A2 : Option Addr} {c1 c2 m : Nat} {L : List Rw} (h : BVar W base g fr sp A1 c1 A2 c2 m L) : (BArg.mk fr sp A1 A2 m c1 m c2 (nmsOf (encR L)) (chsOf (encR L))).Ok W :=
  ⟨by show Rd W W.heap.size 1 A1 m ((nmsOf (encR L)).map fun s => .string (B8 s)); rw [← txS_nms]; exact Rd.of_own h.pr.l, by show Rd W W.heap.size 1 A2 m ((chsOf (encR L)).map fun x => .string (bytesOf x)); rw [← chS_chs]; exact Rd.of_own h.pr.r, h.ok.names, h.ok.chunks⟩
theorem BVar.cells {W : World} {base g : Nat} {fr sp : Int} {A1 A2 : Option Addr} {c1 c2 m : Nat} {L : List Rw} (h : BVar W base g fr sp A1 c1 A2 c2 m L) :
    W.cell? ⟨g, 0, none⟩ = some (.int .i64 fr) ∧ W.cell? ⟨g, 1, none⟩ = some (.int .i64 sp) ∧ W.cell? ⟨g, 2, none⟩ = some (.slice A1 m c1) ∧ W.cell? ⟨g, 3, none⟩ = some (.slice A2 m c2) := ⟨h.bk.cell 0, h.bk.cell 1, h.bk.cell 2, h.bk.cell 3⟩
/-- Its points. -/
theorem BVar.points {es : Nat → Addr} {B : Nat} {W : World} {base g : Nat} {fr sp : Int} {A1 A2 : Option Addr} {c1 c2 m : Nat} {L : List Rw} (h : BVar W base g fr sp A1 c1 A2 c2 m L) (hW : BlkW es B W) (s : Bs) (lo hi : Int) :
    Calls Tryz.prog 13 #[.agg #[.int .i64 fr, .int .i64 sp, .slice A1 m c1, .slice A2 m c2], .string (B8 s), .int .i64 lo, .int .i64 hi] W fun e w' => ∃ A c, e = .returned (.tuple #[.slice A (betL lo hi (ptsOf L s)).length c, .nilIface]) ∧
      Rd w' w'.heap.size 2 A (betL lo hi (ptsOf L s)).length (ptsC (betL lo hi (ptsOf L s))) ∧ (betL lo hi (ptsOf L s)).length ≤ c ∧ (betL lo hi (ptsOf L s)).length ≤ 120 ∧ Below W.heap.size W w' := by
  have hp := bpts_any fr sp A1 A2 m c1 m c2 (nmsOf (encR L)) (chsOf (encR L)) s lo hi W hW.s hW.t hW.tb hW.b0 h.arg.a h.arg.k h.ok.names h.ok.chunks
  rw [h.ok.rd] at hp
  refine hp.mono ?_
  rintro e w' ⟨v, u, rfl, hev, _, hown, hb⟩
  obtain rfl := hev.zero rfl
  obtain ⟨A, c, rfl, hc, _, hr⟩ := own_form (hown rfl)
  refine ⟨A, c, rfl, hr, hc, Nat.le_trans (betL_le _ _ _) ?_, hb⟩
  unfold ptsOf
  split
  · rename_i r hr
    exact (h.ok.row (List.mem_of_find?_eq_some hr)).1
  · exact Nat.zero_le _
theorem take_mem_len {rows : List RowV} {ls : List RowV} (h : ls.map rowP2 = rows.map rowP2) : ls.length = rows.length := by
  have := congrArg List.length h
  rwa [List.length_map, List.length_map] at this
set_option maxHeartbeats 8000000 in
set_option maxRecDepth 100000 in
/-- One side: own rows, and the block that Make gives of them. -/
theorem side_rows {rows : List RowV} {n : Nat} (hn : ∀ r ∈ rows, r.nm.length ≤ 200 ∧ r.pts.length ≤ 250) (hv : ∀ r ∈ rows, ∀ p ∈ r.pts, 0 ≤ p.2 ∧ p.2 < 18446744073709551616) : (∀ r ∈ rows.map rowP2, r.1.length ≤ 200) ∧ ∀ r ∈ rows.map rowP2, ∀ p ∈ r.2, 0 ≤ p.2 ∧ p.2 < 18446744073709551616 := by
  refine ⟨fun r hr => ?_, fun r hr => ?_⟩
  · obtain ⟨q, hq, rfl⟩ := List.mem_map.1 hr
    exact (hn q hq).1
  · obtain ⟨q, hq, rfl⟩ := List.mem_map.1 hr
    exact hv q hq
theorem make_of {es : Nat → Addr} {B : Nat} {w : World} {base : Nat} (fr sp : Int) {A : Option Addr} {c : Nat} {ls : List RowV} {L : List Rw} (hW : BlkW es B w) (hown : w.ownsRow base 37 2 (.slice A ls.length c) ls.length (rowC ls)) (hro : RowsOwn base w ls) (hm : ls.map rowP2 = L) (hl : ls.length ≤ 100000)
    (hin : (∀ r ∈ L, r.1.length ≤ 200) ∧ ∀ r ∈ L, ∀ p ∈ r.2, 0 ≤ p.2 ∧ p.2 < 18446744073709551616) :
    Calls Tryz.prog 11 #[.int .i64 fr, .int .i64 sp, .slice A ls.length c] w fun e w' => MkPost es (makeR fr sp L) fr sp w e w' := by
  subst hm
  exact make_any fr sp A ls.length c ls w hW.s hW.t hW.b0 (RowsRd.of_own hown hro) hl (fun r hr => by
    have hr' : rowP2 r ∈ ls.map rowP2 := List.mem_map.2 ⟨r, hr, rfl⟩
    exact ⟨Nat.le_trans (hin.1 _ hr') (by decide), hin.2 _ hr'⟩)
set_option maxHeartbeats 8000000 in
set_option maxRecDepth 100000 in
theorem blockJoins_law {es : Nat → Addr} {B : Nat} (A : Option Addr) (n c : Nat) (rs : List RowV) (A' : Option Addr) (n' c' : Nat) (rt : List RowV) (fr a b lo hi : Int) (w : World) (hS : Sents es B w) (hW : BlkW es B w)
    (hA : RowsRd w w.heap.size A n rs) (hn : n ≤ 140737488351232) (hp : ∀ r ∈ rs, r.pts.length ≤ 140737488351232) (hv : ∀ r ∈ rs, ∀ p ∈ r.pts, 0 ≤ p.2 ∧ p.2 < 18446744073709551616)
    (hA' : RowsRd w w.heap.size A' n' rt) (hn' : n' ≤ 140737488351232) (hp' : ∀ r ∈ rt, r.pts.length ≤ 140737488351232) (hv' : ∀ r ∈ rt, ∀ p ∈ r.pts, 0 ≤ p.2 ∧ p.2 < 18446744073709551616) :
    Calls Tryz.prog 5 #[.slice A n c, .slice A' n' c', .int .i64 fr, .int .i64 a, .int .i64 b, .int .i64 lo, .int .i64 hi] w fun e w' => e = .returned (.bool true) ∧ Below w.heap.size w w' := by
  have HW := Lib.hid (fun W (hb : Below w.heap.size w W) => hW.below hb hW.b0)
  have HS := Lib.hid (fun W (hb : Below w.heap.size w W) => hS.below hb hW.b0)
  have HA := Lib.hid (fun W (hb : Below w.heap.size w W) => (hA.below hb (Nat.le_refl _)).more hb.size)
  have HA' := Lib.hid (fun W (hb : Below w.heap.size w W) => (hA'.below hb (Nat.le_refl _)).more hb.size)
  have Hbl := Lib.hid (blocked_any w hW)
  have Hv := Lib.hid hv; have Hv' := Lib.hid hv'; have Hp := Lib.hid hp; have Hp' := Lib.hid hp'
  clear hW hS hA hA' hv hv' hp hp'
  go_enter Tryz.func5, Tryz.ntmps5
  go_wp2_with fail
  refine Hbl.out.mono ?_
  rintro e w1 ⟨rfl, hb⟩
  have HB1 := Lib.hid hb
  clear hb
  go_wp2_with fail
  refine (long_any A n c rs _ (HA.out _ HB1.out) hn Hp.out).mono ?_
  rintro e w2 ⟨bb, rfl, hlong, hb⟩
  have HB2 := Lib.hid (Below.call HB1.out hb HB1.out.size)
  clear hb
  cases bb
  case true =>
    clear hlong
    go_wp2
    go_ret
    exact ⟨rfl, HB2.out⟩
  obtain ⟨hn70, hrow⟩ := hlong rfl
  have Hrow := Lib.hid hrow
  clear hlong hrow
  go_wp2_with fail
  refine (long_any A' n' c' rt _ (HA'.out _ HB2.out) hn' Hp'.out).mono ?_
  rintro e w3 ⟨bb, rfl, hlong, hb⟩
  have HB3 := Lib.hid (Below.call HB2.out hb HB2.out.size)
  clear hb
  cases bb
  case true =>
    clear hlong
    go_wp2
    go_ret
    exact ⟨rfl, HB3.out⟩
  obtain ⟨hn70', hrow⟩ := hlong rfl
  have Hrow' := Lib.hid hrow
  clear hlong hrow Hp Hp'
  by_cases hf1 : fr < -1073741824
  · go_wp2
    go_ret
    exact ⟨rfl, HB3.out⟩
  by_cases hf2 : 1073741824 < fr
  · go_wp2
    go_ret
    exact ⟨rfl, HB3.out⟩
  by_cases ha1 : a < 1
  · go_wp2
    go_ret
    exact ⟨rfl, HB3.out⟩
  by_cases ha2 : 1000 < a
  · go_wp2
    go_ret
    exact ⟨rfl, HB3.out⟩
  by_cases hb1 : b < 1
  · go_wp2
    go_ret
    exact ⟨rfl, HB3.out⟩
  by_cases hb2 : 1000 < b
  · go_wp2
    go_ret
    exact ⟨rfl, HB3.out⟩
  -- the first block
  go_wp2_with fail
  refine (ownRows_any A n c rs _ (HA.out _ HB3.out) hn70 (fun r hr => (Hrow.out r hr).2)).mono ?_
  rintro e w4 ⟨u, ls, rfl, hown, hro, hmap, hb⟩
  obtain ⟨Au, cu, rfl, _, _, _⟩ := own_form hown
  have HB4 := Lib.hid (Below.call HB3.out hb HB3.out.size)
  have hl1 : ls.length ≤ 70 := by rw [take_mem_len hmap, (HA.out _ HB1.out).len]; exact hn70
  have Hin := Lib.hid (side_rows (n := n) Hrow.out Hv.out)
  obtain ⟨S0, hS0⟩ : ∃ S0, S0 = rs.map rowP2 := ⟨_, rfl⟩
  rw [← hS0] at hmap Hin
  have Hmk := Lib.hid (make_of fr a (HW.out _ HB4.out) hown hro hmap (by omega) Hin.out)
  clear hown hro hmap hb hS0
  generalize ls.length = q1 at Hmk ⊢
  go_wp2_with fail
  refine Hmk.out.mono ?_
  rintro e w5 ⟨v1, f1, s1, u1, u2, rfl, hev, hbad, hgood, hpr, hb⟩
  obtain ⟨X1, x1, rfl, _, _, _⟩ := own_form hpr.l
  obtain ⟨X2, x2, rfl, _, _, _⟩ := own_form hpr.r
  have HB5 := Lib.hid (Below.call HB4.out hb HB4.out.size)
  obtain ⟨R1, hR1⟩ : ∃ R1, R1 = makeR fr a S0 := ⟨_, rfl⟩
  rw [← hR1] at hev hbad hgood hpr
  simp only [← hR1]
  have HR1 := Lib.hid hR1
  have HBa := Lib.hid (Below.alloc HB5.out HB5.out.size (.cells #[.int .i64 f1, .int .i64 s1, .slice X1 R1.2.length x1, .slice X2 R1.2.length x2] 27))
  have HKa := Lib.hid (Blk.new w5 27 #[.int .i64 f1, .int .i64 s1, .slice X1 R1.2.length x1, .slice X2 R1.2.length x2])
  have HPa := Lib.hid (hpr.fr ((Fr.refl _ w5).alloc (.cells #[.int .i64 f1, .int .i64 s1, .slice X1 R1.2.length x1, .slice X2 R1.2.length x2] 27)))
  have HG1 := Lib.hid (And.intro hbad hgood)
  have HE1 := Lib.hid (And.intro (fun h => hev.zero h) (fun h => hev.pos h))
  have hw5 : IntKind.i64.wrap (fr + a) = fr + a := by rw [IntKind.wrap_i64]; omega
  clear hev hbad hgood hpr hb hR1 Hmk
  go_upto_region 7 with fail
  obtain ⟨g1, hg1⟩ : ∃ g1, g1 = w5.heap.size := ⟨_, rfl⟩
  rw [← hg1] at HKa ⊢
  generalize w5.alloc (.cells #[.int .i64 f1, .int .i64 s1, .slice X1 R1.2.length x1, .slice X2 R1.2.length x2] 27) = wa at HBa HKa HPa ⊢
  clear hg1
  go_wp2_with fail
  refine (ownRows_any A' n' c' rt _ (HA'.out _ HBa.out) hn70' (fun r hr => (Hrow'.out r hr).2)).mono ?_
  rintro e w6 ⟨u, lt, rfl, hown, hro, hmap, hb⟩
  obtain ⟨Av, cv, rfl, _, _, _⟩ := own_form hown
  have HB6 := Lib.hid (Below.call HBa.out hb HBa.out.size)
  have hl2 : lt.length ≤ 70 := by rw [take_mem_len hmap, (HA'.out _ HB1.out).len]; exact hn70'
  have Hin' := Lib.hid (side_rows (n := n') Hrow'.out Hv'.out)
  obtain ⟨T0, hT0⟩ : ∃ T0, T0 = rt.map rowP2 := ⟨_, rfl⟩
  rw [← hT0] at hmap Hin'
  have Hmk := Lib.hid (make_of (fr + a) b (HW.out _ HB6.out) hown hro hmap (by omega) Hin'.out)
  have HK6 := Lib.hid (HKa.out.below hb HKa.out.lt)
  have HP6 := Lib.hid (HPa.out.fr (Fr.ofBel hb))
  clear hown hro hmap hb hT0
  generalize lt.length = q2 at Hmk ⊢
  go_wp2_with fail
  refine Hmk.out.mono ?_
  rintro e w7 ⟨v2, f2, s2, u1, u2, rfl, hev, hbad, hgood, hpr, hb⟩
  obtain ⟨Y1, y1, rfl, _, _, _⟩ := own_form hpr.l
  obtain ⟨Y2, y2, rfl, _, _, _⟩ := own_form hpr.r
  have HB7 := Lib.hid (Below.call HB6.out hb HB6.out.size)
  have HK7 := Lib.hid (HK6.out.below hb HK6.out.lt)
  have HP7 := Lib.hid (HP6.out.fr (Fr.ofBel hb))
  obtain ⟨R2, hR2⟩ : ∃ R2, R2 = makeR (fr + a) b T0 := ⟨_, rfl⟩
  rw [← hR2] at hev hbad hgood hpr
  simp only [← hR2]
  have HR2 := Lib.hid hR2
  have HBb := Lib.hid (Below.alloc HB7.out HB7.out.size (.cells #[.int .i64 f2, .int .i64 s2, .slice Y1 R2.2.length y1, .slice Y2 R2.2.length y2] 27))
  have HKb := Lib.hid (Blk.new w7 27 #[.int .i64 f2, .int .i64 s2, .slice Y1 R2.2.length y1, .slice Y2 R2.2.length y2])
  have HPb := Lib.hid (hpr.fr ((Fr.refl _ w7).alloc (.cells #[.int .i64 f2, .int .i64 s2, .slice Y1 R2.2.length y1, .slice Y2 R2.2.length y2] 27)))
  have HK8 := Lib.hid (HK7.out.alloc (.cells #[.int .i64 f2, .int .i64 s2, .slice Y1 R2.2.length y1, .slice Y2 R2.2.length y2] 27))
  have HP8 := Lib.hid (HP7.out.fr ((Fr.refl _ w7).alloc (.cells #[.int .i64 f2, .int .i64 s2, .slice Y1 R2.2.length y1, .slice Y2 R2.2.length y2] 27)))
  have HG2 := Lib.hid (And.intro hbad hgood)
  have HE2 := Lib.hid (And.intro (fun h => hev.zero h) (fun h => hev.pos h))
  clear hev hbad hgood hpr hb hR2 Hmk
  go_upto_region 8 with fail
  obtain ⟨g2, hg2⟩ : ∃ g2, g2 = w7.heap.size := ⟨_, rfl⟩
  rw [← hg2] at HKb ⊢
  generalize w7.alloc (.cells #[.int .i64 f2, .int .i64 s2, .slice Y1 R2.2.length y1, .slice Y2 R2.2.length y2] 27) = wb at HBb HKb HPb HK8 HP8 ⊢
  clear hg2
  by_cases h1 : R1.1.1 = 0
  case neg =>
    obtain ⟨t, p, rfl⟩ := HE1.out.2 h1
    clear h1
    go_wp2
    go_ret
    exact ⟨rfl, HBb.out⟩
  obtain rfl := HE1.out.1 h1
  by_cases h2 : R2.1.1 = 0
  case neg =>
    obtain ⟨t, p, rfl⟩ := HE2.out.2 h2
    clear h1 h2
    go_wp2
    go_ret
    exact ⟨rfl, HBb.out⟩
  obtain rfl := HE2.out.1 h2
  obtain ⟨hf1', hs1⟩ := HG1.out.2 h1
  obtain ⟨hf2', hs2⟩ := HG2.out.2 h2
  subst hf1'
  subst hs1
  subst hf2'
  subst hs2
  rw [HR1.out] at h1
  rw [HR2.out] at h2
  obtain ⟨hx, hxe⟩ := Back.of h1 Hin.out.1 Hin.out.2
  obtain ⟨hy, hye⟩ := Back.of h2 Hin'.out.1 Hin'.out.2
  have e1 := HR1.out.trans hxe
  have e2 := HR2.out.trans hye
  subst e1
  subst e2
  dsimp only at HK8 HP8 HKb HPb ⊢
  generalize keepR S0 = X at hx HK8 HP8 ⊢
  generalize keepR T0 = Y at hy HKb HPb ⊢
  obtain ⟨m1, hm1⟩ : ∃ m1, m1 = (encR X).length := ⟨_, rfl⟩
  obtain ⟨m2, hm2⟩ : ∃ m2, m2 = (encR Y).length := ⟨_, rfl⟩
  rw [← hm1] at HK8 HP8 ⊢
  rw [← hm2] at HKb HPb ⊢
  have HV1 := Lib.hid (show BVar wb w4.heap.size g1 f1 s1 X1 x1 X2 x2 m1 X from ⟨HK8.out, HP8.out, hx⟩)
  have HV2 := Lib.hid (show BVar wb w6.heap.size g2 (f1 + s1) s2 Y1 y1 Y2 y2 m2 Y from ⟨HKb.out, HPb.out, hy⟩)
  have Hjn := Lib.hid (show Calls Tryz.prog 33 #[.agg #[.int .i64 f1, .int .i64 s1, .slice X1 m1 x1, .slice X2 m1 x2], .agg #[.int .i64 (f1 + s1), .int .i64 s2, .slice Y1 m2 y1, .slice Y2 m2 y2]] wb fun e w' => MkPost es (joinR (BArg.mk f1 s1 X1 X2 m1 x1 m1 x2 (nmsOf (encR X)) (chsOf (encR X))) (BArg.mk (f1 + s1) s2 Y1 Y2 m2 y1 m2 y2 (nmsOf (encR Y)) (chsOf (encR Y)))) f1 (s1 + s2) wb e w' from
    join_any _ _ wb (HW.out _ HBb.out) HV1.out.arg HV2.out.arg)
  have Hjr := Lib.hid (show (joinR (BArg.mk f1 s1 X1 X2 m1 x1 m1 x2 (nmsOf (encR X)) (chsOf (encR X))) (BArg.mk (f1 + s1) s2 Y1 Y2 m2 y1 m2 y2 (nmsOf (encR Y)) (chsOf (encR Y))) = ((2, -1), [])) ∨
      ((makeR f1 (s1 + s2) (bothR (X ++ Y))).1.1 = 0 ∧ joinR (BArg.mk f1 s1 X1 X2 m1 x1 m1 x2 (nmsOf (encR X)) (chsOf (encR X))) (BArg.mk (f1 + s1) s2 Y1 Y2 m2 y1 m2 y2 (nmsOf (encR Y)) (chsOf (encR Y))) = makeR f1 (s1 + s2) (bothR (X ++ Y))) from by
    have r1 : (rowsR f1 s1 (nmsOf (encR X)) (chsOf (encR X))).1.1 = 0 := by rw [hx.rd]
    have r2 : (rowsR (f1 + s1) s2 (nmsOf (encR Y)) (chsOf (encR Y))).1.1 = 0 := by rw [hy.rd]
    have r3 : (rowsR f1 s1 (nmsOf (encR X)) (chsOf (encR X))).2 ++ (rowsR (f1 + s1) s2 (nmsOf (encR Y)) (chsOf (encR Y))).2 = X ++ Y := by rw [hx.rd, hy.rd]
    by_cases hm : (makeR f1 (s1 + s2) (bothR (X ++ Y))).1.1 = 0
    · refine .inr ⟨hm, ?_⟩
      have h6 := joinR_6 (x := BArg.mk f1 s1 X1 X2 m1 x1 m1 x2 (nmsOf (encR X)) (chsOf (encR X))) (y := BArg.mk (f1 + s1) s2 Y1 Y2 m2 y1 m2 y2 (nmsOf (encR Y)) (chsOf (encR Y))) r1 r2 rfl (by show ¬ 100000 < s1 + s2; omega) (by show (makeR f1 (s1 + s2) (bothR ((rowsR f1 s1 (nmsOf (encR X)) (chsOf (encR X))).2 ++ (rowsR (f1 + s1) s2 (nmsOf (encR Y)) (chsOf (encR Y))).2))).1.1 = 0; rw [r3]; exact hm)
      rw [h6]
      show makeR f1 (s1 + s2) (bothR ((rowsR f1 s1 (nmsOf (encR X)) (chsOf (encR X))).2 ++ (rowsR (f1 + s1) s2 (nmsOf (encR Y)) (chsOf (encR Y))).2)) = _
      rw [r3]
    · exact .inl (joinR_5 (x := BArg.mk f1 s1 X1 X2 m1 x1 m1 x2 (nmsOf (encR X)) (chsOf (encR X))) (y := BArg.mk (f1 + s1) s2 Y1 Y2 m2 y1 m2 y2 (nmsOf (encR Y)) (chsOf (encR Y))) r1 r2 rfl (by show ¬ 100000 < s1 + s2; omega) (by show (makeR f1 (s1 + s2) (bothR ((rowsR f1 s1 (nmsOf (encR X)) (chsOf (encR X))).2 ++ (rowsR (f1 + s1) s2 (nmsOf (encR Y)) (chsOf (encR Y))).2))).1.1 ≠ 0; rw [r3]; exact hm)))
  have Hxy := Lib.hid (And.intro hx hy)
  obtain ⟨a0, a1, a2, a3⟩ := HV1.out.cells
  obtain ⟨b0, b1, b2, b3⟩ := HV2.out.cells
  generalize joinR (BArg.mk f1 s1 X1 X2 m1 x1 m1 x2 (nmsOf (encR X)) (chsOf (encR X))) (BArg.mk (f1 + s1) s2 Y1 Y2 m2 y1 m2 y2 (nmsOf (encR Y)) (chsOf (encR Y))) = J at Hjn Hjr
  clear hx hxe hy hye h1 h2 HK8 HP8 HKb HPb hm1 hm2 HG1 HG2 HE1 HE2 HR1 HR2 HKa HPa HK6 HP6 HK7 HP7 Hin Hin' Hv Hv' Hrow Hrow'
  go_wp2_with fail
  refine Hjn.out.mono ?_
  rintro e w8 ⟨v3, f3, s3, u1, u2, rfl, hev, hbad, hgood, hpr, hb⟩
  obtain ⟨Z1, z1, rfl, _, _, _⟩ := own_form hpr.l
  obtain ⟨Z2, z2, rfl, _, _, _⟩ := own_form hpr.r
  have HB8 := Lib.hid (Below.call HBb.out hb HBb.out.size)
  have HV18 := Lib.hid (HV1.out.below hb)
  have HV28 := Lib.hid (HV2.out.below hb)
  have HE3 := Lib.hid hev
  have HP3 := Lib.hid hpr
  have HBc := Lib.hid (Below.alloc HB8.out HB8.out.size (.cells #[.int .i64 f3, .int .i64 s3, .slice Z1 J.2.length z1, .slice Z2 J.2.length z2] 27))
  have HKc := Lib.hid (Blk.new w8 27 #[.int .i64 f3, .int .i64 s3, .slice Z1 J.2.length z1, .slice Z2 J.2.length z2])
  have HPc := Lib.hid (hpr.fr ((Fr.refl _ w8).alloc (.cells #[.int .i64 f3, .int .i64 s3, .slice Z1 J.2.length z1, .slice Z2 J.2.length z2] 27)))
  have hbc : Below w8.heap.size w8 (w8.alloc (.cells #[.int .i64 f3, .int .i64 s3, .slice Z1 J.2.length z1, .slice Z2 J.2.length z2] 27)) := Below.alloc (Below.refl _ _) (Nat.le_refl _) _
  have HV1c := Lib.hid (HV18.out.below hbc)
  have HV2c := Lib.hid (HV28.out.below hbc)
  have HE3c := Lib.hid (hev.below hbc (Nat.le_refl _))
  have Hgb := Lib.hid (And.intro hbad hgood)
  clear hev hbad hgood hpr hb hbc a0 a1 a2 a3 b0 b1 b2 b3 Hjn
  go_upto_region 11 with fail
  obtain ⟨g3, hg3⟩ : ∃ g3, g3 = w8.heap.size := ⟨_, rfl⟩
  rw [← hg3] at HKc ⊢
  generalize w8.alloc (.cells #[.int .i64 f3, .int .i64 s3, .slice Z1 J.2.length z1, .slice Z2 J.2.length z2] 27) = wc at HBc HKc HPc HV1c HV2c HE3c ⊢
  clear hg3
  rcases Hjr.out with hj | ⟨hj0, hj⟩
  · subst hj
    obtain ⟨t, p, rfl⟩ := HE3.out.pos (by decide)
    have Hcd := Lib.hid (coded2_any _ _ _ 2 wc (HS.out _ HBc.out) (HW.out _ HBc.out).b0 (HE3c.out.is (HS.out _ HBc.out)))
    dsimp only at Hcd
    go_wp2_with fail
    refine Hcd.out.mono ?_
    rintro e w9 ⟨rfl, hb⟩
    have HB9 := Lib.hid (Below.call HBc.out hb HBc.out.size)
    clear hb
    go_wp2
    go_ret
    exact ⟨by simp, HB9.out⟩
  obtain ⟨hz, hze⟩ := Back.of hj0 (bothR_names fun r hr => by
    rcases List.mem_append.1 hr with hr | hr
    · exact Hxy.out.1.nm r hr
    · exact Hxy.out.2.nm r hr) (bothR_vals fun r hr => by
    rcases List.mem_append.1 hr with hr | hr
    · exact Hxy.out.1.vl r hr
    · exact Hxy.out.2.vl r hr)
  obtain ⟨hf3, hs3⟩ := Hgb.out.2 (by rw [hj]; exact hj0)
  have hf3' := hf3.symm
  subst hf3'
  subst hs3
  obtain rfl := HE3.out.zero (by rw [hj]; exact hj0)
  have hj' := hj.trans hze
  subst hj'
  have Hpt := Lib.hid (fun s => join_pts Hxy.out.1.ok Hxy.out.2.ok s lo hi)
  dsimp only at HKc HPc ⊢
  generalize keepR (bothR (X ++ Y)) = Z at hz HKc HPc Hpt ⊢
  obtain ⟨m3, hm3⟩ : ∃ m3, m3 = (encR Z).length := ⟨_, rfl⟩
  rw [← hm3] at HKc HPc ⊢
  have HV3c := Lib.hid (show BVar wc wb.heap.size g3 f1 (s1 + s2) Z1 z1 Z2 z2 m3 Z from ⟨HKc.out, HPc.out, hz⟩)
  clear hz hze hf3 hj hj0 hm3 HKc HPc Hgb HE3 HE3c Hjr HP3
  go_wp2
  go_loopw [22] (fun iv wr => ∃ k : Nat, k ≤ n + n' ∧ iv = .int .i64 k ∧ Below wc.heap.size wc wr) (fun iv _ => (n + n') - (intOf iv).toNat)
  case atStart => exact ⟨0, Nat.zero_le _, rfl, Below.refl _ _⟩
  case round =>
    obtain ⟨k, hk, rfl, hb⟩ := hrel
    have HBr := Lib.hid (Below.call HBc.out hb HBc.out.size)
    have HV1r := Lib.hid (HV1c.out.below hb); have HV2r := Lib.hid (HV2c.out.below hb); have HV3r := Lib.hid (HV3c.out.below hb)
    have Hb := Lib.hid hb
    clear hb
    by_cases hkm : k < n + n'
    · have hkm' : (k : Int) < (n : Int) + (n' : Int) := by omega
      rcases Nat.lt_or_ge k n with hkn | hkn
      case' inl =>
        have hkn' : (k : Int) < n := by omega
        obtain ⟨b0, o0, r, hA0, had0, hr, x0, _⟩ := (HA.out _ HBr.out).1.at2 hkn
        subst hA0
      case' inr =>
        have hkn' : ¬ (k : Int) < n := by omega
        obtain ⟨j, hj⟩ : ∃ j, j = k - n := ⟨_, rfl⟩
        have hjn : j < n' := by omega
        have hjn' : (j : Int) < n' := by omega
        have hsub : IntKind.i64.wrap ((k : Int) - (n : Int)) = (j : Int) := by rw [IntKind.wrap_i64]; omega
        obtain ⟨b0, o0, r, hA0, had0, hr, x0, _⟩ := (HA'.out _ HBr.out).1.at2 hjn
        subst hA0
        clear hj
      all_goals
        have Hpx := Lib.hid (fun W (hb : Below wr.heap.size wr W) => (HV1r.out.below hb).points (HW.out _ (Below.call HBr.out hb HBr.out.size)) r.nm lo hi)
        have Hpy := Lib.hid (fun W (hb : Below wr.heap.size wr W) => (HV2r.out.below hb).points (HW.out _ (Below.call HBr.out hb HBr.out.size)) r.nm lo hi)
        have Hpz := Lib.hid (fun W (hb : Below wr.heap.size wr W) => (HV3r.out.below hb).points (HW.out _ (Below.call HBr.out hb HBr.out.size)) r.nm lo hi)
        rw [Hpt.out r.nm] at Hpz
        generalize betL lo hi (ptsOf X r.nm) = P1 at Hpx Hpz
        generalize betL lo hi (ptsOf Y r.nm) = P2 at Hpy Hpz
        generalize B8 r.nm = sn at x0 Hpx Hpy Hpz
        obtain ⟨a0, a1, a2, a3⟩ := HV1r.out.cells
        clear hr
        go_wp2_with fail
        refine (Hpx.out _ (Below.refl _ _)).mono ?_
        rintro e w10 ⟨A10, c10, rfl, hr10, hc10, hl10, hb⟩
        have HB10 := Lib.hid hb
        have HR10 := Lib.hid hr10
        obtain ⟨a0, a1, a2, a3⟩ := (HV2r.out.below hb).cells
        clear hb hr10
        go_wp2_with fail
        refine (Hpy.out _ HB10.out).mono ?_
        rintro e w11 ⟨A11, c11, rfl, hr11, hc11, hl11, hb⟩
        have HB11 := Lib.hid (Below.call HB10.out hb HB10.out.size)
        have HR11 := Lib.hid hr11
        have HR10' := Lib.hid ((HR10.out.below hb).more hb.size)
        clear a0 a1 a2 a3
        obtain ⟨a0, a1, a2, a3⟩ := (HV3r.out.below HB11.out).cells
        clear hb hr11
        go_wp2_with fail
        refine (Hpz.out _ HB11.out).mono ?_
        rintro e w12 ⟨A12, c12, rfl, hr12, hc12, hl12, hb⟩
        have HB12 := Lib.hid (Below.call HB11.out hb HB11.out.size)
        have HR12 := Lib.hid hr12
        have HR10c := Lib.hid ((HR10'.out.below hb).more hb.size)
        have HR11c := Lib.hid ((HR11.out.below hb).more hb.size)
        clear hb hr12 a0 a1 a2 a3 Hpx Hpy Hpz x0
        go_wp2_with fail
        refine (merge_any A10 P1.length c10 A11 P2.length c11 P1 P2 w12 HR10c.out HR11c.out (by omega) (by omega) hc10 hc11).mono ?_
        rintro e w13 ⟨v13, rfl, hown, hb⟩
        obtain ⟨A13, c13, rfl, _, _, hr13⟩ := own_form hown
        have HB13 := Lib.hid (Below.call HB12.out hb HB12.out.size)
        have HR13 := Lib.hid hr13
        have HR12c := Lib.hid ((HR12.out.below hb).more hb.size)
        clear hb hown hr13
        go_wp2_with fail
        refine (samePoints_eq A12 (mergeP P1 P2).length c12 A13 c13 (mergeP P1 P2) w13 HR12c.out HR13.out (by omega)).mono ?_
        rintro e w14 ⟨rfl, hb⟩
        have HB14 := Lib.hid (Below.call HB13.out hb HB13.out.size)
        clear hb
        go_wp2
        go_roundw
        case rel => exact ⟨k + 1, by omega, by go_num, Below.call Hb.out HB14.out Hb.out.size⟩
        case measure => simp [intOf]; omega
    · obtain rfl : k = n + n' := by omega
      have hkm' : ¬ (((n + n' : Nat)) : Int) < (n : Int) + (n' : Int) := by omega
      obtain ⟨a0, a1, a2, a3⟩ := HV3r.out.cells
      go_wp2
      go_ret
      exact ⟨by simp, HBr.out⟩
end Go.Proofs.YtfkklcmepcocoaaGreatDoor
