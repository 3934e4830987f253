/- StoreBack by its contract: it returns true. -/
import Derived.Test.YthgefobcohlegaaGreatDoorMkagX
import Derived.Test.YthgefobcohlegaaGreatDoorMkahX
import Derived.Test.YthgefobcohlegaaGreatDoorMkabX
import Derived.Deep.RegionHeld3
namespace Go.Proofs.YthgefobcohlegaaGreatDoor
open Go.RowKit Go.Maps
set_option linter.unusedVariables false

theorem sb_new {l : List En} {k : Nat} {sp kp : Int} (h : IsRead [] l k) : newS l k ⟨[], false, -1⟩ sp kp = ⟨[], ⟨[], false, -1⟩, sp, kp, []⟩ := by
  rw [read_nil h]
  unfold newS hAll
  simp
/-- A store's disk. -/
theorem StI.dk {B : Nat} {w : World} {q dq : Nat} {G : Nat → Prop} {S : StM} (h : StI B w q dq G S) :
    ∃ dv, DiskAt w dq dv S.d ∧ DkLo B dq dv ∧ (∀ k, DkS dq dv k → G k) ∧ ∀ w' dv' d', DStep w w' dq dv dv' d' → StPost B q dq G w w' ⟨S.A, d', S.sp, S.kp, S.B⟩ := by
  obtain ⟨hb, mb, D, L, dv, bv, Bl, h1, rfl, h3⟩ := h
  refine ⟨dv, h1.dk, StAt.dlo h3, fun k hk => .inr (.inr (.inl hk)), fun w' dv' d' hd => ?_⟩
  obtain ⟨h4, h5⟩ := h1.diskStep hd
  have hlo : ∀ k, StS q hb mb L dq dv' bv Bl k → B ≤ k := fun k hk => (h5.mv k hk).elim (h3 k) fun hk2 => by
    have := h3 q (.inl rfl)
    have := h1.hd.lt
    omega
  exact ⟨_, h4.toI hlo, h5⟩
theorem sAdd_kp (S : StM) (s : Bs) (p : Int × Int) : (sAdd S s p).kp = S.kp := by
  unfold sAdd
  split <;> rfl
theorem BackInv.any {S : StM} {done : List En} (h : BackInv S done) (hk : KInv False S []) {s : Bs} {p : Int × Int} (hs : s.length ≤ 200) (hp : 0 ≤ p.2 ∧ p.2 < 18446744073709551616) :
    ((sAddF S s p).1 = 0 → BackInv (sAdd S s p) (done ++ [enOf s p]) ∧ KInv False (sAdd S s p) []) ∧ ((sAddF S s p).1 ≠ 0 → BackInv (sAdd S s p) done ∧ KInv False (sAdd S s p) []) := by
  have h1 := h.step s p hp
  have h2 := hk.try_ (fun x hx => by cases hx) hs hp
  exact ⟨fun h0 => ⟨h1.1 h0, (h2.1 h0).1.weak⟩, fun h0 => ⟨h1.2 h0, (h2.2 h0).weak⟩⟩
theorem BackInv.ok {S : StM} {done : List En} (h : BackInv S done) (hk : KInv False S []) (hl : done.length ≤ 60) (hp : S.kp = 5) : SOk S :=
  hk.sok (by rw [h.cnt]; omega) (by rw [h.bl]; decide) ⟨by omega, by omega⟩ h.cut.len
/-- Rows as those that a total takes. -/
def dOf (r : RowV) : RowD := match r.v with
  | .slice A n c => ⟨B8 r.nm, A, n, c, r.pts⟩
  | _ => ⟨B8 r.nm, none, 0, 0, r.pts⟩
theorem rows_in {w : World} {B n : Nat} {A : Option Addr} {l : List RowV} (h : RowsRd w B A n l) : RowsIn w B A n (l.map dOf) ∧ allOf (l.map dOf) = l.flatMap (·.pts) ∧ ∀ r ∈ l.map dOf, ∃ x ∈ l, r.n = x.pts.length := by
  have hv : ∀ r ∈ l, ∃ A' c', dOf r = ⟨B8 r.nm, A', r.pts.length, c', r.pts⟩ ∧ r.v = .slice A' r.pts.length c' ∧ Rd w B 2 A' r.pts.length (ptsC r.pts) := fun r hr => by
    obtain ⟨A', c', e, hr2⟩ := h.2 r hr
    refine ⟨A', c', ?_, e, hr2⟩
    unfold dOf
    rw [e]
  refine ⟨⟨?_, fun r hr => ?_⟩, ?_, fun r hr => ?_⟩
  · have : ((l.map dOf).flatMap fun r => [Value.string r.s, .slice r.A r.n r.c]) = rowC l := by
      unfold rowC
      rw [List.flatMap_map, List.flatMap_def, List.flatMap_def]
      congr 1
      refine List.map_congr_left fun r hr => ?_
      obtain ⟨A', c', e, e2, _⟩ := hv r hr
      rw [e, e2]
    rw [this]
    exact h.1
  · obtain ⟨x, hx, rfl⟩ := List.mem_map.1 hr
    obtain ⟨A', c', e, e2, hr2⟩ := hv x hx
    rw [e]
    exact hr2
  · unfold allOf
    rw [List.flatMap_map, List.flatMap_def, List.flatMap_def]
    congr 1
    refine List.map_congr_left fun r hr => ?_
    obtain ⟨A', c', e, e2, _⟩ := hv r hr
    rw [e]
  · obtain ⟨x, hx, rfl⟩ := List.mem_map.1 hr
    obtain ⟨A', c', e, e2, hr2⟩ := hv x hx
    exact ⟨x, hx, by rw [e]⟩
theorem sum_count (a b c d e : Value) (w : World) : (Instr.field 45 (.agg #[a, b, c, d, e]) 0).run Tryz.prog w = .ok a w := by kernel_rfl
/-- Rows that are a selection's. -/
theorem sel_rows {S : StM} {ls : List RowV} (hB : S.B = []) (hs : hSrt S.A) (hO : ∀ x ∈ S.A, ∀ p ∈ x.2.1, 0 ≤ p.1 ∧ p.1 ≤ 1099511627776) (h60 : S.A.length ≤ 60) (he : ls.map rowP2 = selR S 0 1099511627776) :
    ls.length ≤ 60 ∧ (ls.flatMap (·.pts)).length = hCount S.A ∧ ∀ r ∈ ls, r.pts.length ≤ hCount S.A := by
  have h1 := sel_count hB hs hO
  have h2 := sel_head hB hs hO
  rw [← he, List.map_map] at h1
  have h3 : (ls.flatMap (·.pts)).length = hCount S.A := by rw [List.length_flatMap]; exact h1
  refine ⟨?_, h3, fun r hr => ?_⟩
  · have := congrArg List.length (he.trans h2)
    rw [List.length_map, List.length_map] at this
    have := List.length_filter_le (fun x : HA => decide (x.2.1 ≠ [])) S.A
    omega
  · rw [← h3]
    exact (List.sublist_flatten_of_mem (List.mem_map.2 ⟨r, hr, rfl⟩)).length_le
set_option maxRecDepth 100000 in
set_option maxHeartbeats 8000000 in
theorem storeBack_law {es : Nat → Addr} (A : Option Addr) (n c : Nat) (ps : List SActV) (cut : Int) (w : World) (hW : StW es w.heap.size w) (hA : Rd w w.heap.size 6 A n (sactC ps)) (hok : ∀ a ∈ ps, SActOk a) (hx : cut < 9223372036854775808) :
    Calls Tryz.prog 3 #[.slice A n c, .int .i64 cut] w fun e w' => e = .returned (.bool true) ∧ Below w.heap.size w w' := by
  have HW := Lib.hid hW
  have HWb := Lib.hid (fun W (hb : Below w.heap.size w W) => hW.below hb (Nat.le_refl _))
  have Hst := Lib.hid (stored_any w hW)
  have HA := Lib.hid (fun k (hk : k < n) => hA.atS hk)
  have Hok := Lib.hid hok
  clear hW hA hok
  by_cases h60 : (60 : Int) < (n : Int)
  · clear hx
    go_enter Tryz.func3, Tryz.ntmps3
    go_wp2_with fail
    refine Hst.out.mono ?_
    rintro e w1 ⟨rfl, hb⟩
    have HB1 := Lib.hid hb
    clear hb
    go_wp2
    go_ret
    exact ⟨rfl, HB1.out⟩
  by_cases h0 : cut < 0
  · clear hx
    go_enter Tryz.func3, Tryz.ntmps3
    go_wp2_with fail
    refine Hst.out.mono ?_
    rintro e w1 ⟨rfl, hb⟩
    have HB1 := Lib.hid hb
    clear hb
    go_wp2
    go_ret
    exact ⟨rfl, HB1.out⟩
  have Hn := Lib.hid (show n ≤ 60 by omega)
  have Hx := Lib.hid hx
  have Hnul := Lib.hid (fun (es : Nat → Addr) (q dq : Nat) (G : Nat → Prop) (S : StM) (W : World) (hW : StW es w.heap.size W) (hI : StI w.heap.size W q dq G S) (hO : SOk S) (hB : S.B = []) (hK : KInv False S []) =>
    sselect_any none 0 0 [] 0 1099511627776 W hW hI hO (fun b hb => by rw [hB] at hb; cases hb) hK.names Rd.nil (fun m h => by cases h))
  clear hx
  go_enter Tryz.func3, Tryz.ntmps3
  go_wp2_with fail
  refine Hst.out.mono ?_
  rintro e w1 ⟨rfl, hb⟩
  have HB1 := Lib.hid hb
  clear hb
  go_wp2_with fail
  refine (dnew_any [] (by decide) _).mono ?_
  rintro e w2 ⟨dq, dv, rfl, hD, hlo, hb⟩
  have HB2 := Lib.hid (Below.call HB1.out hb HB1.out.size)
  have Hlo := Lib.hid (show DkLo w.heap.size dq dv from fun k hk => Nat.le_trans HB1.out.size (hlo k hk))
  have Hnw := Lib.hid (snew_any 100 5 w2 (HWb.out _ HB2.out) hD Hlo.out (by decide))
  clear hD hlo hb
  go_wp2_with fail
  refine Hnw.out.mono ?_
  rintro e w3 ⟨_, hok⟩
  obtain ⟨l0, k0, q, G, rfl, hir, hI, hf, _⟩ := hok rfl
  rw [sb_new hir] at hI
  have HB3 := Lib.hid (HB2.out.trans (hf.below HB2.out.size (fun k hk hd => by have := Hlo.out k hd; omega)))
  have HI3 := Lib.hid hI
  obtain ⟨dv3, hD3, _, _, hstep⟩ := hI.dk
  have Hct := Lib.hid (dcut_ok w3 hD3 cut (by omega) Hx.out rfl)
  have Hstep := Lib.hid hstep
  clear hok hir hI hf hD3 hstep
  go_wp2_with fail
  refine Hct.out.mono ?_
  rintro e w4 ⟨rfl, hds⟩
  obtain ⟨G4, hI4, hb4, hW4⟩ := StPost.go HW.out HB3.out HI3.out (Hstep.out _ _ _ hds)
  have HI4 := Lib.hid hI4; have HB4 := Lib.hid hb4
  have Hin := Lib.hid (show BackInv ⟨[], ⟨[], false, cut⟩, 100, 5, []⟩ [] ∧ KInv False ⟨[], ⟨[], false, cut⟩, 100, 5, []⟩ [] from ⟨BackInv.start cut 100 5, KInv.start ⟨by decide, by decide⟩ _ _⟩)
  clear hds hI4 hb4 hW4
  go_wp2
  go_loopw [10, 11] (fun nv iv wr => ∃ (k : Nat) (done : List En) (S : StM) (G : Nat → Prop), k ≤ n ∧ iv = .int .i64 k ∧ nv = .int .i64 done.length ∧ done.length ≤ k ∧ StI w.heap.size wr q dq G S ∧ BackInv S done ∧ KInv False S [] ∧ S.kp = 5 ∧ Below w.heap.size w wr) (fun _ iv _ => n - (intOf iv).toNat)
  case atStart => exact ⟨0, [], _, G4, Nat.zero_le _, rfl, rfl, Nat.le_refl _, HI4.out, Hin.out.1, Hin.out.2, rfl, HB4.out⟩
  case round =>
    obtain ⟨k, done, S, G1, hk, rfl, rfl, hdn, hI, hBI, hKI, hkp, hb⟩ := hrel
    have HBr := Lib.hid hb; have HI := Lib.hid hI; have HBI := Lib.hid hBI; have HKI := Lib.hid hKI; have Hkp := Lib.hid hkp; have Hdn := Lib.hid hdn
    have HO := Lib.hid (hBI.ok hKI (by have := Hn.out; omega) hkp)
    by_cases hkn : k < n
    · have hkn' : (k : Int) < n := by omega
      obtain ⟨b, o, y, hAe, had, hy, x0, x1, x2, x3, x4, x5⟩ := HA.out k hkn
      subst hAe
      obtain ⟨hbit, _⟩ := Hok.out y (List.mem_of_getElem? hy)
      have Hsz := Lib.hid (B8_size y.nm)
      have hlen : ((B8 y.nm).size : Int) ≤ 9223372036854775807 ∨ True := .inr trivial
      obtain ⟨sn, hsn⟩ : ∃ sn, sn = B8 y.nm := ⟨_, rfl⟩
      rw [← hsn] at x1 Hsz
      have Hac := Lib.hid (fun W (hb' : Below w.heap.size w W) => show W.cell? ⟨b, o + k * 6 + 1, none⟩ = some (.string sn) ∧ W.cell? ⟨b, o + k * 6 + 2, none⟩ = some (.int .i64 y.t) ∧ W.cell? ⟨b, o + k * 6 + 4, none⟩ = some (.int .u64 y.bit) from
        ⟨(hb'.cell (p := ⟨b, o + k * 6 + 1, none⟩) had).trans x1, (hb'.cell (p := ⟨b, o + k * 6 + 2, none⟩) had).trans x2, (hb'.cell (p := ⟨b, o + k * 6 + 4, none⟩) had).trans x4⟩)
      obtain ⟨z1, z2, z4⟩ := Hac.out _ HBr.out
      clear x0 x1 x2 x3 x4 x5 hI hBI hKI hkp hdn hb hlen had hy
      by_cases h200 : (200 : Int) < (sn.size : Int)
      · clear hbit hsn z2 z4
        go_wp2
        go_ret
        exact ⟨rfl, HBr.out⟩
      · have hnl : y.nm.length ≤ 200 := by have := Hsz.out; omega
        have Had := Lib.hid (fun W (hb' : Below wr.heap.size wr W) => sadd_any (es := es) y.nm y.t y.bit W (by omega) hbit (HWb.out _ (Below.call HBr.out hb' HBr.out.size)) (HI.out.below hb') HO.out)
        have Hgo := Lib.hid (fun W W' S' (hb' : Below wr.heap.size wr W) (hp : StPost w.heap.size q dq G1 W W' S') => StPost.go HW.out (Below.call HBr.out hb' HBr.out.size) (HI.out.below hb') hp)
        have HD := Lib.hid (show Below wr.heap.size wr wr.drew from (Below.refl _ _).drew)
        have HDw := Lib.hid (Below.call HBr.out HD.out HBr.out.size)
        have Hany := Lib.hid (HBI.out.any HKI.out hnl (p := (y.t, y.bit)) hbit)
        have Hkq := Lib.hid ((sAdd_kp S y.nm (y.t, y.bit)).trans Hkp.out)
        rw [← hsn] at Had
        obtain ⟨S5, hS5⟩ : ∃ S5, S5 = sAdd S y.nm (y.t, y.bit) := ⟨_, rfl⟩
        rw [← hS5] at Hany Hkq
        have HS5 := Lib.hid hS5
        generalize ht : y.t = yt at z2 Had Hac
        generalize hu : y.bit = yu at z4 Had Hac
        have Ht := Lib.hid ht; have Hu := Lib.hid hu
        clear hbit hnl hsn hS5 ht hu
        by_cases hF : (sAddF S y.nm (y.t, y.bit)).1 = 0
        · have HF := Lib.hid hF
          clear hF
          go_wp2
          go_region_held3 (fun w' => w'.cell? ⟨b, o + k * 6 + 1, none⟩ = some (.string sn) ∧ w'.cell? ⟨b, o + k * 6 + 2, none⟩ = some (.int .i64 yt) ∧ w'.cell? ⟨b, o + k * 6 + 4, none⟩ = some (.int .u64 yu))
            (first | with_reducible exact Hac.out _ HDw.out | with_reducible exact Hac.out _ HB5.out | exact Hac.out _ HDw.out)
            (first | (go_at_call 10; (with_reducible refine (Had.out _ HD.out).mono ?_); rintro e5 w5 ⟨v5, rfl, hev5, hp5⟩; rw [← Ht.out, ← Hu.out] at hev5 hp5; obtain rfl := hev5.zero HF.out; rw [← HS5.out] at hp5; have Hp5 := Lib.hid (Hgo.out _ _ _ HD.out hp5); have HB5 := Lib.hid (Hp5.out.choose_spec.2.1); clear hev5 hp5))
          all_goals
            go_wp2
            go_roundw
            case rel =>
              obtain ⟨G5, hI5, hb5, _⟩ := Hp5.out
              refine ⟨k + 1, done ++ [enOf y.nm (y.t, y.bit)], S5, G5, by omega, by go_num, ?_, by have := Hdn.out; rw [List.length_append, List.length_singleton]; omega, hI5, (Hany.out.1 HF.out).1, (Hany.out.1 HF.out).2, Hkq.out, hb5⟩
              have := Hdn.out; have := Hn.out; rw [List.length_append, List.length_singleton, Go.IntWalk.wrap64_in _ (by omega)]; rfl
            case measure => simp [intOf]; omega
        · have HF := Lib.hid hF
          clear hF
          go_wp2
          go_region_held3 (fun w' => w'.cell? ⟨b, o + k * 6 + 1, none⟩ = some (.string sn) ∧ w'.cell? ⟨b, o + k * 6 + 2, none⟩ = some (.int .i64 yt) ∧ w'.cell? ⟨b, o + k * 6 + 4, none⟩ = some (.int .u64 yu))
            (first | with_reducible exact Hac.out _ HDw.out | with_reducible exact Hac.out _ HB5.out | exact Hac.out _ HDw.out)
            (first | (go_at_call 10; (with_reducible refine (Had.out _ HD.out).mono ?_); rintro e5 w5 ⟨v5, rfl, hev5, hp5⟩; rw [← Ht.out, ← Hu.out] at hev5 hp5; obtain ⟨t5, p5, rfl⟩ := hev5.pos HF.out; rw [← HS5.out] at hp5; have Hp5 := Lib.hid (Hgo.out _ _ _ HD.out hp5); have HB5 := Lib.hid (Hp5.out.choose_spec.2.1); clear hev5 hp5))
          all_goals
            go_wp2
            go_roundw
            case rel =>
              obtain ⟨G5, hI5, hb5, _⟩ := Hp5.out
              exact ⟨k + 1, done, S5, G5, by omega, by go_num, rfl, by have := Hdn.out; omega, hI5, (Hany.out.2 HF.out).1, (Hany.out.2 HF.out).2, Hkq.out, hb5⟩
            case measure => simp [intOf]; omega
    · obtain rfl : k = n := by omega
      have hkn' : ¬ (k : Int) < k := by omega
      have Hs1 := Lib.hid (Hnul.out _ _ _ _ _ wr (HWb.out _ hb) hI HO.out hBI.bl hKI)
      obtain ⟨dv5, hD5, hlo5, hG5, _⟩ := hI.dk
      have Hlt := Lib.hid (fun k hk => hI.lt k (hG5 k hk))
      have HD5 := Lib.hid hD5; have Hlo5 := Lib.hid hlo5
      clear hI hBI hKI hkp hdn hb hD5 hlo5 hG5
      go_wp2_with fail
      refine Hs1.out.mono ?_
      rintro e w5 ⟨A5, c5, ls, v5, rfl, hev5, _, hrow5, hb5⟩
      obtain rfl := hev5.zero (by decide)
      obtain ⟨hown5, hro5, hmap5⟩ := hrow5 (by decide)
      rw [selM_nil fun s hs => (HKI.out.names s hs).1] at hmap5
      have HB5 := Lib.hid (Below.call HBr.out hb5 HBr.out.size)
      have Hsz5 := Lib.hid hb5.size
      have Hnw2 := Lib.hid (snew_any 7 5 w5 (HWb.out _ HB5.out) (HD5.out.below hb5 (Nat.le_refl _)) Hlo5.out HBI.out.cut.len)
      have Hmap5 := Lib.hid hmap5
      have Hown5 := Lib.hid hown5; have Hro5 := Lib.hid hro5
      have Hll := Lib.hid (sel_rows HBI.out.bl HKI.out.srt HKI.out.tk HKI.out.n60 hmap5)
      obtain ⟨m, hm⟩ : ∃ m, m = ls.length := ⟨_, rfl⟩
      rw [← hm]
      have Hm := Lib.hid hm
      clear hev5 hrow5 hmap5 hb5 hown5 hro5 hm
      go_wp2_with fail
      refine Hnw2.out.mono ?_
      rintro e w6 ⟨_, hok6⟩
      obtain ⟨l6, k6, q6, G6, rfl, hir6, hI6, hf6, _⟩ := hok6 rfl
      have hnd : ∀ j, wr.heap.size ≤ j → ¬ DkS dq dv5 j := fun j hj hd => by have := Hlt.out j hd; omega
      have hrd6 : RowsRd w6 w6.heap.size A5 m ls := by
        rw [Hm.out]
        exact RowsRd.of_own2 (hf6.own Hown5.out (fun j hj => hnd j (own_lt Hown5.out j hj).1)) (fun r hr => hf6.own (Hro5.out r hr) (fun j hj => hnd j (own_lt (Hro5.out r hr) j hj).1))
      have Hrd6 := Lib.hid hrd6
      obtain ⟨eA, eB⟩ := HBI.out.anew hir6 7 5
      have HB6 := Lib.hid (HB5.out.trans (hf6.below HB5.out.size (fun k hk hd => by have := Hlo5.out k hd; omega)))
      have hkT : KInv False (newS l6 k6 S.d 7 5) [] := HKI.out.again eA (eB.trans HBI.out.bl) ⟨by show (1 : Int) ≤ 7; decide, by show (7 : Int) ≤ 100000; decide⟩
      have hOT : SOk (newS l6 k6 S.d 7 5) := hkT.sok (by rw [eA, HBI.out.cnt]; have := Hdn.out; have := Hn.out; omega) (by rw [eB, HBI.out.bl]; decide) ⟨by show (1 : Int) ≤ 5; decide, by show (5 : Int) ≤ 40; decide⟩ (by
        show (S.d.b.take k6).length ≤ 65536
        have := HBI.out.cut.len
        rw [List.length_take]; omega)
      have Hs2 := Lib.hid (Hnul.out _ _ _ _ _ w6 (HWb.out _ HB6.out) hI6 hOT (eB.trans HBI.out.bl) hkT)
      have HeT := Lib.hid (show selM (newS l6 k6 S.d 7 5) [] 0 1099511627776 = selR S 0 1099511627776 from (selM_same eA eB [] _ _).trans (selM_nil fun s hs => (HKI.out.names s hs).1))
      clear hok6 hir6 hI6 hf6 hnd hrd6 eA eB hkT hOT
      go_wp2_with fail
      refine Hs2.out.mono ?_
      rintro e w7 ⟨A7, c7, ls7, v7, rfl, hev7, _, hrow7, hb7⟩
      obtain rfl := hev7.zero (by decide)
      obtain ⟨hown7, hro7, hmap7⟩ := hrow7 (by decide)
      rw [HeT.out] at hmap7
      have hl7 : ls7.length = m := by
        have := congrArg List.length (hmap7.trans Hmap5.out.symm)
        rw [List.length_map, List.length_map] at this
        exact this.trans Hm.out.symm
      have hrd7 : RowsRd w7 w7.heap.size A7 m ls7 := by rw [hl7] at hown7; exact RowsRd.of_own2 hown7 hro7
      rw [hl7]
      have HB7 := Lib.hid (Below.call HB6.out hb7 HB6.out.size)
      have Hc60 := Lib.hid (show hCount S.A ≤ 60 by rw [HBI.out.cnt]; have := Hdn.out; have := Hn.out; omega)
      have Hsm := Lib.hid (sameRows_eq A5 m c5 A7 c7 ls ls7 w7 ((Hrd6.out.below hb7 (Nat.le_refl _)).more hb7.size) hrd7 (Hmap5.out.trans hmap7.symm) (by have := Hll.out.1; have := Hm.out; omega) (fun r hr => by have := Hll.out.2.2 r hr; have := Hc60.out; omega))
      have Hl2 := Lib.hid (sel_rows HBI.out.bl HKI.out.srt HKI.out.tk HKI.out.n60 hmap7)
      have Hrd7 := Lib.hid hrd7
      clear hev7 hrow7 hmap7 hown7 hro7 hl7 hrd7 hb7
      go_wp2_with fail
      refine Hsm.out.mono ?_
      rintro e w8 ⟨rfl, hb8⟩
      have HB8 := Lib.hid (Below.call HB7.out hb8 HB7.out.size)
      obtain ⟨hin, hall, hrn⟩ := rows_in ((Hrd7.out.below hb8 (Nat.le_refl _)).more hb8.size)
      have hal : (allOf (ls7.map dOf)).length = done.length := by rw [hall, Hl2.out.2.1, HBI.out.cnt]
      have hcc : (ofS (bitsOf (allOf (ls7.map dOf)))).c = done.length := by rw [ofS_c, bitsOf_length, hal]
      have Htt := Lib.hid (total_any A7 m c7 (ls7.map dOf) w8 hin (by have := hin.len; rw [List.length_map] at this; have := Hl2.out.1; omega) (fun r hr => by obtain ⟨x, hx, e⟩ := hrn r hr; have := Hl2.out.2.2 x hx; have := Hc60.out; omega) (by rw [hal]; have := Hdn.out; have := Hn.out; omega))
      rw [hcc] at Htt
      generalize (ofS (bitsOf (allOf (ls7.map dOf)))).lo = u1 at Htt
      generalize (ofS (bitsOf (allOf (ls7.map dOf)))).hi = u2 at Htt
      generalize (ofS (bitsOf (allOf (ls7.map dOf)))).la = u3 at Htt
      generalize (ofS (bitsOf (allOf (ls7.map dOf)))).to = u6 at Htt
      clear hb8 hin hall hrn hal hcc
      go_wp2_with fail
      refine Htt.out.mono ?_
      rintro e w9 ⟨rfl, hb9⟩
      have HB9 := Lib.hid (Below.call HB8.out hb9 HB8.out.size)
      have hfd := sum_count (.int .i64 done.length) (.int .u64 u1) (.int .u64 u2) (.int .u64 u3) (.int .u64 u6) w9
      clear hb9
      go_wp2
      go_ret
      exact ⟨rfl, HB9.out⟩
end Go.Proofs.YthgefobcohlegaaGreatDoor
