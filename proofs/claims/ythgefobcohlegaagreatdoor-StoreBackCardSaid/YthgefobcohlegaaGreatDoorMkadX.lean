/- A store's Add. -/
import Derived.Test.YthgefobcohlegaaGreatDoorMkyX
import Derived.Test.YthgefobcohlegaaGreatDoorMkaaX
import Derived.Test.YthgefobcohlegaaGreatDoorMkacX
import Derived.Test.YthgefobcohlegaaGreatDoorMkvX
import Derived.Deep.RegionHeld3
namespace Go.Proofs.YthgefobcohlegaaGreatDoor
open Go.RowKit Go.Maps
set_option linter.unusedVariables false

def SAddPost (es : Nat → Addr) (B q dq : Nat) (G : Nat → Prop) (S : StM) (s : Bs) (p : Int × Int) (w : World) (e : Ending) (w' : World) : Prop :=
  ∃ v, e = .returned v ∧ EV es w.heap.size w' v (sAddF S s p) ∧ StPost B q dq G w w' (sAdd S s p)
theorem sAdd_1 {S : StM} {s : Bs} {p : Int × Int} (h : (preF S s p).1 ≠ 0) : sAddF S s p = preF S s p ∧ sAdd S s p = S := ⟨if_pos h, if_pos h⟩
theorem sAdd_2 {S : StM} {s : Bs} {p : Int × Int} (h : (preF S s p).1 = 0) : sAddF S s p = apF S.d (enOf s p) ∧ sAdd S s p = ⟨if (apF S.d (enOf s p)).1 = 0 then hAdd S.A s p else S.A, apD S.d (enOf s p), S.sp, S.kp, S.B⟩ := ⟨if_neg (fun e => e h), if_neg (fun e => e h)⟩
theorem preF_1 {S : StM} {s : Bs} {p : Int × Int} (h : (rdF s).1 ≠ 0) : preF S s p = rdF s := if_pos h
theorem preF_2 {S : StM} {s : Bs} {p : Int × Int} (h : (rdF s).1 = 0) (h2 : p.1 < 0) : preF S s p = (2, -1) := by unfold preF; rw [if_neg (fun e => e h), if_pos h2]
theorem preF_3 {S : StM} {s : Bs} {p : Int × Int} (h : (rdF s).1 = 0) (h2 : ¬ p.1 < 0) (h3 : (hFault S.A s p).1 ≠ 0) : preF S s p = hFault S.A s p := by unfold preF; rw [if_neg (fun e => e h), if_neg h2, if_pos h3]
theorem preF_4 {S : StM} {s : Bs} {p : Int × Int} (h : (rdF s).1 = 0) (h2 : ¬ p.1 < 0) (h3 : (hFault S.A s p).1 = 0) : preF S s p = if oldB S.B p.1 = true then (8, -1) else (0, -1) := by unfold preF; rw [if_neg (fun e => e h), if_neg h2, if_neg (fun e => e h3)]
theorem oldB_nil {Bl : List BkV} (h : Bl.length = 0) (t : Int) : oldB (Bl.map fun b => ((b.fr, b.sp), b.rows)) t = false := by
  rw [List.eq_nil_of_length_eq_zero h]; rfl
theorem oldB_at {Bl : List BkV} {b : BkV} (h : Bl[Bl.length - 1]? = some b) (t : Int) : oldB (Bl.map fun b => ((b.fr, b.sp), b.rows)) t = decide (t < b.fr + b.sp) := by
  unfold oldB
  rw [List.getLast?_eq_getElem?, List.length_map, List.getElem?_map, h]
  rfl
theorem sAddF_err {es : Nat → Addr} {B q dq : Nat} {G : Nat → Prop} {S : StM} {s : Bs} {p : Int × Int} {w w' : World} {v : Value} (hI : StI B w q dq G S) (hb : Below w.heap.size w w') {f : Nat × Int} (hf : preF S s p = f) (h0 : f.1 ≠ 0) (hv : EV es w.heap.size w' v f) : SAddPost es B q dq G S s p w (.returned v) w' := by
  obtain ⟨e1, e2⟩ := sAdd_1 (by rw [hf]; exact h0 : (preF S s p).1 ≠ 0)
  exact ⟨v, rfl, by rw [e1, hf]; exact hv, by rw [e2]; exact StPost.same hI hb⟩
set_option maxRecDepth 100000 in
set_option maxHeartbeats 16000000 in
theorem sadd_any {es : Nat → Addr} {B q dq : Nat} {G : Nat → Prop} {S : StM} (s : Bs) (t b : Int) (w : World) (hs : s.length ≤ 100000) (hp : 0 ≤ b ∧ b < 18446744073709551616) (hW : StW es B w) (h : StI B w q dq G S) (hO : SOk S) :
    Calls Tryz.prog 10 #[.pointer (some ⟨q, 0, none⟩), .string (B8 s), .agg #[.int .i64 t, .int .u64 b]] w (SAddPost es B q dq G S s (t, b) w) := by
  have HI := Lib.hid h
  obtain ⟨hb, mb, D, L, dv, bv, Bl, hSt, hG, hlo⟩ := h
  have hd := hO.hd hSt.ab
  obtain ⟨Ab, cb, hbv, _, _, hrb⟩ := own_form hSt.bl.own
  have hb0 : Below w.heap.size w (w.alloc (.cells #[.int .i64 t, .int .u64 b] 39)) := Below.alloc (Below.refl _ _) (Nat.le_refl _) _
  have hk0 := Blk.new w 39 #[.int .i64 t, .int .u64 b]
  have HW := Lib.hid (fun W (hb' : Below B w W) => hW.below hb' (Nat.le_refl _))
  have HWb := Lib.hid (fun W (hb' : Below w.heap.size w W) => hW.below hb' hW.b0)
  have HS := Lib.hid (fun W (hb' : Below w.heap.size w W) => hSt.below hb')
  have HBB := Lib.hid hW.b0
  have Hab := Lib.hid hSt.ab; have Hbm := Lib.hid hSt.bm; have HG := Lib.hid hG; have Hdb := Lib.hid hO.db
  have Hlo := Lib.hid (show ∀ k, StS q hb mb L dq dv bv Bl k → B ≤ k from fun k hk => hlo k (by rw [hG]; exact hk))
  have Hn60 := Lib.hid (show L.length ≤ 100000 from Nat.le_trans hd.n60 (by decide))
  have Hpt9 := Lib.hid (show ∀ x ∈ L, x.pts.length ≤ 100000 from fun x hx => Nat.le_trans (hd.pts x hx) (by decide))
  have Hl := Lib.hid (fun W (hb' : Below w.heap.size w W) => lread_u s hs W (HWb.out W hb').wal.svl (HWb.out W hb').b0)
  have Hck := Lib.hid (fun W (hb' : Below w.heap.size w W) => hcheck_any s (t, b) W hs (HWb.out W hb').wal.svl (HWb.out W hb').b0 (HS.out W hb').he Hn60.out)
  rw [hSt.ab] at Hck
  have Hac := Lib.hid (fun W (hb' : Below w.heap.size w W) (hk : Blk W w.heap.size 39 #[.int .i64 t, .int .u64 b]) => show W.cell? ⟨q, 0, none⟩ = some (.pointer (some ⟨hb, 0, none⟩)) ∧ W.cell? ⟨q, 1, none⟩ = some (.pointer (some ⟨dq, 0, none⟩)) ∧ W.cell? ⟨q, 4, none⟩ = some (.slice Ab Bl.length cb) ∧ W.cell? ⟨w.heap.size, 0, none⟩ = some (.int .i64 t) ∧ W.cell? ⟨w.heap.size, 1, none⟩ = some (.int .u64 b) from
    ⟨(HS.out W hb').hd.cell 0, (HS.out W hb').hd.cell 1, by rw [← hbv]; exact (HS.out W hb').hd.cell 4, hk.cell 0, hk.cell 1⟩)
  have Hat := Lib.hid (fun W (hb : Below w.heap.size w W) (k : Nat) (hk : k < Bl.length) => (hrb.below hb).at4 hk)
  have Hbd := Lib.hid (fun b (hm : b ∈ Bl) => (hSt.bl.bk b hm).ok.bd)
  have HB0 := Lib.hid hb0; have HK0 := Lib.hid hk0
  have h40 : Bl.length ≤ 40 := hSt.bl40 hO
  have hq := hSt.hd.lt
  clear hW hSt hG hlo hO hd hbv hrb hb0 hk0
  obtain ⟨n, hn⟩ : ∃ n, n = Bl.length := ⟨_, rfl⟩
  rw [← hn] at Hac Hat h40
  have Hn := Lib.hid hn
  have Hap := Lib.hid (fun W (hb' : Below w.heap.size w W) => show Calls Tryz.prog 29 #[.pointer (some ⟨dq, 0, none⟩), .string (B8 s), .agg #[.int .i64 t, .int .u64 b]] W (APost es dq dv S.d (enOf s (t, b)) W) from by
    have e : ((b.toNat : Nat) : Int) = b := Int.toNat_of_nonneg hp.1
    have := dappend_any (enOf s (t, b)) W (HWb.out W hb').wal (HWb.out W hb').b0 (HS.out W hb').dk (StAt.dlo Hlo.out) Hdb.out hs (show b.toNat < 18446744073709551616 by omega)
    rw [show ((enOf s (t, b)).bit : Int) = b from e] at this
    exact this)
  have Had := Lib.hid (fun W (hW : StW es B W) (dv' : Value) (S' : StM) (hSt : StAt W q hb mb D L dq dv' bv Bl S') => hadd_any s (t, b) W hs hW.wal.svl hW.b0 hSt.he Hn60.out Hpt9.out)
  obtain ⟨sn, hsn⟩ : ∃ sn, sn = B8 s := ⟨_, rfl⟩
  rw [← hsn] at Hl Hck Hap Had ⊢
  clear hsn hn
  dsimp only at Hck Had
  go_enter Tryz.func10, Tryz.ntmps10
  go_wp2_with fail
  refine (Hl.out _ HB0.out).mono ?_
  rintro e w2 ⟨v, u, l, rfl, hev, _, _, _, hb2⟩
  have HB2 := Lib.hid (Below.call HB0.out hb2 HB0.out.size)
  have HK2 := Lib.hid (HK0.out.below hb2 HK0.out.lt)
  have HE2 := Lib.hid (show EV es w.heap.size w2 v (rdF s) from hev.base HB0.out.size)
  clear hev hb2
  by_cases hrd : (rdF s).1 = 0
  case neg =>
    obtain ⟨t5, p5, rfl⟩ := HE2.out.pos hrd
    have Hrd := Lib.hid hrd
    clear hrd
    go_wp2
    go_ret
    exact sAddF_err HI.out HB2.out (preF_1 Hrd.out) Hrd.out HE2.out
  obtain rfl := HE2.out.zero hrd
  have Hrd := Lib.hid hrd
  obtain ⟨a0, a1, a4, k0, k1⟩ := Hac.out _ HB2.out HK2.out
  clear hrd
  by_cases hneg : t < 0
  · have g1 : w2.cell? ⟨0, 0, none⟩ = some (sentV (es 1)) := (HWb.out _ HB2.out).wal.svl.var 1 (by decide)
    go_wp2
    go_ret
    exact sAddF_err HI.out HB2.out (preF_2 Hrd.out hneg) (by decide) (EV.sent 1 (by decide))
  have HD2 := Lib.hid HB2.out.drew
  have HKD2 := Lib.hid HK2.out.drew
  clear a0 a1 a4
  go_wp2
  go_region_held3 (fun w' => w'.cell? ⟨q, 0, none⟩ = some (.pointer (some ⟨hb, 0, none⟩)) ∧ w'.cell? ⟨q, 1, none⟩ = some (.pointer (some ⟨dq, 0, none⟩)) ∧ w'.cell? ⟨q, 4, none⟩ = some (.slice Ab n cb) ∧ w'.cell? ⟨w.heap.size, 0, none⟩ = some (.int .i64 t) ∧ w'.cell? ⟨w.heap.size, 1, none⟩ = some (.int .u64 b))
    (first | with_reducible exact Hac.out _ HD2.out HKD2.out | with_reducible exact Hac.out _ HB3.out HK3.out | exact Hac.out _ HD2.out HKD2.out)
    (first | (go_at_call 27; (with_reducible refine (Hck.out _ HD2.out).mono ?_); rintro e3 w3 ⟨v3, rfl, hev3, hb3⟩; have HB3 := Lib.hid (Below.call HD2.out hb3 HD2.out.size); have HK3 := Lib.hid (HKD2.out.below hb3 HKD2.out.lt); have HE3 := Lib.hid (show EV es w.heap.size w3 v3 (hFault S.A s (t, b)) from hev3.base HD2.out.size); clear hev3 hb3))
  by_cases h3 : (hFault S.A s (t, b)).1 = 0
  case neg =>
    obtain ⟨t5, p5, rfl⟩ := HE3.out.pos h3
    have H3 := Lib.hid h3
    clear h3
    go_wp2
    go_ret
    exact sAddF_err HI.out HB3.out (preF_3 Hrd.out (by show ¬ t < 0; omega) H3.out) H3.out HE3.out
  obtain rfl := HE3.out.zero h3
  have H3 := Lib.hid h3
  obtain ⟨a0, a1, a4, k0, k1⟩ := Hac.out _ HB3.out HK3.out
  clear h3
  go_upto_region 10 with fail
  obtain ⟨ob, hob⟩ : ∃ ob, ob = oldB S.B t := ⟨_, rfl⟩
  have Hob := Lib.hid hob
  clear hob
  go_cut [54] (fun v wx => v = .bool ob ∧ Below w.heap.size w wx ∧ Blk wx w.heap.size 39 #[.int .i64 t, .int .u64 b])
  case first =>
    by_cases hn0 : n = 0
    · have Hz := Lib.hid (show ob = false by rw [Hob.out, ← Hbm.out]; exact oldB_nil (by rw [← Hn.out]; exact hn0) t)
      subst hn0
      have hd0 : decide ((0 : Int) < ((0 : Nat) : Int)) = false := rfl
      go_wp2
      go_quiet (fail)
      go_wp2
      go_meet
      exact ⟨by rw [Hz.out], Below.drewN HB3.out _, Blk.drewN HK3.out _⟩
    · obtain ⟨j, hj⟩ : ∃ j, n = j + 1 := ⟨n - 1, by omega⟩
      have hjn : j < n := by omega
      obtain ⟨b0, o0, b1, hA0, had, hbk, x0, x1, x2, x3⟩ := Hat.out _ HB3.out j hjn
      subst hA0
      have hmem := List.mem_of_getElem? hbk
      have hbn : 1 ≤ b1.sp ∧ b1.sp ≤ 100000 ∧ -1099511627776 ≤ b1.fr ∧ b1.fr ≤ 1099511627776 := by simpa [bndB] using Hbd.out b1 hmem
      have Hz := Lib.hid (show ob = decide (t < b1.fr + b1.sp) by rw [Hob.out, ← Hbm.out]; exact oldB_at (by rw [← Hn.out, hj]; exact hbk) t)
      have Hend := Lib.hid (fun W => bend_any b1.fr b1.sp (b1.fr + b1.sp) b1.A b1.C b1.rows.length b1.a b1.rows.length b1.c rfl (by omega) (by omega) W)
      obtain ⟨en, hen⟩ : ∃ en, en = b1.fr + b1.sp := ⟨_, rfl⟩
      rw [← hen] at Hend Hz
      have Hx := Lib.hid (fun W (hb' : Below w3.heap.size w3 W) => show W.cell? ⟨b0, o0 + j * 4, none⟩ = some (.int .i64 b1.fr) ∧ W.cell? ⟨b0, o0 + j * 4 + 1, none⟩ = some (.int .i64 b1.sp) ∧ W.cell? ⟨b0, o0 + j * 4 + 2, none⟩ = some (.slice b1.A b1.rows.length b1.a) ∧ W.cell? ⟨b0, o0 + j * 4 + 3, none⟩ = some (.slice b1.C b1.rows.length b1.c) from
        have hl := fun i => (hb'.cell (p := ⟨b0, o0 + j * 4 + i, none⟩) (Nat.lt_of_lt_of_le had HB3.out.size))
        ⟨(hl 0).trans x0, (hl 1).trans x1, (hl 2).trans x2, (hl 3).trans x3⟩)
      have hd0 : decide ((0 : Int) < (n : Int)) = true := decide_eq_true (by omega)
      have hw : IntKind.i64.wrap ((n : Int) - 1) = (j : Int) := by rw [IntKind.wrap_i64]; omega
      have hj0 : (0 : Int) ≤ (j : Int) := by omega
      have hjn' : (j : Int) < (n : Int) := by omega
      have HD3 := Lib.hid HB3.out.drew
      have HKD3 := Lib.hid HK3.out.drew
      clear hbk hmem hbn hen had hj
      have HBD := Lib.hid (show Below w3.heap.size w3 w3.drew from (Below.refl _ _).drew)
      have hd1 : decide (0 < n) = true := decide_eq_true (by omega)
      go_region_held3 (fun w' => w'.cell? ⟨q, 4, none⟩ = some (.slice (some ⟨b0, o0, none⟩) n cb) ∧ w'.cell? ⟨w.heap.size, 0, none⟩ = some (.int .i64 t) ∧ w'.cell? ⟨b0, o0 + j * 4, none⟩ = some (.int .i64 b1.fr) ∧ w'.cell? ⟨b0, o0 + j * 4 + 1, none⟩ = some (.int .i64 b1.sp) ∧ w'.cell? ⟨b0, o0 + j * 4 + 2, none⟩ = some (.slice b1.A b1.rows.length b1.a) ∧ w'.cell? ⟨b0, o0 + j * 4 + 3, none⟩ = some (.slice b1.C b1.rows.length b1.c))
        (first | with_reducible exact ⟨(Hac.out _ HD3.out HKD3.out).2.2.1, (Hac.out _ HD3.out HKD3.out).2.2.2.1, Hx.out _ HBD.out⟩ | with_reducible exact ⟨(Hac.out _ HB4.out HK4.out).2.2.1, (Hac.out _ HB4.out HK4.out).2.2.2.1, Hx.out _ HX4.out⟩ | exact ⟨(Hac.out _ HD3.out HKD3.out).2.2.1, (Hac.out _ HD3.out HKD3.out).2.2.2.1, Hx.out _ HBD.out⟩)
        (first | (go_at_call 28; (with_reducible refine (Hend.out _).mono ?_); rintro e4 w4 ⟨rfl, hb4⟩; have HB4 := Lib.hid (Below.call HD3.out hb4 HD3.out.size); have HK4 := Lib.hid (HKD3.out.below hb4 HKD3.out.lt); have HX4 := Lib.hid (show Below w3.heap.size w3 w4 from Below.call HBD.out hb4 (Nat.le_refl _)); clear hb4))
      all_goals
        go_wp2
        go_meet
        exact ⟨by rw [Hz.out], HB4.out, HK4.out⟩
  case rest =>
    obtain ⟨rfl, hb4, hk4⟩ := hcut
    rename World => w4
    have HB4 := Lib.hid hb4; have HK4 := Lib.hid hk4
    clear hb4 hk4 a0 a1 a4 k0 k1
    obtain ⟨a0, a1, a4, k0, k1⟩ := Hac.out _ HB4.out HK4.out
    cases ob with
    | true =>
      have g7 : w4.cell? ⟨2, 0, none⟩ = some (sentV (es 7)) := (HWb.out _ HB4.out).wal.svl.var 7 (by decide)
      apply_assumption
      go_wp2
      go_ret
      exact sAddF_err HI.out HB4.out (by rw [preF_4 Hrd.out (by show ¬ t < 0; omega) H3.out, if_pos Hob.out.symm]) (by decide) (EV.sent 7 (by decide))
    | false =>
      have Hpre := Lib.hid (show (preF S s (t, b)).1 = 0 by rw [preF_4 Hrd.out (by show ¬ t < 0; omega) H3.out, if_neg (by rw [← Hob.out]; decide)])
      have HD4 := Lib.hid HB4.out.drew
      have HKD4 := Lib.hid HK4.out.drew
      have HSd := Lib.hid (show StAt w4.drew q hb mb D L dq dv bv Bl S from HS.out _ HD4.out)
      clear a0 a1 a4 k0 k1
      apply_assumption
      go_wp2
      go_region_held3 (fun w' => w'.cell? ⟨q, 0, none⟩ = some (.pointer (some ⟨hb, 0, none⟩)) ∧ w'.cell? ⟨q, 1, none⟩ = some (.pointer (some ⟨dq, 0, none⟩)) ∧ w'.cell? ⟨w.heap.size, 0, none⟩ = some (.int .i64 t) ∧ w'.cell? ⟨w.heap.size, 1, none⟩ = some (.int .u64 b))
        (first | with_reducible exact ⟨(Hac.out _ HD4.out HKD4.out).1, (Hac.out _ HD4.out HKD4.out).2.1, (Hac.out _ HD4.out HKD4.out).2.2.2⟩ | with_reducible exact H5c.out | exact ⟨(Hac.out _ HD4.out HKD4.out).1, (Hac.out _ HD4.out HKD4.out).2.1, (Hac.out _ HD4.out HKD4.out).2.2.2⟩)
        (first | (go_at_call 29; (with_reducible refine (Hap.out _ HD4.out).mono ?_); rintro e5 w5 ⟨v5, rfl, hev5, dv5, hst5⟩; have HK5 := Lib.hid (show Blk w5 w.heap.size 39 #[.int .i64 t, .int .u64 b] from DStep.blk HSd.out.dk hst5 HKD4.out (by decide) (by decide)); have HS5 := Lib.hid (HSd.out.diskStep hst5); have H5c := Lib.hid (show w5.cell? ⟨q, 0, none⟩ = some (.pointer (some ⟨hb, 0, none⟩)) ∧ w5.cell? ⟨q, 1, none⟩ = some (.pointer (some ⟨dq, 0, none⟩)) ∧ w5.cell? ⟨w.heap.size, 0, none⟩ = some (.int .i64 t) ∧ w5.cell? ⟨w.heap.size, 1, none⟩ = some (.int .u64 b) from ⟨HS5.out.1.hd.cell 0, HS5.out.1.hd.cell 1, HK5.out.cell 0, HK5.out.cell 1⟩); have HE5 := Lib.hid (show EV es w.heap.size w5 v5 (apF S.d (enOf s (t, b))) from hev5.base HD4.out.size); clear hev5 hst5))
      have HW5 := Lib.hid (show StW es B w5 ∧ (∀ k, StS q hb mb L dq dv5 bv Bl k → B ≤ k) ∧ StStep w w5 (StS q hb mb L dq dv bv Bl) (StS q hb mb L dq dv5 bv Bl) from by
        have h1 := (StStep.below HD4.out : StStep w w4.drew (StS q hb mb L dq dv bv Bl) _).trans HS5.out.2
        obtain ⟨h2, h3⟩ := h1.low Hlo.out HBB.out
        exact ⟨HW.out _ h3, h2, h1⟩)
      by_cases h5 : (apF S.d (enOf s (t, b))).1 = 0
      case neg =>
        obtain ⟨t5, p5, rfl⟩ := HE5.out.pos h5
        have H5 := Lib.hid h5
        clear h5
        go_wp2
        go_ret
        obtain ⟨e1, e2⟩ := sAdd_2 Hpre.out
        refine ⟨_, rfl, by rw [e1]; exact HE5.out, StS q hb mb L dq dv5 bv Bl, ?_, by rw [HG.out]; exact HW5.out.2.2⟩
        rw [e2, if_neg H5.out]
        exact HS5.out.1.toI HW5.out.2.1
      obtain rfl := HE5.out.zero h5
      have H5 := Lib.hid h5
      have HD5 := Lib.hid (show Below w5.heap.size w5 w5.drew from (Below.refl _ _).drew)
      have HSd5 := Lib.hid (show StAt w5.drew q hb mb D L dq dv5 bv Bl ⟨S.A, apD S.d (enOf s (t, b)), S.sp, S.kp, S.B⟩ from HS5.out.1.below HD5.out)
      have HKd5 := Lib.hid (show Blk w5.drew w.heap.size 39 #[.int .i64 t, .int .u64 b] from HK5.out.drew)
      have Hnot := Lib.hid (show ¬ HdS hb mb L w.heap.size from fun hk => Nat.lt_irrefl _ (HI.out.lt _ (by rw [HG.out]; exact .inr (.inl hk))))
      have HWd5 := Lib.hid (show StW es B w5.drew from HW5.out.1.below HD5.out HW5.out.1.b0)
      clear h5
      obtain ⟨a0, a1, k0, k1⟩ := H5c.out
      go_wp2
      go_region_held3 (fun w' => w'.cell? ⟨q, 0, none⟩ = some (.pointer (some ⟨hb, 0, none⟩)) ∧ w'.cell? ⟨w.heap.size, 0, none⟩ = some (.int .i64 t) ∧ w'.cell? ⟨w.heap.size, 1, none⟩ = some (.int .u64 b))
        (first | with_reducible exact ⟨a0, k0, k1⟩ | with_reducible exact H6c.out | exact ⟨a0, k0, k1⟩)
        (first | (go_at_call 25; (with_reducible refine (Had.out _ HWd5.out dv5 _ HSd5.out).mono ?_); rintro e6 w6 ⟨hbad6, hok6⟩; rw [Hab.out] at hbad6 hok6; obtain ⟨rfl, D6, L6, hh6, hab6, hf6⟩ := hok6 H3.out; have HS6 := Lib.hid (HSd5.out.headStep hh6 hf6); have Hab6 := Lib.hid hab6; have HF6 := Lib.hid hf6; clear hbad6 hok6 hh6 hab6 hf6; have H6c := Lib.hid (show w6.cell? ⟨q, 0, none⟩ = some (.pointer (some ⟨hb, 0, none⟩)) ∧ w6.cell? ⟨w.heap.size, 0, none⟩ = some (.int .i64 t) ∧ w6.cell? ⟨w.heap.size, 1, none⟩ = some (.int .u64 b) from ⟨HS6.out.1.hd.cell 0, (HF6.out.blk HKd5.out Hnot.out).cell 0, (HF6.out.blk HKd5.out Hnot.out).cell 1⟩)))
      all_goals
        go_wp2
        go_ret
        obtain ⟨e1, e2⟩ := sAdd_2 Hpre.out
        have h7 := HW5.out.2.2.trans ((StStep.below HD5.out).trans HS6.out.2)
        refine ⟨_, rfl, by rw [e1]; exact .inl ⟨HE5.out.nilc, rfl⟩, StS q hb mb L6 dq dv5 bv Bl, ?_, by rw [HG.out]; exact h7⟩
        rw [e2, if_pos H5.out, ← Hab6.out]
        exact HS6.out.1.toI (h7.low Hlo.out HBB.out).1
end Go.Proofs.YthgefobcohlegaaGreatDoor

namespace Go.Proofs.YthgefobcohlegaaGreatDoor
open Go.RowKit Go.Sort
set_option linter.unusedVariables false

/-- What selecting with no matches answers. -/
structure SelIs (E : List (Bs × (Int × Int))) (R : List Rw) : Prop where
  rise : (R.map Prod.fst).Pairwise (· < ·)
  row : ∀ r ∈ R, r.2 = evS E r.1 ∧ r.2 ≠ []
  all : ∀ s, evS E s ≠ [] → ∃ r ∈ R, r.1 = s
end Go.Proofs.YthgefobcohlegaaGreatDoor

namespace Go.Proofs.YthgefobcohlegaaGreatDoor
open Go.RowKit
set_option linter.unusedVariables false

/-- What flushing leaves, and answers. -/
def flushS (S : StM) (now : Int) : StM × (Nat × (Nat × Int)) :=
  if now < -1099511627776 ∨ 1099511627776 < now then (S, 0, (2, -1)) else
  (⟨(makeL (hCount S.A + 1) S now 0).1.A, (anewD (makeL (hCount S.A + 1) S now 0).1.d (makeL (hCount S.A + 1) S now 0).1.A).1, (makeL (hCount S.A + 1) S now 0).1.sp, (makeL (hCount S.A + 1) S now 0).1.kp,
      (makeL (hCount S.A + 1) S now 0).1.B.drop ((makeL (hCount S.A + 1) S now 0).1.B.length - (makeL (hCount S.A + 1) S now 0).1.kp.toNat)⟩,
    (if ((makeL (hCount S.A + 1) S now 0).2.2.1 = 0 ∧ (anewD (makeL (hCount S.A + 1) S now 0).1.d (makeL (hCount S.A + 1) S now 0).1.A).2.1 = 0) then (makeL (hCount S.A + 1) S now 0).2.1 else 0),
    (if (makeL (hCount S.A + 1) S now 0).2.2.1 = 0 then (anewD (makeL (hCount S.A + 1) S now 0).1.d (makeL (hCount S.A + 1) S now 0).1.A).2 else (makeL (hCount S.A + 1) S now 0).2.2))
theorem KInv.try_ {Q : Prop} {S : StM} {E : List (Bs × (Int × Int))} (h : KInv Q S E) (hE : EvOk E) {s : Bs} {p : Int × Int} (hs : s.length ≤ 200) (hp : 0 ≤ p.2 ∧ p.2 < 18446744073709551616) :
    ((sAddF S s p).1 = 0 → KInv Q (sAdd S s p) (E ++ [(s, p)]) ∧ EvOk (E ++ [(s, p)])) ∧ ((sAddF S s p).1 ≠ 0 → KInv Q (sAdd S s p) E) := by
  by_cases h1 : (preF S s p).1 = 0
  · have hF : sAddF S s p = apF S.d (enOf s p) := by unfold sAddF; rw [if_neg (fun e => e h1)]
    have hA : sAdd S s p = ⟨if (apF S.d (enOf s p)).1 = 0 then hAdd S.A s p else S.A, apD S.d (enOf s p), S.sp, S.kp, S.B⟩ := by unfold sAdd; rw [if_neg (fun e => e h1)]
    rw [hF, hA]
    refine ⟨fun h0 => ?_, fun h0 => ?_⟩
    · rw [if_pos h0]
      exact ⟨h.add hs hp h1 _, hE.snoc (preF_tick h1)⟩
    · rw [if_neg h0]
      exact h.disk _
  · have hF : sAddF S s p = preF S s p := by unfold sAddF; rw [if_pos h1]
    have hA : sAdd S s p = S := by unfold sAdd; rw [if_pos h1]
    rw [hF, hA]
    exact ⟨fun h0 => absurd h0 h1, fun _ => h⟩
/-- The names in the order in which they came, and the points of each. -/
structure NmInv (E : List (Bs × (Int × Int))) (N : List Bs) (P : List (List (Int × Int))) : Prop where
  len : P.length = N.length
  nd : N.Nodup
  at_ : ∀ (k : Nat) (s : Bs), N[k]? = some s → P[k]? = some (evS E s) ∧ evS E s ≠ []
  all : ∀ s, evS E s ≠ [] → s ∈ N
theorem NmInv.nil : NmInv [] [] [] := ⟨rfl, List.nodup_nil, fun k s h => (by simp at h), fun s h => absurd rfl h⟩
/-- A point of a series that is known. -/
theorem NmInv.known {E : List (Bs × (Int × Int))} {N : List Bs} {P : List (List (Int × Int))} (h : NmInv E N P) {k : Nat} {s : Bs} (hk : N[k]? = some s) (p : Int × Int) : NmInv (E ++ [(s, p)]) N (P.set k (evS E s ++ [p])) := by
  refine ⟨by rw [List.length_set]; exact h.len, h.nd, fun j t hj => ?_, fun t ht => ?_⟩
  · have hkl := (List.getElem?_eq_some_iff.1 hk).1
    by_cases e : j = k
    · subst e
      obtain rfl := Option.some.inj (hj.symm.trans hk)
      rw [List.getElem?_set_self (by rw [h.len]; exact hkl), evS_snoc, if_pos rfl]
      exact ⟨rfl, by simp⟩
    · rw [List.getElem?_set_ne (fun x => e x.symm)]
      have hne : t ≠ s := by
        intro e2
        subst e2
        exact e ((List.getElem?_inj (List.getElem?_eq_some_iff.1 hj).1 h.nd).1 (hj.trans hk.symm))
      rw [evS_snoc, if_neg hne]
      exact h.at_ j t hj
  · rw [evS_snoc] at ht
    by_cases e : t = s
    · subst e
      exact List.mem_of_getElem? hk
    · rw [if_neg e] at ht
      exact h.all t ht
/-- The rows that are selected are as many as the names, and each is a name's. -/
theorem SelIs.names {E : List (Bs × (Int × Int))} {R : List Rw} {N : List Bs} {P : List (List (Int × Int))} (h : SelIs E R) (hN : NmInv E N P) : R.length = N.length ∧ ∀ r ∈ R, ∃ k : Nat, N[k]? = some r.1 ∧ P[k]? = some r.2 := by
  have hp : (R.map Prod.fst).Perm N := by
    refine (List.perm_ext_iff_of_nodup (h.rise.imp fun {a b} hab e => by subst e; exact lt_irrefl_bs _ hab) hN.nd).2 fun s => ?_
    constructor
    · intro hs
      obtain ⟨r, hr, rfl⟩ := List.mem_map.1 hs
      obtain ⟨h1, h2⟩ := h.row r hr
      exact hN.all r.1 (by rw [← h1]; exact h2)
    · intro hs
      obtain ⟨k, hk, e⟩ := List.getElem_of_mem hs
      obtain ⟨r, hr, e2⟩ := h.all s (hN.at_ k s (by rw [List.getElem?_eq_getElem hk, e])).2
      exact List.mem_map.2 ⟨r, hr, e2⟩
  refine ⟨by have := hp.length_eq; rwa [List.length_map] at this, fun r hr => ?_⟩
  have hm : r.1 ∈ N := hp.mem_iff.1 (List.mem_map.2 ⟨r, hr, rfl⟩)
  obtain ⟨k, hk, e⟩ := List.getElem_of_mem hm
  have hk2 : N[k]? = some r.1 := by rw [List.getElem?_eq_getElem hk, e]
  refine ⟨k, hk2, ?_⟩
  rw [(hN.at_ k r.1 hk2).1, (h.row r hr).1]
end Go.Proofs.YthgefobcohlegaaGreatDoor

namespace Go.Proofs.YthgefobcohlegaaGreatDoor
open Go.RowKit Go.Maps
set_option linter.unusedVariables false

section
variable {w w2 : World} {q hb mb : Nat} {D : DataW Unit} {L : List HLn} {dq : Nat} {dv bv v2 : Value} {Bl Bl2 : List BkV} {S : StM} {B2 : List Bk}
/-- The store's slice of blocks is another one. -/
theorem StAt.turn (h : StAt w q hb mb D L dq dv bv Bl S) (hf : Fr (fun k => k = q ∨ bv.ownBlock = some k) w w2)
    (hd : Blk w2 q 78 #[.pointer (some ⟨hb, 0, none⟩), .pointer (some ⟨dq, 0, none⟩), .int .i64 S.sp, .int .i64 S.kp, v2]) (hbl : BksAt w2 v2 Bl2) (hm : Bl2.map (fun b => ((b.fr, b.sp), b.rows)) = B2)
    (hmv : ∀ k, BksS v2 Bl2 k → BksS bv Bl k ∨ w.heap.size ≤ k) :
    StAt w2 q hb mb D L dq dv v2 Bl2 ⟨S.A, S.d, S.sp, S.kp, B2⟩ ∧ StStep w w2 (StS q hb mb L dq dv bv Bl) (StS q hb mb L dq dv v2 Bl2) := by
  have ho : Odd (HdS hb mb L) w [78, 85] := h.he.odd (by decide) (by decide) (by decide)
  have hp : Odd (DkS dq dv) w [78, 85] := h.dk.odd (by decide) (by decide)
  refine ⟨⟨hd, h.he.fr hf (fun k hk hF => ?_), h.ab, h.dk.fr hf (fun k hk hF => ?_), hbl, hm⟩, hf.mono (fun k _ hk => hk.elim .inl (fun h => .inr (.inr (.inr (.inl h))))), fun k hk => ?_⟩
  · rcases hF with rfl | hF
    · exact ho.not h.hd (by simp) hk
    · exact ho.own h.bl.own (by simp) k hF hk
  · rcases hF with rfl | hF
    · exact hp.not h.hd (by simp) hk
    · exact hp.own h.bl.own (by simp) k hF hk
  · rcases hk with hk | hk | hk | hk
    · exact .inl (.inl hk)
    · exact .inl (.inr (.inl hk))
    · exact .inl (.inr (.inr (.inl hk)))
    · exact (hmv k hk).imp (fun h => .inr (.inr (.inr h))) id
end
/-- Plain: one block. -/
theorem mk_none {S : StM} {now : Int} (h : firstH S.A = none) : mkStep S now = (none, (0, -1)) := by unfold mkStep; rw [h]
theorem mk_now {S : StM} {now t : Int} (h : firstH S.A = some t) (h1 : now < t - t % S.sp + S.sp) : mkStep S now = (none, (0, -1)) := by unfold mkStep; rw [h]; exact if_pos h1
theorem mk_full {S : StM} {now t : Int} (h : firstH S.A = some t) (h1 : ¬ now < t - t % S.sp + S.sp) (h2 : (stretchR S.A (t - t % S.sp) (t - t % S.sp + S.sp - 1)).any (fun r => decide (120 < r.2.length)) = true) : mkStep S now = (none, (7, -1)) := by
  unfold mkStep; rw [h]; dsimp only; rw [if_neg h1, if_pos h2]
theorem mk_ok {S : StM} {now t : Int} (h : firstH S.A = some t) (h1 : ¬ now < t - t % S.sp + S.sp) (h2 : ¬ (stretchR S.A (t - t % S.sp) (t - t % S.sp + S.sp - 1)).any (fun r => decide (120 < r.2.length)) = true)
    (h3 : (makeR (t - t % S.sp) S.sp (stretchR S.A (t - t % S.sp) (t - t % S.sp + S.sp - 1))).1.1 = 0) (h4 : hCutR S.A (t - t % S.sp + S.sp) ≠ []) :
    mkStep S now = (some ⟨hCut S.A (t - t % S.sp + S.sp), S.d, S.sp, S.kp, S.B ++ [((t - t % S.sp, S.sp), stretchR S.A (t - t % S.sp) (t - t % S.sp + S.sp - 1))]⟩, (0, -1)) := by
  unfold mkStep; rw [h]; dsimp only; rw [if_neg h1, if_neg h2, if_neg (fun e => e h3), if_neg h4]
theorem cutR_ne {A : List HA} {t b : Int} (h : firstH A = some t) (hi : ∀ x ∈ A, x.2.1.Pairwise (fun p q => p.1 < q.1)) (hb : t < b) : hCutR A b ≠ [] := by
  obtain ⟨⟨x, hx, p, hp, hpt⟩, _⟩ := firstH_le h hi
  intro e
  have : (x.1, hGone b x.2.1) ∈ hCutR A b := by
    refine List.mem_map.2 ⟨x, List.mem_filter.2 ⟨hx, ?_⟩, rfl⟩
    have hpw := hi x hx
    cases hl : x.2.1 with
    | nil => rw [hl] at hp; cases hp
    | cons a l =>
      rw [hl] at hp hpw
      have ha : a.1 < b := by
        rcases List.mem_cons.1 hp with rfl | hp
        · omega
        · have := (List.pairwise_cons.1 hpw).1 p hp
          omega
      unfold hGone
      rw [List.takeWhile_cons, if_pos (by simpa using ha)]
      simp
  rw [e] at this
  cases this
theorem makeL_stop {k : Nat} {S : StM} {now : Int} {n : Nat} {f : Nat × Int} (h : mkStep S now = (none, f)) : makeL (k + 1) S now n = (S, n, f) := by rw [makeL, h]
theorem makeL_step {k : Nat} {S S' : StM} {now : Int} {n : Nat} {f : Nat × Int} (h : mkStep S now = (some S', f)) : makeL (k + 1) S now n = makeL k S' now (n + 1) := by rw [makeL, h]
theorem makeL_cnt {Q : Prop} {E : List (Bs × (Int × Int))} {now : Int} : ∀ (k : Nat) (S : StM) (n : Nat), KInv Q S E → hCount (makeL k S now n).1.A ≤ hCount S.A
  | 0, S, n, h => Nat.le_refl _
  | k + 1, S, n, h => by
    unfold Go.Proofs.YthgefobcohlegaaGreatDoor.makeL
    cases hm : mkStep S now with
    | mk o f =>
      cases o with
      | none => exact Nat.le_refl _
      | some S' =>
        obtain ⟨h1, h2, _⟩ := h.step hm
        exact Nat.le_trans (makeL_cnt k S' (n + 1) h1) (Nat.le_of_lt h2)
theorem makeL_bl {Q : Prop} {E : List (Bs × (Int × Int))} {now : Int} : ∀ (k : Nat) (S : StM) (n : Nat), KInv Q S E → (makeL k S now n).1.B.length ≤ S.B.length + k
  | 0, S, n, h => Nat.le_refl _
  | k + 1, S, n, h => by
    unfold Go.Proofs.YthgefobcohlegaaGreatDoor.makeL
    cases hm : mkStep S now with
    | mk o f =>
      cases o with
      | none => exact Nat.le_add_right _ _
      | some S' =>
        obtain ⟨h1, _, _, _, _, h6⟩ := h.step hm
        have := makeL_bl (now := now) k S' (n + 1) h1
        dsimp only
        omega
/-- The first blocks are let go. -/
theorem KInv.drop {Q : Prop} {S : StM} {E : List (Bs × (Int × Int))} (h : KInv Q S E) (k : Nat) (d : Dk) : KInv False ⟨S.A, d, S.sp, S.kp, S.B.drop k⟩ [] :=
  ⟨h.sp1, h.srt, h.inv, h.n60, h.nm, h.vl, fun b hb => h.bk b (List.mem_of_mem_drop hb), h.asc.sublist (List.drop_sublist _ _), fun b hb => h.top b (List.mem_of_mem_drop hb), fun hq => hq.elim⟩
theorem KInv.weak {Q : Prop} {S : StM} {E : List (Bs × (Int × Int))} (h : KInv Q S E) : KInv False S [] := h.drop 0 S.d
theorem KInv.flush_any {Q : Prop} {S : StM} {E : List (Bs × (Int × Int))} (h : KInv Q S E) (now : Int) : KInv False (flushS S now).1 [] := by
  unfold flushS
  split
  · exact h.weak
  · exact (KInv.makeL (now := now) (hCount S.A + 1) S 0 h).1.drop _ _
theorem str_keep (A : List HA) (f t : Int) : keepR (stretchR A f t) = stretchR A f t := by
  unfold keepR stretchR
  rw [List.filter_filter]
  simp
/-- A stretch is always a block. -/
theorem KInv.mkok {Q : Prop} {S : StM} {E : List (Bs × (Int × Int))} (h : KInv Q S E) {f : Int} (hf : -1099511627776 ≤ f ∧ f ≤ 1099511627776)
    (hany : ¬ (stretchR S.A f (f + S.sp - 1)).any (fun r => decide (120 < r.2.length)) = true) : (makeR f S.sp (stretchR S.A f (f + S.sp - 1))).1.1 = 0 := by
  have hsp := h.sp1
  suffices hh : (stretchR S.A f (f + S.sp - 1)).length ≤ 60 ∧ RowsOk f (f + S.sp) (stretchR S.A f (f + S.sp - 1)) by rw [makeR_ok (by simp [bndB]; omega) hh.1 hh.2]
  refine ⟨?_, fun r hr => ?_, ?_⟩
  · exact Nat.le_trans (List.length_filter_le _ _) (by rw [List.length_map]; exact h.n60)
  · obtain ⟨h1, _⟩ := List.mem_filter.1 hr
    obtain ⟨z, hz, rfl⟩ := List.mem_map.1 h1
    have hpw : (betL f (f + S.sp - 1) z.2.1).Pairwise (fun p q => p.1 < q.1) := (h.inv z hz).1.sublist List.filter_sublist
    have hmem : ∀ p ∈ betL f (f + S.sp - 1) z.2.1, f ≤ p.1 ∧ p.1 ≤ f + S.sp - 1 ∧ p ∈ z.2.1 := fun p hp => by
      have h2 := (List.mem_filter.1 hp).2
      simp at h2
      exact ⟨h2.1, h2.2, betL_mem hp⟩
    refine ⟨(h.nm z hz).1, ptF_zero.2 ⟨?_, fun j hj => ?_⟩, ?_⟩
    · refine Nat.not_lt.1 fun hl => hany (List.any_eq_true.2 ⟨_, hr, ?_⟩)
      exact decide_eq_true hl
    · obtain ⟨l, hl⟩ : ∃ l, l = betL f (f + S.sp - 1) z.2.1 := ⟨_, rfl⟩
      dsimp only at hj ⊢
      rw [← hl] at hj hpw hmem ⊢
      have e1 : l.getD j (0, 0) = l[j] := getD_pt (List.getElem?_eq_getElem hj)
      have ht := ((h.inv z hz).2 _ (hmem _ (List.getElem_mem hj)).2.2).2
      refine ⟨?_, fun h0 => ?_⟩
      · rw [e1]
        simp [tickB] at ht
        exact ht
      · have hj1 : j - 1 < l.length := by omega
        have e2 : l.getD (j - 1) (0, 0) = l[j - 1] := getD_pt (List.getElem?_eq_getElem hj1)
        rw [e1, e2]
        exact List.pairwise_iff_getElem.1 hpw (j - 1) j hj1 hj (by omega)
    · unfold allIn
      rw [List.all_eq_true]
      intro p hp
      have := hmem p hp
      simp [outB]
      omega
  · have e : (S.A.map fun x => ((x.1, betL f (f + S.sp - 1) x.2.1) : Rw)).Pairwise (fun a b => a.1 < b.1) := by
      rw [List.pairwise_map]
      exact h.srt
    show ((stretchR S.A f (f + S.sp - 1)).map Prod.fst).Pairwise (· < ·)
    rw [List.pairwise_map]
    exact e.sublist List.filter_sublist
/-- What a head bears that walks ask for. -/
theorem KInv.hd {Q : Prop} {S : StM} {E : List (Bs × (Int × Int))} (h : KInv Q S E) (hc : hCount S.A ≤ 9000) {L : List HLn} (e : absL L = S.A) : HdOk L := by
  have hm : ∀ x ∈ L, (x.nm, x.pts, x.last) ∈ S.A := fun x hx => by rw [← e]; exact List.mem_map.2 ⟨x, hx, rfl⟩
  refine ⟨by have := h.n60; rw [← e] at this; unfold absL at this; rwa [List.length_map] at this, fun x hx => (h.nm _ (hm x hx)).2, fun x hx => Nat.le_trans (hCount_ge (hm x hx)) hc, fun x hx p hp => ?_⟩
  have h1 := (h.vl _ (hm x hx) p hp).1
  have h2 := ((h.inv _ (hm x hx)).2 p hp).2
  simp [tickB] at h2
  exact ⟨h1, h2.2⟩
theorem KInv.sok {Q : Prop} {S : StM} {E : List (Bs × (Int × Int))} (h : KInv Q S E) (hc : hCount S.A ≤ 9000) (hb : S.B.length ≤ 40) (hk : 1 ≤ S.kp ∧ S.kp ≤ 40) (hd : S.d.b.length ≤ 65536) : SOk S :=
  ⟨h.n60, fun x hx => (h.nm x hx).2, fun x hx => Nat.le_trans (hCount_ge hx) hc, fun x hx p hp => by
    have h1 := (h.vl x hx p hp).1
    have h2 := ((h.inv x hx).2 p hp).2
    simp [tickB] at h2
    exact ⟨h1, h2.2⟩, fun x hx p hp => (h.vl x hx p hp).2, hb, h.sp1, hk, hd⟩
end Go.Proofs.YthgefobcohlegaaGreatDoor
