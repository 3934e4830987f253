/- A store's log written anew. -/
import Derived.Test.YthgefobcohlegaaGreatDoorMkadX
import Derived.Test.YthgefobcohlegaaGreatDoorMkuX
import Derived.Test.YthgefobcohlegaaGreatDoorMkzX
import Derived.Test.YthgefobcohlegaaGreatDoorStMakeQX
import Derived.Test.YthgefobcohlegaaGreatDoorMkrX
import Derived.Test.YthgefobcohlegaaGreatDoorKeysX
namespace Go.Proofs.YthgefobcohlegaaGreatDoor
open Go.RowKit Go.Maps
set_option linter.unusedVariables false

/-- The log of some lines. -/
def logP (s : Bs) (l : List (Int × Int)) : List En := l.map fun p => ⟨s, p.1, p.2.toNat⟩
def logN (N : List HLn) : List En := N.flatMap fun x => logP x.nm x.pts
theorem logN_lns {L : List HLn} (h : HdOk L) : logOf (absL L) = logN (lnsOf L) := by
  have hb : ∀ x ∈ L, betL 0 1099511627776 x.pts = x.pts := fun x hx => h.bet hx
  clear h
  unfold logOf logN absL lnsOf
  rw [List.flatMap_map]
  induction L with
  | nil => rfl
  | cons x L ih =>
    rw [List.flatMap_cons, List.filter_cons, ih fun y hy => hb y (List.mem_cons_of_mem _ hy)]
    dsimp only
    rw [hb x List.mem_cons_self]
    by_cases hp : x.pts = []
    · rw [if_neg (by simp [hp]), hp]; rfl
    · rw [if_pos (by simpa using hp), List.flatMap_cons]; rfl
theorem logN_drop {N : List HLn} {k : Nat} {x : HLn} (h : N[k]? = some x) : logN (N.drop k) = logP x.nm x.pts ++ logN (N.drop (k + 1)) := by
  have hl := (List.getElem?_eq_some_iff.1 h).1
  rw [List.drop_eq_getElem_cons hl, (List.getElem?_eq_some_iff.1 h).2]
  rfl
theorem logP_drop {s : Bs} {l : List (Int × Int)} {k : Nat} {z : Int × Int} (h : l[k]? = some z) : logP s (l.drop k) = ⟨s, z.1, z.2.toNat⟩ :: logP s (l.drop (k + 1)) := by
  have hl := (List.getElem?_eq_some_iff.1 h).1
  rw [List.drop_eq_getElem_cons hl, (List.getElem?_eq_some_iff.1 h).2]
  rfl
theorem anewL_ok {d : Dk} {e : En} {l : List En} (h : (apF d e).1 = 0) : anewL d (e :: l) = anewL (apD d e) l := by rw [anewL, if_neg (fun x => x h)]
theorem anewL_bad {d : Dk} {e : En} {l : List En} (h : (apF d e).1 ≠ 0) : anewL d (e :: l) = (apD d e, apF d e) := by rw [anewL, if_pos h]
/-- While a log is written anew. -/
structure AnI (B q hb mb : Nat) (D : DataW Unit) (L : List HLn) (dq : Nat) (bv : Value) (Bl : List BkV) (S : StM) (G : Nat → Prop) (w wr : World) (dv : Value) (d : Dk) : Prop where
  st : StAt wr q hb mb D L dq dv bv Bl ⟨S.A, d, S.sp, S.kp, S.B⟩
  step : StStep w wr G (StS q hb mb L dq dv bv Bl)
  lo : ∀ k, StS q hb mb L dq dv bv Bl k → B ≤ k
  bel : Below B w wr
  len : d.b.length ≤ 65536
section
variable {B q hb mb : Nat} {D : DataW Unit} {L : List HLn} {dq : Nat} {bv : Value} {Bl : List BkV} {S : StM} {G : Nat → Prop} {w wr w' : World} {dv dv' : Value} {d d' : Dk}
theorem AnI.below (h : AnI B q hb mb D L dq bv Bl S G w wr dv d) (hB : B ≤ w.heap.size) (hb' : Below wr.heap.size wr w') : AnI B q hb mb D L dq bv Bl S G w w' dv d :=
  ⟨h.st.below hb', h.step.trans (StStep.below hb'), h.lo, Below.call h.bel hb' (Nat.le_trans hB h.bel.size), h.len⟩
theorem AnI.disk (h : AnI B q hb mb D L dq bv Bl S G w wr dv d) (hB : B ≤ w.heap.size) (hd : DStep wr w' dq dv dv' d') (hl : d'.b.length ≤ 65536) : AnI B q hb mb D L dq bv Bl S G w w' dv' d' := by
  obtain ⟨h1, h2⟩ := h.st.diskStep hd
  obtain ⟨h3, h4⟩ := h2.low h.lo (Nat.le_trans hB h.bel.size)
  exact ⟨h1, h.step.trans h2, h3, h.bel.trans h4, hl⟩
end
def SAnPost (es : Nat → Addr) (B q dq : Nat) (G : Nat → Prop) (S : StM) (w : World) (e : Ending) (w' : World) : Prop :=
  ∃ v, e = .returned v ∧ EV es w.heap.size w' v (anewD S.d S.A).2 ∧ StPost B q dq G w w' ⟨S.A, (anewD S.d S.A).1, S.sp, S.kp, S.B⟩
set_option maxRecDepth 100000 in
set_option maxHeartbeats 16000000 in
theorem sanew_any {es : Nat → Addr} {B q dq : Nat} {G : Nat → Prop} {S : StM} (w : World) (hW : StW es B w) (h : StI B w q dq G S) (hO : SOk S) :
    Calls Tryz.prog 37 #[.pointer (some ⟨q, 0, none⟩)] w (SAnPost es B q dq G S w) := by
  have HI := Lib.hid h
  obtain ⟨hb, mb, D, L, dv, bv, Bl, hSt, hG, hlo⟩ := h
  have hd := hO.hd hSt.ab
  have z1 : w.cell? ⟨q, 1, none⟩ = some (.pointer (some ⟨dq, 0, none⟩)) := hSt.hd.cell 1
  have HW := Lib.hid (fun W (hb' : Below B w W) => hW.below hb' (Nat.le_refl _))
  have HBB := Lib.hid hW.b0
  cases ho : S.d.off with
  | true =>
    have Hcl := Lib.hid (dclear_off w hSt.dk ho hW.wal.off)
    have Han := Lib.hid (show anewD S.d S.A = (S.d, (10, -1)) from if_pos ho)
    clear hW hSt hG hlo hO hd ho
    go_enter Tryz.func37, Tryz.ntmps37
    go_wp2_with fail
    refine Hcl.out.mono ?_
    rintro e w1 ⟨rfl, rfl⟩
    go_wp2
    go_ret
    refine ⟨_, rfl, ?_, ?_⟩
    · rw [Han.out]; exact EV.sent 9 (by decide)
    · rw [Han.out]; exact StPost.same HI.out (Below.refl _ _)
  | false =>
    have Hcl := Lib.hid (dclear_ok w hSt.dk ho)
    have Han := Lib.hid (show anewD S.d S.A = anewL ⟨[], false, S.d.cut⟩ (logN (lnsOf L)) by
      rw [← logN_lns hd, hSt.ab]; exact if_neg (by rw [ho]; decide))
    have H0 := Lib.hid (show AnI B q hb mb D L dq bv Bl S G w w dv S.d from ⟨hSt, by rw [hG]; exact StStep.below (Below.refl _ _), fun k hk => hlo k (by rw [hG]; exact hk), Below.refl _ _, hO.db⟩)
    have Hd := Lib.hid hd
    have Hvl := Lib.hid (show ∀ x ∈ L, ∀ p ∈ x.pts, 0 ≤ p.2 ∧ p.2 < 18446744073709551616 from fun x hx => hO.vl (x.nm, x.pts, x.last) (by rw [← hSt.ab]; exact List.mem_map.2 ⟨x, hx, rfl⟩))
    have hlen : (lnsOf L).length ≤ 60 := Nat.le_trans (lnsOf_len L) hd.n60
    have Hmem := Lib.hid (fun x (hx : x ∈ lnsOf L) => lnsOf_mem hx)
    have Hser := Lib.hid (fun W (hH : HeadAt W (HdS hb mb L) hb mb D L) => hseries_any W hH (by have := hd.n60; omega) (fun x hx => Nat.le_trans (hd.nm x hx) (by decide)))
    simp only [hSer_lns] at Hser
    clear hW hSt hG hlo hO hd ho
    obtain ⟨N, hN⟩ : ∃ N, N = lnsOf L := ⟨_, rfl⟩
    rw [← hN] at Hser hlen Hmem Han
    clear hN
    obtain ⟨n, hn⟩ : ∃ n, n = N.length := ⟨_, rfl⟩
    simp only [List.length_map, ← hn] at Hser
    rw [← hn] at hlen
    have Hn := Lib.hid hn
    clear hn
    obtain ⟨R, hR⟩ : ∃ R, R = anewD S.d S.A := ⟨_, rfl⟩
    rw [← hR] at Han
    have HR := Lib.hid hR
    clear hR
    go_enter Tryz.func37, Tryz.ntmps37
    go_wp2_with fail
    refine Hcl.out.mono ?_
    rintro e w1 ⟨rfl, hst⟩
    have H1 := Lib.hid (H0.out.disk HBB.out hst (Nat.zero_le _))
    have z0 : w1.cell? ⟨q, 0, none⟩ = some (.pointer (some ⟨hb, 0, none⟩)) := H1.out.st.hd.cell 0
    have Hsr := Lib.hid (Hser.out w1 H1.out.st.he)
    clear hst z1
    go_wp2_with fail
    refine Hsr.out.mono ?_
    rintro e w2 ⟨v2, rfl, hown2, hb2⟩
    obtain ⟨A2, c2, rfl, _, _, _⟩ := own_form hown2
    have e2 : txC (N.map (·.nm)) = N.map fun x : HLn => Value.string (B8 x.nm) := by unfold txC; rw [List.map_map]; rfl
    rw [e2] at hown2
    have HO2 := Lib.hid (own_base hown2 (Nat.zero_le _))
    have H2 := Lib.hid (H1.out.below HBB.out hb2)
    clear hown2 hb2 e2 z0
    go_wp2
    go_loopw [23] (fun iv wr => ∃ (k : Nat) (dv' : Value) (d' : Dk), k ≤ n ∧ iv = .int .i64 k ∧ AnI B q hb mb D L dq bv Bl S G w wr dv' d' ∧ wr.ownsRow 0 9 1 (.slice A2 n c2) n (N.map fun x : HLn => Value.string (B8 x.nm)) ∧ R = anewL d' (logN (N.drop k))) (fun iv _ => n - (intOf iv).toNat)
    case atStart => exact ⟨0, _, _, Nat.zero_le _, rfl, H2.out, HO2.out, by rw [List.drop_zero]; exact Han.out⟩
    case round =>
      obtain ⟨k, dv', d', hk, rfl, hA, hown, hR⟩ := hrel
      have HA := Lib.hid hA; have HOw := Lib.hid hown; have HRr := Lib.hid hR
      clear hR
      by_cases hkn : k < n
      · have hkn' : (k : Int) < n := by omega
        obtain ⟨bb, off, x, hAe, had, hx, e0⟩ := (Rd.of_own hown).at1 hkn
        have Hown := HOw
        subst hAe
        obtain ⟨hxL, hxp⟩ := Hmem.out x (List.mem_of_getElem? hx)
        have z0 : wr.cell? ⟨q, 0, none⟩ = some (.pointer (some ⟨hb, 0, none⟩)) := hA.st.hd.cell 0
        have Hpt := Lib.hid (hpoints_any x.nm 0 1099511627776 wr (Nat.le_trans (Hd.out.nm x hxL) (by decide)) hA.st.he (fun y hy => Nat.le_trans (Hd.out.pts y hy) (by decide)))
        rw [hA.st.he.pts_of hxL, Hd.out.bet hxL] at Hpt
        have HRk := Lib.hid (show R = anewL d' (logP x.nm x.pts ++ logN (N.drop (k + 1))) by rw [HRr.out, logN_drop hx])
        have Hxl := Lib.hid (show x.nm.length ≤ 100000 from Nat.le_trans (Hd.out.nm x hxL) (by decide))
        have Hxv := Lib.hid (Hvl.out x hxL)
        have h9 := Hd.out.pts x hxL
        obtain ⟨P, hP⟩ : ∃ P, P = x.pts := ⟨_, rfl⟩
        rw [← hP] at Hpt HRk Hxv h9
        obtain ⟨p, hp⟩ : ∃ p, p = P.length := ⟨_, rfl⟩
        rw [← hp] at Hpt h9
        have Hp := Lib.hid hp
        obtain ⟨s, hs⟩ : ∃ s, s = x.nm := ⟨_, rfl⟩
        rw [← hs] at Hpt HRk Hxl e0
        obtain ⟨sn, hsn⟩ : ∃ sn, sn = B8 s := ⟨_, rfl⟩
        rw [← hsn] at Hpt e0
        have Hsn := Lib.hid hsn
        clear hA hown hx hxL hxp hP hp hs hsn
        go_wp2_with fail
        refine Hpt.out.mono ?_
        rintro e w3 ⟨v3, rfl, hown3, hb3⟩
        obtain ⟨A3, c3, rfl, _, _, _⟩ := own_form hown3
        have HA3 := Lib.hid (HA.out.below HBB.out hb3)
        have HO3 := Lib.hid (own_base hown3 (Nat.zero_le _))
        have HN3 := Lib.hid (own_below HOw.out hb3 (Nat.le_refl _))
        clear hown3 hb3 z0 e0
        go_wp2
        go_loopw [34] (fun iv wr2 => ∃ (j : Nat) (dv2 : Value) (d2 : Dk), j ≤ p ∧ iv = .int .i64 j ∧ AnI B q hb mb D L dq bv Bl S G w wr2 dv2 d2 ∧ wr2.ownsRow 0 9 1 (.slice (some ⟨bb, off, none⟩) n c2) n (N.map fun x : HLn => Value.string (B8 x.nm)) ∧ wr2.ownsRow 0 39 2 (.slice A3 p c3) p (ptsC P) ∧ R = anewL d2 (logP s (P.drop j) ++ logN (N.drop (k + 1)))) (fun iv _ => p - (intOf iv).toNat)
        case atStart => exact ⟨0, _, _, Nat.zero_le _, rfl, HA3.out, HN3.out, HO3.out, by rw [List.drop_zero]; exact HRk.out⟩
        case round =>
          obtain ⟨j, dv2, d2, hj, rfl, hA2, hown2, hown3, hR2⟩ := hrel
          have HA2 := Lib.hid hA2; have HOw2 := Lib.hid hown2; have HOw3 := Lib.hid hown3; have HR2 := Lib.hid hR2
          clear hR2
          by_cases hjp : j < p
          · have hjp' : (j : Int) < p := by omega
            obtain ⟨b3, o3, z, hA3e, had3, hz, y0, y1⟩ := (Rd.of_own hown3).at2 hjp
            subst hA3e
            have hzv := Hxv.out z (List.mem_of_getElem? hz)
            have HRz := Lib.hid (show R = anewL d2 (⟨s, z.1, z.2.toNat⟩ :: (logP s (P.drop (j + 1)) ++ logN (N.drop (k + 1)))) by rw [HR2.out, logP_drop hz]; rfl)
            have hba : Below wr.heap.size wr (wr.alloc (.cells #[.int .i64 z.1, .int .u64 z.2] 39)) := Below.alloc (Below.refl _ _) (Nat.le_refl _) _
            have hka := Blk.new wr 39 #[.int .i64 z.1, .int .u64 z.2]
            have HAd := Lib.hid (HA2.out.below HBB.out hba.drew)
            have HNd := Lib.hid (own_below HOw2.out hba.drew (Nat.le_refl _))
            have HPd := Lib.hid (own_below HOw3.out hba.drew (Nat.le_refl _))
            have HKd := Lib.hid hka.drew
            have Hap := Lib.hid (show Calls Tryz.prog 29 #[.pointer (some ⟨dq, 0, none⟩), .string (B8 s), .agg #[.int .i64 z.1, .int .u64 z.2]] (wr.alloc (.cells #[.int .i64 z.1, .int .u64 z.2] 39)).drew (APost es dq dv2 d2 ⟨s, z.1, z.2.toNat⟩ (wr.alloc (.cells #[.int .i64 z.1, .int .u64 z.2] 39)).drew) from by
              have e : ((z.2.toNat : Nat) : Int) = z.2 := Int.toNat_of_nonneg hzv.1
              have := dappend_any ⟨s, z.1, z.2.toNat⟩ _ (HW.out _ HAd.out.bel).wal (HW.out _ HAd.out.bel).b0 HAd.out.st.dk (StAt.dlo HAd.out.lo) HAd.out.len Hxl.out (show z.2.toNat < 18446744073709551616 by omega)
              rw [show (((⟨s, z.1, z.2.toNat⟩ : En).bit : Nat) : Int) = z.2 from e] at this
              exact this)
            have Hc := Lib.hid (show (wr.alloc (.cells #[.int .i64 z.1, .int .u64 z.2] 39)).drew.cell? ⟨q, 1, none⟩ = some (.pointer (some ⟨dq, 0, none⟩)) ∧ (wr.alloc (.cells #[.int .i64 z.1, .int .u64 z.2] 39)).drew.cell? ⟨wr.heap.size, 0, none⟩ = some (.int .i64 z.1) ∧ (wr.alloc (.cells #[.int .i64 z.1, .int .u64 z.2] 39)).drew.cell? ⟨wr.heap.size, 1, none⟩ = some (.int .u64 z.2) from ⟨HAd.out.st.hd.cell 1, hka.drew.cell 0, hka.drew.cell 1⟩)
            have Hws := Lib.hid (show w.heap.size ≤ (wr.alloc (.cells #[.int .i64 z.1, .int .u64 z.2] 39)).drew.heap.size from HAd.out.bel.size)
            rw [← Hsn.out] at Hap
            obtain ⟨en, hen⟩ : ∃ en : En, en = ⟨s, z.1, z.2.toNat⟩ := ⟨_, rfl⟩
            rw [← hen] at Hap HRz
            clear hA2 hown2 hown3 hz hba hka had3 hzv hen
            go_wp2
            go_region_held3 (fun w' => w'.cell? ⟨q, 1, none⟩ = some (.pointer (some ⟨dq, 0, none⟩)) ∧ w'.cell? ⟨wr.heap.size, 0, none⟩ = some (.int .i64 z.1) ∧ w'.cell? ⟨wr.heap.size, 1, none⟩ = some (.int .u64 z.2))
              (first | with_reducible exact Hc.out | with_reducible exact H6c.out | exact Hc.out)
              (first | (go_at_call 29; (with_reducible refine Hap.out.mono ?_); rintro e6 w6 ⟨v6, rfl, hev6, dv6, hst6⟩; have HA6 := Lib.hid (HAd.out.disk HBB.out hst6 (apD_len HAd.out.len en)); have HN6 := Lib.hid (DStep.own HAd.out.st.dk hst6 HNd.out (by decide) (by decide)); have HP6 := Lib.hid (DStep.own HAd.out.st.dk hst6 HPd.out (by decide) (by decide)); have HE6 := Lib.hid (show EV es w.heap.size w6 v6 (apF d2 en) from hev6.base Hws.out); have HK6 := DStep.blk HAd.out.st.dk hst6 HKd.out (by decide) (by decide); have H6c := Lib.hid (show w6.cell? ⟨q, 1, none⟩ = some (.pointer (some ⟨dq, 0, none⟩)) ∧ w6.cell? ⟨wr.heap.size, 0, none⟩ = some (.int .i64 z.1) ∧ w6.cell? ⟨wr.heap.size, 1, none⟩ = some (.int .u64 z.2) from ⟨HA6.out.st.hd.cell 1, HK6.cell 0, HK6.cell 1⟩); clear hev6 hst6 HK6))
            all_goals
              by_cases h6 : (apF d2 en).1 = 0
              · obtain rfl := HE6.out.zero h6
                have HRn := Lib.hid (show R = anewL (apD d2 en) (logP s (P.drop (j + 1)) ++ logN (N.drop (k + 1))) by rw [HRz.out, anewL_ok h6])
                clear h6
                go_wp2
                go_roundw
                case rel => exact ⟨j + 1, dv6, apD d2 en, by omega, by go_num, HA6.out, HN6.out, HP6.out, HRn.out⟩
                case measure => simp [intOf]; omega
              · obtain ⟨t5, p5, rfl⟩ := HE6.out.pos h6
                have HRn := Lib.hid (show R = (apD d2 en, apF d2 en) by rw [HRz.out, anewL_bad h6])
                clear h6
                go_wp2
                go_ret
                refine ⟨_, rfl, ?_, ?_⟩
                · rw [← HR.out, HRn.out]; exact HE6.out
                · rw [← HR.out, HRn.out]; exact ⟨_, HA6.out.st.toI HA6.out.lo, HA6.out.step⟩
          · obtain rfl : j = p := by omega
            have hjp' : ¬ (j : Int) < j := by omega
            have HRe := Lib.hid (show R = anewL d2 (logN (N.drop (k + 1))) by rw [HR2.out, List.drop_of_length_le (by rw [Hp.out]; exact Nat.le_refl _)]; rfl)
            clear hA2 hown2 hown3
            go_wp2
            go_roundw
            case rel => exact ⟨k + 1, dv2, d2, by omega, by go_num, HA2.out, HOw2.out, HRe.out⟩
            case measure => simp [intOf]; omega
      · obtain rfl : k = n := by omega
        have hkn' : ¬ (k : Int) < k := by omega
        have HRe := Lib.hid (show R = (d', (0, -1)) by rw [HRr.out, List.drop_of_length_le (by rw [Hn.out]; exact Nat.le_refl _)]; rfl)
        clear hA hown
        go_wp2
        go_ret
        refine ⟨_, rfl, ?_, ?_⟩
        · rw [← HR.out, HRe.out]; exact EV.nil
        · rw [← HR.out, HRe.out]; exact ⟨_, HA.out.st.toI HA.out.lo, HA.out.step⟩
end Go.Proofs.YthgefobcohlegaaGreatDoor

namespace Go.Proofs.YthgefobcohlegaaGreatDoor
open Go.RowKit Go.Maps
set_option linter.unusedVariables false

def SFlPost (es : Nat → Addr) (B q dq : Nat) (G : Nat → Prop) (R : StM × (Nat × (Nat × Int))) (w : World) (e : Ending) (w' : World) : Prop :=
  ∃ v, e = .returned (.tuple #[.int .i64 (R.2.1 : Int), v]) ∧ EV es w.heap.size w' v R.2.2 ∧ StPost B q dq G w w' R.1
theorem anewD_code {d : Dk} {A : List HA} {es : Nat → Addr} {B : Nat} {W : World} {v : Value} (h : EV es B W v (anewD d A).2) (h0 : (anewD d A).2.1 = 0) : (anewD d A).2 = (0, -1) := by
  obtain rfl := h.zero h0
  exact h.nilc
/-- What flushing leaves, by its parts. -/
theorem flushS_of {S T : StM} {now : Int} {n : Nat} {f : Nat × Int} {m : Nat} (hnow : ¬ (now < -1099511627776 ∨ 1099511627776 < now)) (hR : makeL (hCount S.A + 1) S now 0 = (T, n, f)) (hm : m = T.B.length - T.kp.toNat) :
    flushS S now = (⟨T.A, (anewD T.d T.A).1, T.sp, T.kp, T.B.drop m⟩, (if f.1 = 0 ∧ (anewD T.d T.A).2.1 = 0 then n else 0), if f.1 = 0 then (anewD T.d T.A).2 else f) := by
  unfold flushS
  rw [if_neg hnow, hR, hm]
theorem cutBk {w : World} {A : Option Addr} {n c m : Nat} {Bl : List BkV} (h : Rd w w.heap.size 4 A n (bkC Bl)) (hm : m ≤ n) (hc : n ≤ c) : Rd w w.heap.size 4 (if c = m then A else A.map (·.add (m * 4))) (n - m) (bkC (Bl.drop m)) := by
  have h := h.cut hm hc
  rw [show (bkC Bl).drop (m * 4) = bkC (Bl.drop m) from flat_drop (fun b : BkV => [Value.int .i64 b.fr, .int .i64 b.sp, .slice b.A b.rows.length b.a, .slice b.C b.rows.length b.c]) 4 (fun _ => rfl) Bl m] at h
  exact h
/-- The store's blocks are copied but for the first m. -/
theorem StAt.keep {w w2 : World} {q hb mb : Nat} {D : DataW Unit} {L : List HLn} {dq : Nat} {dv bv v2 : Value} {Bl : List BkV} {S : StM} {m : Nat} (h : StAt w q hb mb D L dq dv bv Bl S) (hb2 : Below w.heap.size w w2)
    (ho : w2.ownsRow w.heap.size 85 4 v2 (Bl.drop m).length (bkC (Bl.drop m))) :
    StAt (w2.setCell ⟨q, 4, none⟩ v2) q hb mb D L dq dv v2 (Bl.drop m) ⟨S.A, S.d, S.sp, S.kp, S.B.drop m⟩ ∧ StStep w (w2.setCell ⟨q, 4, none⟩ v2) (StS q hb mb L dq dv bv Bl) (StS q hb mb L dq dv v2 (Bl.drop m)) := by
  have h2 := h.below hb2
  have hfs : Fr (fun k => k = q) w2 (w2.setCell ⟨q, 4, none⟩ v2) := fr_set w2 q 4 v2
  have hoS : Odd (fun k => k = q) w2 [85, 9] := Odd.of_blk h2.hd (by decide)
  have hbl : BksAt w2 v2 (Bl.drop m) := ⟨own_base ho (Nat.zero_le _), fun b hb => h2.bl.bk b (List.mem_of_mem_drop hb)⟩
  refine h.turn (((Fr.ofBel hb2).mono (fun _ _ h => h.elim)).trans hfs (fun _ _ h => .inl h)) (h2.hd.set_ 4 v2) (hbl.fr hfs hoS) (by rw [List.map_drop, h.bm]) (fun k hk => ?_)
  rcases hk with hk | ⟨b, hb', hk⟩
  · exact .inr (own_lt ho k hk).1
  · exact .inl (.inr ⟨b, List.mem_of_mem_drop hb', hk⟩)
set_option maxRecDepth 100000 in
set_option maxHeartbeats 8000000 in
theorem sflush_any {es : Nat → Addr} {B q dq : Nat} {G : Nat → Prop} {S : StM} (now : Int) (w : World) (hW : StW es B w) (h : StI B w q dq G S) (hK : KInv False S []) (hc : hCount S.A ≤ 9000) (hb : S.B.length ≤ 40) (hkp : 1 ≤ S.kp ∧ S.kp ≤ 40) (hdb : S.d.b.length ≤ 65536) :
    Calls Tryz.prog 14 #[.pointer (some ⟨q, 0, none⟩), .int .i64 now] w (SFlPost es B q dq G (flushS S now) w) := by
  have g1 : w.cell? ⟨0, 0, none⟩ = some (sentV (es 1)) := hW.wal.svl.var 1 (by decide)
  by_cases hnow : now < -1099511627776 ∨ 1099511627776 < now
  · have Hf := Lib.hid (show flushS S now = (S, 0, (2, -1)) from if_pos hnow)
    have Hfin := Lib.hid (fun w' (hb : Below w.heap.size w w') => show SFlPost es B q dq G (flushS S now) w (.returned (.tuple #[.int .i64 0, sentV (es 1)])) w' from by
      rw [Hf.out]; exact ⟨_, rfl, EV.sent 1 (by decide), StPost.same h hb⟩)
    clear hW h hK hc hb hkp hdb
    rcases hnow with h1 | h1
    · go_enter Tryz.func14, Tryz.ntmps14
      go_wp2
      go_quiet (fail)
      go_wp2
      go_ret2
      exact Hfin.out _ (Below.drewN (Below.refl _ _) _)
    · have h2 : ¬ now < -1099511627776 := by omega
      go_enter Tryz.func14, Tryz.ntmps14
      go_wp2
      go_quiet (fail)
      go_wp2
      go_ret2
      exact Hfin.out _ (Below.drewN (Below.refl _ _) _)
  have hn1 : ¬ now < -1099511627776 := by omega
  have hn2 : ¬ 1099511627776 < now := by omega
  obtain ⟨⟨T, n, f⟩, hR⟩ : ∃ R, R = makeL (hCount S.A + 1) S now 0 := ⟨_, rfl⟩
  have Hmk := Lib.hid (smake_any now w hW h hK hc hb ⟨by omega, by omega⟩)
  rw [← hR] at Hmk
  obtain ⟨kt1, kt2, kt3, kt4⟩ := KInv.makeL (now := now) (hCount S.A + 1) S 0 hK
  have kt5 := makeL_cnt (now := now) (hCount S.A + 1) S 0 hK
  rw [← hR] at kt1 kt2 kt3 kt4 kt5
  dsimp only at kt1 kt2 kt3 kt4 kt5
  obtain ⟨kn, hkn⟩ : ∃ kn : Nat, S.kp = kn := ⟨S.kp.toNat, by omega⟩
  have hT : flushS S now = (⟨T.A, (anewD T.d T.A).1, T.sp, T.kp, T.B.drop (T.B.length - kn)⟩, (if f.1 = 0 ∧ (anewD T.d T.A).2.1 = 0 then n else 0), if f.1 = 0 then (anewD T.d T.A).2 else f) :=
    flushS_of hnow hR.symm (by rw [kt4, hkn]; rfl)
  obtain ⟨FR, hFR⟩ : ∃ FR, FR = flushS S now := ⟨_, rfl⟩
  rw [← hFR] at hT ⊢
  clear hFR
  obtain ⟨m, hm⟩ : ∃ m, m = T.B.length - kn := ⟨_, rfl⟩
  rw [← hm] at hT
  have HFR := Lib.hid hT
  have HKT := Lib.hid kt1
  have HSok := Lib.hid (show SOk ⟨T.A, T.d, T.sp, T.kp, T.B.drop m⟩ from (kt1.drop m T.d).sok (Nat.le_trans kt5 hc) (by show (T.B.drop m).length ≤ 40; rw [List.length_drop]; omega) (by show 1 ≤ T.kp ∧ T.kp ≤ 40; rw [kt4]; exact hkp) (by show T.d.b.length ≤ 65536; rw [kt2]; exact hdb))
  have HW := Lib.hid (fun W (hb' : Below B w W) => hW.below hb' (Nat.le_refl _))
  have HBB := Lib.hid hW.b0
  have Hlo := Lib.hid (show ∀ k, G k → B ≤ k by obtain ⟨_, _, _, _, _, _, _, _, _, h3⟩ := h; exact h3)
  have Hkt4 := Lib.hid (kt4.trans hkn)
  have Hm := Lib.hid hm
  have hkn1 : 1 ≤ kn ∧ kn ≤ 40 := by omega
  have Han := Lib.hid (fun W (G2 : Nat → Prop) (hI : StI B W q dq G2 ⟨T.A, T.d, T.sp, T.kp, T.B.drop m⟩) (hs : StStep w W G G2) => show Calls Tryz.prog 37 #[.pointer (some ⟨q, 0, none⟩)] W fun e w' => ∃ v, e = .returned v ∧ EV es w.heap.size w' v (anewD T.d T.A).2 ∧ StPost B q dq G w w' ⟨T.A, (anewD T.d T.A).1, T.sp, T.kp, T.B.drop m⟩ from by
    refine (sanew_any W (HW.out W (hs.low Hlo.out HBB.out).2) hI HSok.out).mono ?_
    rintro e w' ⟨v, rfl, hev, G3, hI3, hs3⟩
    exact ⟨v, rfl, hev.base hs.fr.size, G3, hI3, hs.trans hs3⟩)
  have htb := makeL_bl (now := now) (hCount S.A + 1) S 0 hK
  rw [← hR] at htb
  dsimp only at htb
  have HTB := Lib.hid (show T.B.length ≤ 9041 by omega)
  clear hW h hK hc hb hkp hdb hR kt1 kt2 kt3 kt4 kt5 hkn hT hm g1 htb
  go_enter Tryz.func14, Tryz.ntmps14
  go_wp2_with fail
  refine Hmk.out.mono ?_
  rintro e w1 ⟨v1, rfl, hv1, G1, hI1, hs1⟩
  obtain ⟨hb, mb, D, L, dv, bv, Bl, hSt, hG1, hlo1⟩ := hI1
  have HSt := Lib.hid hSt
  have HG1 := Lib.hid hG1
  have Hs1 := Lib.hid hs1
  have Hv1 := Lib.hid hv1
  have hnbl : Bl.length = T.B.length := by rw [← hSt.bm, List.length_map]
  obtain ⟨Ab, cb, hbv, hcb, _, hrb⟩ := own_form hSt.bl.own
  have z3 : w1.cell? ⟨q, 3, none⟩ = some (.int .i64 (kn : Int)) := by rw [← Hkt4.out]; exact hSt.hd.cell 3
  have z4 : w1.cell? ⟨q, 4, none⟩ = some (.slice Ab Bl.length cb) := by rw [← hbv]; exact hSt.hd.cell 4
  obtain ⟨nb, hnb⟩ : ∃ nb, nb = Bl.length := ⟨_, rfl⟩
  have htb := HTB.out
  have hmb := Hm.out
  rw [← hnbl, ← hnb] at htb hmb
  rw [← hnb] at z4 hcb hrb
  have Hnb := Lib.hid hnb
  clear hSt hG1 hlo1 hs1 hv1 hnb hnbl
  by_cases hk : kn < nb
  case' pos =>
    obtain ⟨gb, o1, hAb, _, _⟩ := hrb.2 (by omega)
    subst hAb
    have hwr : IntKind.i64.wrap ((nb : Int) - (kn : Int)) = (m : Int) := by rw [IntKind.wrap_i64]; omega
    have hm0 : (0 : Int) < (m : Int) := by omega
    have hmn : m < nb := by omega
    have Hcl := Lib.hid (fun k => cloneBk_any (some ⟨gb, o1 + m * 4, none⟩) (nb - m) (cb - m) (bkC (Bl.drop m)) (w1.drewN k) (by
      have hb2 : Below w1.heap.size w1 (w1.drewN k) := Below.drewN (Below.refl _ _) k
      have h := cutBk (m := m) ((hrb.below hb2).more hb2.size) (by omega) hcb
      rw [if_neg (by omega), Option.map_some, add_at] at h
      exact h) (bkC_one _) (by omega))
    have Hkeep := Lib.hid (fun w2 v2 (hb2 : Below w1.heap.size w1 w2) (ho : w2.ownsRow w1.heap.size 85 4 v2 (nb - m) (bkC (Bl.drop m))) => HSt.out.keep (m := m) hb2 (by rw [List.length_drop, ← Hnb.out]; exact ho))
    have Hbv := Lib.hid hbv
    have hmc : m ≤ cb := by omega
    clear hrb hbv hmb
    go_wp2
    go_quiet (fail)
    go_wp2_with fail
    refine (Hcl.out _).mono ?_
    rintro e w2 ⟨v2, rfl, hown2, hb2⟩
    obtain ⟨A2, c2, rfl, _, _, _⟩ := own_form hown2
    have HB2 := Lib.hid (show Below w1.heap.size w1 w2 from Below.call (Below.drewN (Below.refl w1.heap.size w1) _) hb2 (Nat.le_refl _))
    have HK2 := Lib.hid (Hkeep.out w2 _ HB2.out hown2)
    have Hq2 := Lib.hid ((HSt.out.below HB2.out).hd)
    have y4 : w2.cell? ⟨q, 4, none⟩ = some (.slice (some ⟨gb, o1, none⟩) nb cb) := by rw [Hnb.out, ← Hbv.out]; exact Hq2.out.cell 4
    have f4 : w2.frozen? ⟨q, 4, none⟩ = false := Hq2.out.frozen 4
    have HT2 := Lib.hid (show StI B (w2.setCell ⟨q, 4, none⟩ (.slice A2 (nb - m) c2)) q dq (StS q hb mb L dq dv (.slice A2 (nb - m) c2) (Bl.drop m)) ⟨T.A, T.d, T.sp, T.kp, T.B.drop m⟩ ∧ StStep w (w2.setCell ⟨q, 4, none⟩ (.slice A2 (nb - m) c2)) G (StS q hb mb L dq dv (.slice A2 (nb - m) c2) (Bl.drop m)) from by
      have h1 := Hs1.out
      rw [HG1.out] at h1
      have h2 := h1.trans HK2.out.2
      exact ⟨HK2.out.1.toI (h2.low Hlo.out HBB.out).1, h2⟩)
    clear hown2 hb2
    go_wp2_with fail
    refine (Han.out _ _ HT2.out.1 HT2.out.2).mono ?_
  case' neg =>
    have hwr : IntKind.i64.wrap ((nb : Int) - (kn : Int)) = (nb : Int) - (kn : Int) := by rw [IntKind.wrap_i64]; omega
    have hm0 : ¬ (0 : Int) < (nb : Int) - (kn : Int) := by omega
    have HT2 := Lib.hid (fun k => show StI B (w1.drewN k) q dq G1 ⟨T.A, T.d, T.sp, T.kp, T.B.drop m⟩ ∧ StStep w (w1.drewN k) G G1 from by
      have e : T.B.drop m = T.B := by rw [show m = 0 by omega]; rfl
      rw [e]
      have hb2 : Below w1.heap.size w1 (w1.drewN k) := Below.drewN (Below.refl _ _) k
      exact ⟨⟨hb, mb, D, L, dv, bv, Bl, HSt.out.below hb2, HG1.out, fun j hj => (Hs1.out.low Hlo.out HBB.out).1 j hj⟩, Hs1.out.trans (StStep.below hb2)⟩)
    clear hrb hbv
    go_wp2
    go_quiet (fail)
    go_wp2_with fail
    refine (Han.out _ _ (HT2.out _).1 (HT2.out _).2).mono ?_
  all_goals
    rintro e w4 ⟨v4, rfl, hev4, hst4⟩
    have HE4 := Lib.hid hev4
    have HS4 := Lib.hid hst4
    clear hev4 hst4
    rcases Hv1.out with ⟨hf, rfl⟩ | ⟨hf, rfl⟩
    · have Hf := Lib.hid hf
      clear hf
      by_cases ha : (anewD T.d T.A).2.1 = 0
      · obtain rfl := HE4.out.zero ha
        have Ha := Lib.hid (anewD_code HE4.out ha)
        clear ha
        go_wp2
        go_ret2
        rw [HFR.out, Hf.out]
        exact ⟨_, by rw [if_pos ⟨rfl, by rw [Ha.out]⟩]; rfl, by rw [if_pos rfl]; exact HE4.out, HS4.out⟩
      · obtain ⟨ty, pv, rfl⟩ := HE4.out.pos ha
        have Ha := Lib.hid ha
        clear ha
        go_wp2
        go_ret2
        rw [HFR.out, Hf.out]
        exact ⟨_, by rw [if_neg (fun h => Ha.out h.2)]; rfl, by rw [if_pos rfl]; exact HE4.out, HS4.out⟩
    · have Hf := Lib.hid hf
      clear hf
      go_wp2
      go_ret2
      rw [HFR.out, Hf.out]
      exact ⟨_, by rw [if_neg (fun h => Nat.noConfusion (show (7 : Nat) = 0 from h.1))]; rfl, by dsimp only; rw [if_neg (show ¬ (7 : Nat) = 0 by decide)]; exact EV.sent 6 (by decide), HS4.out⟩
end Go.Proofs.YthgefobcohlegaaGreatDoor

namespace Go.Proofs
open Go.RowKit Go.Maps Go.Sort Go.Shelf
theorem Tryz.sortsB (m : Nat) : AnyZ.SortsIn Tryz.prog Tryz.sorted57_ren Fence.wide m :=
  ⟨fun blk off cap ss W hH hblk hsz => callsIn_wide.2 (AnyM.slices_Sort_string Tryz.sort85 blk off cap ss W hH hblk hsz),
   fun p cap W => callsIn_wide.2 (AnyM.slices_Sort_string_none Tryz.sort85 p cap W)⟩
theorem Tryz.mapsKeysB (mb : Option Nat) (W : World) : Calls Tryz.prog 58 #[.map mb] W fun e w' => e = .returned (.func (.func 86) #[] #[.pointer (some ⟨W.heap.size, 0, none⟩)]) ∧ w' = W.alloc (.cells #[.map mb] 129) :=
  callsIn_wide.1 (AnyZ.keys_in Tryz.keys58 Fence.wide 5 trivial rfl mb W)
set_option maxHeartbeats 1000000 in
theorem Tryz.sortedKeysB {H : Type} (b nn : Nat) (D0 : DataW H) (R : Value → Option (DataW H × List MemPlace)) (w : World) (hown : w.ownsMap Tryz.prog 9 R b nn D0) (hmax : Maps.size D0 ≤ maxLen) (hbytes : Maps.size D0 * 16 ≤ 140737488355328) :
    Calls Tryz.prog 57 #[.func (.func 86) #[] #[.pointer (some ⟨w.heap.size, 0, none⟩)]] (w.alloc (.cells #[.map (some b)] 129)) fun e w' => ∃ (v : Value) (ss : List (List UInt8)), e = .returned v ∧ ss.Perm (strKeys D0) ∧
      w'.ownsRow (w.alloc (.cells #[.map (some b)] 129)).heap.size 9 1 v ss.length ((ss.mergeSort (fun x y => decide (x ≤ y))).map encStr) ∧ (v = .slice none 0 0 ↔ ss = []) ∧ Below (w.alloc (.cells #[.map (some b)] 129)).heap.size (w.alloc (.cells #[.map (some b)] 129)) w' := by
  refine (callsIn_wide (n := 5)).1 ?_
  have hbl := hown.lt
  have hseq : SeqGives Fence.wide 2 Tryz.prog 86 #[.pointer (some ⟨w.heap.size, 0, none⟩)] encStr (fun ss => ss.Perm (strKeys D0)) (Maps.size D0) (w.alloc (.cells #[.map (some b)] 129)) :=
    AnyZ.keys_gives (ρ := Tryz.keys58_ren) { Tryz.keys58 with } Fence.wide _ trivial rfl (by omega) w.heap.size b nn D0 _ (by simp) (by simp) (by
      obtain ⟨es, clock, hb, Ft, hs, hD⟩ := hown
      exact ⟨es, clock, (Below.heap_alloc _ _ b hbl).trans hb, Ft, hs, hD⟩)
  exact AnyZ.sorted_in Tryz.sorted57 Fence.wide 5 trivial trivial trivial trivial rfl (by omega) (Tryz.sortsB _) (enters_of Tryz.func85 (by kernel_rfl) rfl) 86 #[.pointer (some ⟨w.heap.size, 0, none⟩)] trivial (enters_of Tryz.func86 (by kernel_rfl) rfl) _ _ hmax hbytes _ hseq
end Go.Proofs
