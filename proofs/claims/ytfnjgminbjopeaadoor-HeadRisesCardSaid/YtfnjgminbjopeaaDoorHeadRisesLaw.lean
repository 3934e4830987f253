/- HeadRises by its contract: it returns true. -/
import Derived.Test.YtfnjgminbjopeaaDoorHeaded
import Derived.Test.YtfnjgminbjopeaaDoorHeadInv
import Derived.Test.YtfnjgminbjopeaaDoorActs
namespace Go.Proofs.YtfnjgminbjopeaaDoor
open Go.RowKit Go.Maps
set_option linter.unusedVariables false

/-- Lines that have points. -/
def hNE (A : List HA) : List HA := A.filter fun x => decide (x.2.1 ≠ [])
def cntTo (E : List HA) (k : Nat) : Nat := ((E.take k).map fun x => x.2.1.length).sum
theorem cntTo_snoc {E : List HA} {k : Nat} {x : HA} (h : E[k]? = some x) : cntTo E (k + 1) = cntTo E k + x.2.1.length := by
  unfold cntTo
  rw [List.take_add_one, h, List.map_append, List.sum_append]
  simp
theorem cntTo_all (A : List HA) : cntTo (hNE A) (hNE A).length = hCount A := by
  unfold cntTo
  rw [List.take_length, count_series]; rfl
theorem len_le_count {A : List HA} {x : HA} (h : x ∈ A) : x.2.1.length ≤ hCount A := by
  induction A with
  | nil => cases h
  | cons a A ih =>
    rw [hCount_cons]
    rcases List.mem_cons.1 h with rfl | h
    · omega
    · have := ih h; omega
theorem ne_srt {A : List HA} (h : hSrt A) : hSrt (hNE A) := List.Pairwise.sublist List.filter_sublist h
theorem srt_at {E : List HA} (h : hSrt E) {k : Nat} {x y : HA} (hx : E[k]? = some x) (hy : E[k + 1]? = some y) : leS y.1 x.1 = false := by
  obtain ⟨h1, rfl⟩ := List.getElem?_eq_some_iff.1 hx
  obtain ⟨h2, rfl⟩ := List.getElem?_eq_some_iff.1 hy
  have := List.pairwise_iff_getElem.1 h k (k + 1) h1 h2 (by omega)
  unfold leS
  rw [bytesLess_lt, Bool.or_eq_false_iff]
  refine ⟨decide_eq_false (lt_asymm_bs this), ?_⟩
  have hne : E[k + 1].1 ≠ E[k].1 := fun e => by rw [e] at this; exact lt_irrefl_bs _ this
  simpa using hne
theorem pts_at {l : List (Int × Int)} (h : l.Pairwise fun p q => p.1 < q.1) {i : Nat} {p q : Int × Int} (hp : l[i]? = some p) (hq : l[i + 1]? = some q) : p.1 < q.1 := by
  obtain ⟨h1, rfl⟩ := List.getElem?_eq_some_iff.1 hp
  obtain ⟨h2, rfl⟩ := List.getElem?_eq_some_iff.1 hq
  exact List.pairwise_iff_getElem.1 h i (i + 1) h1 h2 (by omega)
def rowsTo (R : List (Bs × List (Int × Int))) (k : Nat) : Nat := rowsCnt (R.take k)
theorem rowsTo_snoc {R : List (Bs × List (Int × Int))} {k : Nat} {r : Bs × List (Int × Int)} (h : R[k]? = some r) : rowsTo R (k + 1) = rowsTo R k + r.2.length := by
  unfold rowsTo rowsCnt
  rw [List.take_add_one, h, List.map_append, List.sum_append]
  simp
theorem rowsTo_le (R : List (Bs × List (Int × Int))) (k : Nat) : rowsTo R k ≤ rowsCnt R := by
  unfold rowsTo rowsCnt
  conv => rhs; rw [← List.take_append_drop k R, List.map_append, List.sum_append]
  omega
/-- What holds of a head while acts are added. -/
structure HRst (A : List HA) (k m : Nat) : Prop where
  inv : HInv A
  srt : hSrt A
  cnt : hCount A = m
  le : m ≤ k
  len : A.length ≤ 60
  nm : ∀ x ∈ A, x.1.length ≤ 200
theorem HRst.nil : HRst [] 0 0 := ⟨HInv.nil, List.Pairwise.nil, rfl, Nat.le_refl _, by simp, fun x h => by cases h⟩
theorem HRst.skip {A : List HA} {k m : Nat} (h : HRst A k m) : HRst A (k + 1) m := ⟨h.inv, h.srt, h.cnt, Nat.le_succ_of_le h.le, h.len, h.nm⟩
theorem HRst.add {A : List HA} {k m : Nat} (h : HRst A k m) {s : Bs} {p : Int × Int} (hs : s.length ≤ 200) (hf : (hFault A s p).1 = 0) : HRst (hAdd A s p) (k + 1) (m + 1) := by
  refine ⟨h.inv.add h.srt hf, hAdd_srt h.srt, by rw [hCount_add h.srt, h.cnt], by have := h.le; omega, hAdd_len hf h.len, fun y hy => ?_⟩
  rcases hAdd_mem h.srt hy with hy | ⟨x, _, _, rfl⟩ | ⟨_, rfl⟩
  · exact h.nm y hy
  · exact hs
  · exact hs

theorem mem_abs {L : List HLn} {x : HLn} (hx : x ∈ L) : (x.nm, x.pts, x.last) ∈ absL L := List.mem_map.2 ⟨x, hx, rfl⟩
theorem HRst.pl {L : List HLn} {k m : Nat} (h : HRst (absL L) k m) {x : HLn} (hx : x ∈ L) : x.pts.length ≤ k := by
  have := len_le_count (mem_abs hx)
  rw [h.cnt] at this
  have := h.le
  exact Nat.le_trans ‹_› this
theorem abs_len (L : List HLn) : (absL L).length = L.length := by unfold absL; rw [List.length_map]

set_option maxRecDepth 100000 in
set_option maxHeartbeats 4000000 in
theorem headRises_law {es : Nat → Addr} {B : Nat} (A : Option Addr) (n c : Nat) (l : List ActV) (bf : Int) (w : World) (hS : SVL es B w) (hB : B = w.heap.size) (hA : Rd w w.heap.size 5 A n (actC l)) (hn : n ≤ 140737488351232) :
    Calls Tryd.prog 9 #[.slice A n c, .int .i64 bf] w fun e w' => e = .returned (.bool true) ∧ Below w.heap.size w w' := by
  have hB0 : B ≤ w.heap.size := Nat.le_of_eq hB
  have Hck := Lib.hid (headed_any w hS hB0)
  have HS := Lib.hid (fun W (hb : Below w.heap.size w W) => hS.below hb hB0)
  have HA := Lib.hid hA
  clear hS hB hA
  by_cases hn1 : 100 < n
  · have hn1' : (100 : Int) < n := by omega
    go_enter Tryd.func9, Tryd.ntmps9
    go_wp2_with fail
    refine (Hck.out).mono ?_
    rintro e w1 ⟨rfl, hb⟩
    have HB1 := Lib.hid hb; clear hb
    go_wp2
    go_ret
    exact ⟨rfl, HB1.out⟩
  have hn1' : ¬ (100 : Int) < n := by omega
  go_enter Tryd.func9, Tryd.ntmps9
  go_wp2_with fail
  refine (Hck.out).mono ?_
  rintro e w1 ⟨rfl, hb⟩
  have HB1 := Lib.hid hb; clear hb
  go_wp2_with fail
  refine (hnew_any _).mono ?_
  rintro e w2 ⟨q, mb, rfl, hH, hb⟩
  have HH2 := Lib.hid (hH.mono (F' := fun k => w.heap.size ≤ k) (fun k hk => Nat.le_trans HB1.out.size hk)); have HB2 := Lib.hid (Below.call HB1.out hb HB1.out.size)
  clear hH hb
  go_wp2
  go_loopw [7, 8] (fun mv iv wr => ∃ (k m : Nat) (D : DataW Unit) (L : List HLn), k ≤ n ∧ iv = .int .i64 k ∧ mv = .int .i64 m ∧ HeadAt wr (fun j => w.heap.size ≤ j) q mb D L ∧ HRst (absL L) k m ∧ Below w.heap.size w wr) (fun _ iv _ => n - (intOf iv).toNat)
  case atStart => exact ⟨0, 0, _, _, Nat.zero_le _, rfl, rfl, HH2.out, HRst.nil, HB2.out⟩
  case round =>
    obtain ⟨k, m, D, L, hk, rfl, rfl, hH, hM, hbel⟩ := hrel
    have HH := Lib.hid hH; have HM := Lib.hid hM; have HB := Lib.hid hbel
    have hm100 : m ≤ 100 := by have := hM.le; omega
    clear hH hM hbel
    by_cases hkn : k < n
    · have hkn' : (k : Int) < n := by omega
      obtain ⟨bb, off, y, hAe, had, hy, _, e1, e2, e3, _⟩ := (HA.out.below HB.out).atA hkn
      have hAe' := hAe
      subst hAe
      by_cases hl : 200 < y.nm.length
      · have hl' : 200 < (B8 y.nm).size := by rw [B8_size]; exact hl
        generalize B8 y.nm = sn at e1 hl'
        go_wp2
        go_ret
        exact ⟨rfl, HB.out⟩
      · have hl' : ¬ 200 < (B8 y.nm).size := by rw [B8_size]; exact hl
        have hl2 : y.nm.length ≤ 200 := by omega
        have HSs := Lib.hid (show wr.drew.cell? ⟨bb, off + k * 5 + 1, none⟩ = some (.string (B8 y.nm)) ∧ wr.drew.cell? ⟨bb, off + k * 5 + 2, none⟩ = some (.int .i64 y.p.1) ∧ wr.drew.cell? ⟨bb, off + k * 5 + 3, none⟩ = some (.int .u64 y.p.2) from ⟨e1, e2, e3⟩)
        have HHd := Lib.hid (show HeadAt wr.drew (fun j => w.heap.size ≤ j) q mb D L from HH.out.fr (Fr.drew (Fr.refl (fun _ => False) wr)) (fun _ _ h => h))
        have HBd := Lib.hid (show Below w.heap.size w wr.drew from HB.out.drew)
        have Hadd := Lib.hid (hadd_any y.nm y.p _ (by omega) (HS.out _ HBd.out) (Nat.le_trans hB0 HBd.out.size) HHd.out (by have := HM.out.len; rw [abs_len] at this; omega) (fun x hx => by have := HM.out.pl hx; omega))
        by_cases hf : (hFault (absL L) y.nm y.p).1 = 0
        · have Hok := Lib.hid (Hadd.out.mono (R' := fun e w' => e = .returned .nilIface ∧ ∃ D' L', HeadAt w' (fun j => w.heap.size ≤ j) q mb D' L' ∧ HRst (absL L') (k + 1) (m + 1) ∧ Below w.heap.size wr.drew w') (by
            rintro e w4 ⟨_, hok⟩
            obtain ⟨rfl, D', L', hH, hab, hfr⟩ := hok hf
            have hsz := HBd.out.size
            exact ⟨rfl, D', L', hH.mono (fun j hj => hj.elim (fun h => h) (fun h => Nat.le_trans hsz h)), by rw [hab]; exact HM.out.add hl2 hf, hfr.below hsz (fun j hj h => by omega)⟩))
          clear Hadd hf
          generalize hsn : B8 y.nm = sn at e1 hl' Hok HSs
          go_wp2_with fail
          go_region_held3 (fun w' => w'.cell? ⟨bb, off + k * 5 + 1, none⟩ = some (.string sn) ∧ w'.cell? ⟨bb, off + k * 5 + 2, none⟩ = some (.int .i64 y.p.1) ∧ w'.cell? ⟨bb, off + k * 5 + 3, none⟩ = some (.int .u64 y.p.2))
            (first | with_reducible exact HSs.out | with_reducible exact ⟨(hb4.out.cell had).trans HSs.out.1, (hb4.out.cell had).trans HSs.out.2.1, (hb4.out.cell had).trans HSs.out.2.2⟩)
            (first | (go_at_call 43; refine Hok.out.mono ?_; rintro e w4 ⟨rfl, D4, L4, hH4, hM4, hb4⟩; have hb4 := Lib.hid hb4; have HH4 := Lib.hid hH4; have HM4 := Lib.hid hM4; clear hH4 hM4))
          have HB4 := Lib.hid (show Below w.heap.size w w4 from HBd.out.trans hb4.out)
          go_wp2
          go_roundw
          case rel => exact ⟨k + 1, m + 1, D4, L4, by omega, by go_num, by go_num, HH4.out, HM4.out, HB4.out⟩
          case measure => simp [intOf]; omega
        · have Hbad := Lib.hid (Hadd.out.mono (R' := fun e w' => ∃ ty u, e = .returned (.iface ty u) ∧ Below wr.drew.heap.size wr.drew w') (by
            rintro e w4 ⟨hbad, _⟩
            obtain ⟨v, rfl, hev, hb⟩ := hbad hf
            rcases hev with ⟨e0, _⟩ | ⟨j, _, _, rfl⟩ | ⟨j, pb, t, _, _, rfl, _⟩
            · rw [e0] at hf; exact absurd rfl hf
            · exact ⟨_, _, rfl, hb⟩
            · exact ⟨_, _, rfl, hb⟩))
          clear Hadd hf
          generalize hsn : B8 y.nm = sn at e1 hl' Hbad HSs
          go_wp2_with fail
          go_region_held3 (fun w' => w'.cell? ⟨bb, off + k * 5 + 1, none⟩ = some (.string sn) ∧ w'.cell? ⟨bb, off + k * 5 + 2, none⟩ = some (.int .i64 y.p.1) ∧ w'.cell? ⟨bb, off + k * 5 + 3, none⟩ = some (.int .u64 y.p.2))
            (first | with_reducible exact HSs.out | with_reducible exact ⟨(hb4.out.cell had).trans HSs.out.1, (hb4.out.cell had).trans HSs.out.2.1, (hb4.out.cell had).trans HSs.out.2.2⟩)
            (first | (go_at_call 43; refine Hbad.out.mono ?_; rintro e w4 ⟨ty4, u4', rfl, hb⟩; have hb4 := Lib.hid (hb.mono HBd.out.size); have hb := Lib.hid hb))
          have HB4 := Lib.hid (show Below w.heap.size w w4 from HBd.out.trans hb4.out)
          have HH4 := Lib.hid (HHd.out.below hb.out)
          go_wp2
          go_roundw
          case rel => exact ⟨k + 1, m, D, L, by omega, by go_num, rfl, HH4.out, HM.out.skip, HB4.out⟩
          case measure => simp [intOf]; omega
    · obtain rfl : k = n := by omega
      have hl60 : L.length ≤ 60 := by have := HM.out.len; rw [abs_len] at this; exact this
      have hpl : ∀ x ∈ L, x.pts.length ≤ 100000 := fun x hx => by have := HM.out.pl hx; omega
      have hnl : ∀ x ∈ L, x.nm.length ≤ 100000 := fun x hx => by have := HM.out.nm _ (mem_abs hx); exact Nat.le_trans this (by decide)
      have hcn : hCnt L = m := by rw [← hCount_of]; exact HM.out.cnt
      have Hl60 := Lib.hid hl60; have Hpl := Lib.hid hpl; have Hnl := Lib.hid hnl; have Hcn := Lib.hid hcn
      clear hl60 hpl hnl hcn HA
      go_wp2_with fail
      refine (hseries_any _ HH.out (Nat.le_trans Hl60.out (by decide)) Hnl.out).mono ?_
      rintro e w3 ⟨v3, rfl, hown, hb⟩
      obtain ⟨As, cs, rfl, _, _, hrd⟩ := own_form hown
      obtain ⟨E, hE⟩ : ∃ E, E = hNE (absL L) := ⟨_, rfl⟩
      have hser : hSer L = E.map (·.1) := by rw [← hSeries_of, hE]; rfl
      rw [hser] at hrd
      have hEl : E.length ≤ 60 := by rw [hE]; exact Nat.le_trans (List.length_filter_le _ _) HM.out.len
      have hsl : (hSer L).length = E.length := by rw [hser, List.length_map]
      rw [List.length_map] at hrd
      have hrd' : Rd w3 w3.heap.size 1 As E.length (E.map fun x => Value.string (B8 x.1)) := by
        unfold txC at hrd
        rw [List.map_map] at hrd
        exact hrd
      rw [hsl]
      have HE := Lib.hid hE; have Hrd := Lib.hid hrd'
      have HH3 := Lib.hid (HH.out.below hb); have HB3 := Lib.hid (Below.call HB.out hb HB.out.size)
      have HEs := Lib.hid (show hSrt E by rw [hE]; exact ne_srt HM.out.srt)
      have HEm := Lib.hid (show ∀ x ∈ E, x ∈ absL L ∧ x.2.1 ≠ [] by rw [hE]; intro x hx; have := List.mem_filter.1 hx; exact ⟨this.1, by simpa using this.2⟩)
      have Hall := Lib.hid (show cntTo E E.length = m by rw [hE, cntTo_all]; exact HM.out.cnt)
      have HC100 := Lib.hid (show ∀ j, cntTo E j ≤ 100 by
        intro j
        have h1 : cntTo E j ≤ cntTo E E.length := by
          unfold cntTo
          rw [List.take_length]
          conv => rhs; rw [← List.take_append_drop j E, List.map_append, List.sum_append]
          omega
        rw [Hall.out] at h1
        omega)
      clear hown hb hE hser hsl hrd hrd'
      go_wp2
      go_loopw [10, 11] (fun av iv wr => ∃ j : Nat, j ≤ E.length ∧ iv = .int .i64 j ∧ av = .int .i64 (cntTo E j : Nat) ∧ Below w3.heap.size w3 wr) (fun _ iv _ => 61 - (intOf iv).toNat)
      case atStart => exact ⟨0, Nat.zero_le _, rfl, rfl, Below.refl _ _⟩
      case round =>
        obtain ⟨j, hj, rfl, rfl, hb⟩ := hrel
        have HB4 := Lib.hid hb
        clear hb
        have hcj := HC100.out j
        by_cases hjn : j < E.length
        · have hjn' : (j : Int) < E.length := by omega
          obtain ⟨bs, os, x, hAe, had, hx, e1⟩ := (Hrd.out.below HB4.out).at1 hjn
          have hAe' := hAe
          subst hAe
          obtain ⟨hxA, hxn⟩ := HEm.out x (List.mem_of_getElem? hx)
          have hpx := HM.out.inv x hxA
          have hfx := hFind_of_mem HM.out.srt hxA
          have hpts : hPoints (absL L) x.1 (-1099511627776) 1099511627776 = x.2.1 := by
            unfold hPoints; rw [hfx]; exact bet_all (fun p hp => (hpx.2 p hp).2)
          have hxl : x.2.1.length ≤ 100 := by have := len_le_count hxA; rw [HM.out.cnt] at this; omega
          have hx1 : 1 ≤ x.2.1.length := List.length_pos_iff.2 hxn
          have hcs := cntTo_snoc hx
          have Hp := Lib.hid (hpoints_any x.1 (-1099511627776) 1099511627776 _ (by have := HM.out.nm x hxA; omega) (HH3.out.fr (Fr.refl (fun _ => False) w3) (fun _ _ h => h) |>.below HB4.out) Hpl.out)
          rw [hpts] at Hp
          have Hx := Lib.hid hx; have Hpr := Lib.hid hpx.1; have Hcs := Lib.hid hcs
          have Hcell := Lib.hid e1
          clear hxA hxn hpx hfx hpts hcs hx
          have e1' := e1
          generalize hsn : B8 x.1 = sn at e1 Hp
          generalize hml : x.2.1.length = ml at hxl hx1 Hp
          have Hml := Lib.hid hml; have Hsn := Lib.hid hsn
          clear hml hsn e1'
          go_wp2_with fail
          refine Hp.out.mono ?_
          rintro e w5 ⟨v5, rfl, hown, hb⟩
          obtain ⟨Ap, cp, rfl, _, _, hrdp⟩ := own_form hown
          have HB5 := Lib.hid (Below.call HB4.out hb HB4.out.size)
          have Hrdp := Lib.hid hrdp
          clear hown hb hrdp
          go_wp2
          go_loopw [13] (fun kv wr' => ∃ (i qn : Nat), 1 ≤ i ∧ i ≤ ml ∧ kv = .int .i64 i ∧ wr' = w5.drewN qn) (fun kv _ => 101 - (intOf kv).toNat)
          case atStart => exact ⟨1, 0, Nat.le_refl _, hx1, rfl, rfl⟩
          case round =>
            obtain ⟨i, qn, hi1, him, rfl, rfl⟩ := hrel
            by_cases hi : i < ml
            · obtain ⟨i, rfl⟩ : ∃ j, i = j + 1 := ⟨i - 1, by omega⟩
              obtain ⟨b1, o1, y1, hA1, _, hy1, f0, _⟩ := Hrdp.out.at2 (k := i) (by omega)
              obtain ⟨b2, o2, y2, hA2, _, hy2, f2, _⟩ := Hrdp.out.at2 hi
              subst hA1
              injection hA2 with hA2
              injection hA2 with h1 h2
              subst h1; subst h2
              have hlt := pts_at Hpr.out hy1 hy2
              have hd : decide (y2.1 ≤ y1.1) = false := decide_eq_false (by omega)
              have n1 : IntKind.i64.wrap ((i : Int) + 1 - 1) = (i : Int) := by rw [IntKind.wrap_i64]; omega
              have n2 : IntKind.i64.wrap ((i : Int) + 1) = (i : Int) + 1 := by rw [IntKind.wrap_i64]; omega
              have n3 : (i : Int) + 1 - 1 = (i : Int) := by omega
              have n4 : (0 : Int) ≤ (i : Int) + 1 := by omega
              have n5 : ((i : Int) + 1).toNat = i + 1 := by omega
              have c0 : (i : Int) + 1 < (ml : Int) := by omega
              have c1 : (i : Int) < (ml : Int) := by omega
              clear hy1 hy2 hlt
              go_wp2
              go_quiet (fail)
              clear n1 n2 n3 n5
              go_wp2
              go_roundw
              case rel => exact ⟨i + 1 + 1, _, by omega, by omega, by go_num, rfl⟩
              case measure => simp [intOf]; omega
            · obtain rfl : i = ml := by omega
              have HB6 := Lib.hid (Below.drewN HB5.out qn)
              have HNx := Lib.hid (show cntTo E j + i = cntTo E (j + 1) by rw [Hcs.out, Hml.out])
              have hcj1 := HC100.out (j + 1)
              have hnx := HNx.out
              have ee : (w5.drewN qn).cell? ⟨bs, os + j, none⟩ = some (.string sn) := by
                obtain ⟨bs', os', x', hAe', _, hx', e1'⟩ := (Hrd.out.below HB6.out).at1 hjn
                injection hAe' with hAe'
                injection hAe' with h1 h2
                subst h1; subst h2
                obtain rfl : x = x' := Option.some.inj (Hx.out.symm.trans hx')
                rw [Hsn.out] at e1'
                exact e1'
              clear e1
              generalize hwd : w5.drewN qn = wd at ee HB6
              by_cases hj0 : j = 0
              · subst hj0
                go_wp2
                go_quiet (fail)
                go_wp2
                go_roundw
                case rel => exact ⟨0 + 1, by omega, by go_num, by rw [← HNx.out]; go_num, Below.drewN HB6.out _⟩
                case measure => simp [intOf]
              · obtain ⟨j, rfl⟩ : ∃ t, j = t + 1 := ⟨j - 1, by omega⟩
                obtain ⟨bs', os', z, hAe', _, hz, e2⟩ := (Hrd.out.below HB6.out).at1 (k := j) (by omega)
                injection hAe' with hAe'
                injection hAe' with h1 h2
                subst h1; subst h2
                have hle := leS_B8 x.1 z.1
                rw [srt_at HEs.out hz Hx.out, Hsn.out] at hle
                generalize B8 z.1 = s3 at hle e2
                have hd : decide (0 < j + 1) = true := decide_eq_true (by omega)
                have n1 : IntKind.i64.wrap ((j : Int) + 1 - 1) = (j : Int) := by rw [IntKind.wrap_i64]; omega
                have n2 : IntKind.i64.wrap ((j : Int) + 1) = (j : Int) + 1 := by rw [IntKind.wrap_i64]; omega
                have n3 : (j : Int) + 1 - 1 = (j : Int) := by omega
                have n4 : (0 : Int) ≤ (j : Int) + 1 := by omega
                have n5 : ((j : Int) + 1).toNat = j + 1 := by omega
                have c0 : (j : Int) + 1 < (E.length : Int) := by omega
                have c1 : (j : Int) < (E.length : Int) := by omega
                have c2 : (0 : Int) < (j : Int) + 1 := by omega
                clear hz
                go_wp2
                go_quiet (fail)
                clear n1 n2 n3 n5
                go_wp2
                go_roundw
                case rel => exact ⟨j + 1 + 1, by omega, by go_num, by rw [← HNx.out]; go_num, Below.drewN HB6.out _⟩
                case measure => simp [intOf]; omega
        · obtain rfl : j = E.length := by omega
          have HH4 := Lib.hid (HH3.out.below HB4.out)
          have HB5 := Lib.hid (Below.call HB3.out HB4.out HB3.out.size)
          rw [Hall.out]
          have Hc1 := Lib.hid (hcount_any _ HH4.out (by rw [Hcn.out]; omega))
          rw [Hcn.out] at Hc1
          clear hcj
          go_wp2_with fail
          refine Hc1.out.mono ?_
          rintro e w5 ⟨rfl, hb⟩
          have HB6 := Lib.hid (Below.call HB5.out hb HB5.out.size); have HH5 := Lib.hid (HH4.out.below hb)
          clear hb
          go_wp2_with fail
          refine (hcut_any bf _ (HS.out _ HB6.out) (Nat.le_trans hB0 HB6.out.size) (fun k hk => Nat.le_trans hB0 hk) HH5.out (by have := Hl60.out; omega) Hnl.out Hpl.out).mono ?_
          rintro e w6 ⟨L2, R, v6, ev6, rfl, hH6, hab, hrows, hrA, hfr, _, _⟩
          obtain ⟨Ar, cr, rfl, _, _, hrdR⟩ := own_form hrows.1
          have hsz5 := HB6.out.size
          have HB7 := Lib.hid (show Below w.heap.size w w6 from HB6.out.trans (hfr.below hsz5 (fun j hj h => by omega)))
          have HH6 := Lib.hid hH6; have HRd := Lib.hid hrdR; have HRp := Lib.hid hrows.2; have HrA := Lib.hid hrA; have Hab := Lib.hid hab
          have hRl : R.length ≤ 60 := by
            have h1 := congrArg List.length hrA
            unfold rwA hCutR at h1
            rw [List.length_map, List.length_map] at h1
            rw [h1]
            exact Nat.le_trans (List.length_filter_le _ _) HM.out.len
          have hcc := cut_count (absL L) bf
          rw [HM.out.cnt, ← hab] at hcc
          obtain ⟨RR, hRR⟩ : ∃ RR, RR = hCutR (absL L) bf := ⟨_, rfl⟩
          rw [← hRR] at hcc
          have Hcc := Lib.hid hcc; have HRR := Lib.hid hRR
          have HRg := Lib.hid (show ∀ r ∈ RR, ∀ p ∈ r.2, p.1 < bf by rw [hRR]; exact fun r hr => cutR_gone hr)
          have hRRl : RR.length = R.length := by rw [hRR, ← hrA]; unfold rwA; rw [List.length_map]
          clear hH6 hrdR hrows hrA hab hfr hsz5 hcc hRR
          go_wp2
          go_loopw [10, 16] (fun av iv wr => ∃ (j a : Nat), j ≤ R.length ∧ iv = .int .i64 j ∧ av = .int .i64 (a : Nat) ∧ a + rowsTo RR j = m ∧ w6 = wr) (fun _ iv _ => 61 - (intOf iv).toNat)
          case atStart => exact ⟨0, m, Nat.zero_le _, rfl, rfl, rfl, rfl⟩
          case round =>
            obtain ⟨j, a, hj, rfl, rfl, ha, rfl⟩ := hrel
            by_cases hjn : j < R.length
            · have hjn' : (j : Int) < R.length := by omega
              obtain ⟨br, or, r, hAe, _, hr, _, e2⟩ := (show Rd w6 w6.heap.size 2 Ar R.length (R.flatMap fun r => [.string (B8 r.nm), r.v]) from HRd.out).at2 hjn
              subst hAe
              have hrp := HRp.out r (List.mem_of_getElem? hr)
              obtain ⟨Ap, cp, hv, _, _, hrdp⟩ := own_form hrp
              rw [hv] at e2
              have hrr : RR[j]? = some (r.nm, r.pts) := by
                rw [HRR.out, ← HrA.out]
                unfold rwA
                rw [List.getElem?_map, hr]; rfl
              have hsn := rowsTo_snoc hrr
              have hle := rowsTo_le RR (j + 1)
              have hcc := Hcc.out
              have hg := HRg.out _ (List.mem_of_getElem? hrr)
              have hla : r.pts.length ≤ a := by
                have : r.pts.length ≤ a := by
                  have h1 : rowsTo RR (j + 1) = rowsTo RR j + r.pts.length := hsn
                  omega
                exact this
              have hnx : (a - r.pts.length) + rowsTo RR (j + 1) = m := by
                have h1 : rowsTo RR (j + 1) = rowsTo RR j + r.pts.length := hsn
                omega
              have Hnx := Lib.hid hnx; have Hg := Lib.hid (show ∀ p ∈ r.pts, p.1 < bf from hg); have Hrdp := Lib.hid hrdp
              clear hrp hv hrr hsn hle hcc hg hnx hrdp hr
              generalize hml : r.pts.length = ml at hla
              have Hml := Lib.hid hml
              rw [hml] at e2
              have ha100 : a ≤ 100 := by omega
              have hma : ml ≤ 100 := by omega
              clear hml
              go_wp2
              go_loopw [17] (fun kv wr' => ∃ i : Nat, i ≤ ml ∧ kv = .int .i64 i ∧ w6 = wr') (fun kv _ => 101 - (intOf kv).toNat)
              case atStart => exact ⟨0, Nat.zero_le _, rfl, rfl⟩
              case round =>
                obtain ⟨i, hi, rfl, rfl⟩ := hrel
                by_cases him : i < ml
                · have him' : (i : Int) < ml := by omega
                  obtain ⟨bp, op, p, hAp, _, hp, f0, _⟩ := Hrdp.out.at2 (k := i) (by rw [Hml.out]; exact him)
                  have hlt := Hg.out p (List.mem_of_getElem? hp)
                  have hlt' : ¬ bf ≤ p.1 := by omega
                  subst hAp
                  clear hp
                  go_wp2
                  go_roundw
                  case rel => exact ⟨i + 1, by omega, by go_num, by first | rfl | trivial⟩
                  case measure => simp [intOf]; omega
                · obtain rfl : i = ml := by omega
                  go_wp2
                  go_roundw
                  case rel => exact ⟨j + 1, a - i, by omega, by go_num, by congr 1; omega, by rw [← Hml.out]; exact Hnx.out, by first | rfl | trivial⟩
                  case measure => simp [intOf]; omega
            · obtain rfl : j = R.length := by omega
              have hca : hCnt L2 = a := by
                rw [← hCount_of]
                have h1 : rowsTo RR R.length = rowsCnt RR := by
                  unfold rowsTo
                  rw [← hRRl, List.take_length]
                have := Hcc.out
                omega
              have Hca := Lib.hid hca
              clear hca
              go_wp2_with fail
              refine (hcount_any _ HH6.out (by rw [Hca.out]; omega)).mono ?_
              rintro e w7 ⟨rfl, hb⟩
              rw [Hca.out]
              have HB8 := Lib.hid (Below.call HB7.out hb HB7.out.size)
              clear hb
              go_wp2
              go_ret
              exact ⟨by simp, HB8.out⟩
end Go.Proofs.YtfnjgminbjopeaaDoor
