/- label.one, label.matches, label.Fits by contracts. -/
import Derived.Test.YtlpkmghhmpkddaaDoorFitN
import Derived.Test.YtlpkmghhmpkddaaDoorCBare
import Derived.Test.YtlpkmghhmpkddaaDoorLays
import Derived.Test.YtlpkmghhmpkddaaDoorLabSum
import Derived.Deep.DeepCutAuto
import Derived.Deep.Light
namespace Go.Proofs.YtlpkmghhmpkddaaDoor
open Go.RowKit
set_option linter.unusedVariables false

abbrev mtV (k : Nat) (nm v : Bs) : Value := .agg #[.int .u8 (k : Int), .string (B8 nm), .string (B8 v)]
set_option maxRecDepth 100000 in
set_option maxHeartbeats 8000000 in
theorem one_any (A : Option Addr) (n c : Nat) (l : List Lb) (k : Nat) (nm v : Bs) (w : World) (hA : Rd w w.heap.size 2 A n (lbC l)) (hn : n ≤ 100000) (hk : kindOk k) :
    Calls Tryd.prog 20 #[.slice A n c, mtV k nm v] w fun e w' => e = .returned (.bool (oneB l (k, nm, v))) ∧ Below w.heap.size w w' := by
  have hlen : l.length = n := by have := hA.1; rw [lbC_len] at this; omega
  have HA := Lib.hid (fun W (hb : Below w.heap.size w W) (i : Nat) (hi : i < n) => (hA.below hb).at2 hi)
  have Hlen := Lib.hid hlen
  have HB1 := Lib.hid (Below.alloc (Below.refl w.heap.size w) (Nat.le_refl _) (.cells #[.int .u8 (k : Int), .string (B8 nm), .string (B8 v)] 30))
  have HK1 := Lib.hid (Blk.new w 30 #[.int .u8 (k : Int), .string (B8 nm), .string (B8 v)])
  have hnl : (B8 nm).toList = nm := B8_toList nm
  have hvl : (B8 v).toList = v := B8_toList v
  have Hnl := Lib.hid hnl; have Hvl := Lib.hid hvl; have Hk := Lib.hid hk
  obtain ⟨sn, hsn⟩ : ∃ sn, B8 nm = sn := ⟨_, rfl⟩
  obtain ⟨sv, hsv⟩ : ∃ sv, B8 v = sv := ⟨_, rfl⟩
  rw [hsn] at HB1 HK1 Hnl
  rw [hsv] at HB1 HK1 Hvl
  unfold mtV
  rw [hsn, hsv]
  have Hsv := Lib.hid hsv
  obtain ⟨R, hR⟩ : ∃ R, R = oneB l (k, nm, v) := ⟨_, rfl⟩
  have HR := Lib.hid hR
  rw [← hR]
  clear hA hlen hnl hvl hsn hsv hk hR
  go_enter Tryd.func20, Tryd.ntmps20
  go_wp2
  go_loopw [5, 10] (fun vv iv wr => ∃ j : Nat, j ≤ n ∧ iv = .int .i64 j ∧ vv = .string (B8 (vOf (l.take j) nm)) ∧ Below w.heap.size w wr ∧ Blk wr w.heap.size 30 #[.int .u8 (k : Int), .string sn, .string sv]) (fun _ iv _ => n - (intOf iv).toNat)
  case atStart => exact ⟨0, Nat.zero_le _, rfl, rfl, HB1.out, HK1.out⟩
  case round =>
    rename World => wo
    obtain ⟨j, hj, rfl, rfl, hb, hkb⟩ := hrel
    have HB := Lib.hid hb; have HK := Lib.hid hkb
    have q0 := hkb.cell 0; have q1 := hkb.cell 1; have q2 := hkb.cell 2
    have hlt : w.heap.size < wo.heap.size := hkb.lt
    by_cases hjn : j < n
    · have hjn' : (j : Int) < n := by omega
      obtain ⟨b0, o0, p, hA0, had0, hp, x0, x1⟩ := HA.out _ hb j hjn
      subst hA0
      have Hp := Lib.hid (vOf_take nm hp)
      have hpl : (B8 p.1).toList = p.1 := B8_toList p.1
      have HBn := Lib.hid (Below.alloc hb hb.size (.cells #[.string (B8 p.1), .string (B8 p.2)] 28))
      have HKn := Lib.hid (hkb.alloc (.cells #[.string (B8 p.1), .string (B8 p.2)] 28))
      generalize vOf (l.take j) nm = v0 at Hp ⊢
      by_cases he : p.1 = nm
      · have hq : ((B8 p.1).toList == sn.toList) = true := by rw [hpl, Hnl.out, he]; exact beq_self_eq_true _
        have Hn := Lib.hid (show vOf (l.take (j + 1)) nm = p.2 by rw [Hp.out, if_pos he])
        clear hb hkb hp he hpl
        generalize B8 p.1 = s1 at x0 hq HBn HKn
        go_wp2
        go_roundw
        case rel => exact ⟨j + 1, by omega, by go_num, by rw [Hn.out], HBn.out, HKn.out⟩
        case measure => simp [intOf]; omega
      · have hq : ((B8 p.1).toList == sn.toList) = false := by rw [hpl, Hnl.out, beq_eq_false_iff_ne]; exact he
        have Hn := Lib.hid (show vOf (l.take (j + 1)) nm = v0 by rw [Hp.out, if_neg he])
        clear hb hkb hp he hpl
        generalize B8 p.1 = s1 at x0 hq HBn HKn
        go_wp2
        go_roundw
        case rel => exact ⟨j + 1, by omega, by go_num, by rw [Hn.out], HBn.out, HKn.out⟩
        case measure => simp [intOf]; omega
    · obtain rfl : j = n := by omega
      have hjn' : ¬ (j : Int) < j := by omega
      rw [show l.take j = l from List.take_of_length_le (by rw [Hlen.out]; exact Nat.le_refl _)]
      obtain ⟨x, hx⟩ : ∃ x, x = vOf l nm := ⟨_, rfl⟩
      have Hx := Lib.hid (fun q => show oneB l (q, nm, v) = if q = 61 then x == v else if q = 33 then x != v else preB x v by rw [hx]; rfl)
      rw [← hx]
      have hxl : (B8 x).toList = x := B8_toList x
      obtain ⟨e, he⟩ : ∃ e, e = (x == v) := ⟨_, rfl⟩
      have hq : ((B8 x).toList == sv.toList) = e := by rw [hxl, Hvl.out, he]
      have hqn : ((B8 x).toList != sv.toList) = !e := by rw [bne, hq]
      have Hpre := Lib.hid (fun W => hasPre_any x v W)
      rw [Hsv.out] at Hpre
      clear hb hkb hx hxl
      rcases Hk.out with rfl | rfl | rfl
      · have Hr := Lib.hid (show oneB l (61, nm, v) = e by rw [Hx.out, if_pos rfl, he])
        clear he
        generalize B8 x = sx at hq hqn Hpre ⊢
        go_wp2
        go_ret
        exact ⟨by rw [HR.out, Hr.out] <;> rfl, HB.out⟩
      · have Hr := Lib.hid (show oneB l (33, nm, v) = !e by rw [Hx.out, if_neg (by decide), if_pos rfl, he]; rfl)
        clear he
        generalize B8 x = sx at hq hqn Hpre ⊢
        go_wp2
        go_ret
        exact ⟨by rw [HR.out, Hr.out] <;> rfl, HB.out⟩
      · have Hr := Lib.hid (show oneB l (126, nm, v) = preB x v by rw [Hx.out, if_neg (by decide), if_neg (by decide)])
        have Hr := Lib.hid (HR.out.trans Hr.out)
        generalize preB x v = pb at Hpre Hr
        clear he
        generalize B8 x = sx at hq hqn Hpre ⊢
        go_wp2_with fail
        refine (Hpre.out _).mono ?_
        rintro e' w2 ⟨rfl, rfl⟩
        go_wp2
        go_ret
        exact ⟨by rw [Hr.out] <;> rfl, HB.out⟩
/-- Fits' closure. -/
theorem fitsC_any (A : Option Addr) (n c : Nat) (l : List Lb) (k : Nat) (nm v : Bs) (pl : Nat) (w : World) (hA : Rd w w.heap.size 2 A n (lbC l)) (hn : n ≤ 100000) (hk : kindOk k) (hp : w.cell? ⟨pl, 0, none⟩ = some (.slice A n c)) (hpl : pl < w.heap.size) :
    Calls Tryd.prog 19 #[mtV k nm v, .pointer (some ⟨pl, 0, none⟩)] w fun e w' => e = .returned (.bool (!oneB l (k, nm, v))) ∧ Below w.heap.size w w' := by
  have HB1 := Lib.hid (Below.alloc (Below.refl w.heap.size w) (Nat.le_refl _) (.cells #[.int .u8 (k : Int), .string (B8 nm), .string (B8 v)] 30))
  have Hon := Lib.hid (one_any A n c l k nm v (w.alloc (.cells #[.int .u8 (k : Int), .string (B8 nm), .string (B8 v)] 30)) ((hA.below HB1.out).more HB1.out.size) hn hk)
  generalize oneB l (k, nm, v) = r at Hon ⊢
  clear hA hk
  unfold mtV at Hon ⊢
  generalize B8 nm = sn at HB1 Hon ⊢
  generalize B8 v = sv at HB1 Hon ⊢
  go_enter Tryd.func19, Tryd.ntmps19
  go_wp2_with fail
  refine Hon.out.mono ?_
  rintro e w2 ⟨rfl, hb⟩
  have HB2 := Lib.hid (Below.call HB1.out hb HB1.out.size)
  clear hb
  go_wp2
  go_ret
  exact ⟨rfl, HB2.out⟩
/-- The place of the first match that labels do not fit (-1: none). -/
def idxM (l : List Lb) (ms : List Mt) : Int := match ms.findIdx? fun m => !oneB l m with | some k => (k : Int) | none => -1
theorem idxM_some {l : List Lb} {ms : List Mt} {k : Nat} (h : ms.findIdx? (fun m => !oneB l m) = some k) : idxM l ms = k := by unfold idxM; rw [h]
theorem idxM_none {l : List Lb} {ms : List Mt} (h : ms.findIdx? (fun m => !oneB l m) = none) : idxM l ms = -1 := by unfold idxM; rw [h]
theorem fitB_idx (l : List Lb) (ms : List Mt) : fitB l ms = decide (idxM l ms < 0) := by
  unfold fitB
  cases h : ms.findIdx? fun m => !oneB l m with
  | none =>
    rw [idxM_none h, decide_eq_true (by decide), List.all_eq_true]
    rw [List.findIdx?_eq_none_iff] at h
    intro m hm
    have := h m hm
    simpa using this
  | some k =>
    rw [idxM_some h, decide_eq_false (by omega)]
    rw [List.findIdx?_eq_some_iff_getElem] at h
    obtain ⟨hl, hv, _⟩ := h
    apply Bool.eq_false_iff.2
    intro hall
    have := List.all_eq_true.1 hall _ (List.getElem_mem hl)
    rw [this] at hv
    cases hv
set_option maxRecDepth 100000 in
theorem indexM_any (A Am : Option Addr) (n c nm cm : Nat) (l : List Lb) (ms : List Mt) (pl : Nat) (w : World) (hA : Rd w w.heap.size 2 A n (lbC l)) (hn : n ≤ 100000) (hM : Rd w w.heap.size 3 Am nm (mtC ms)) (hnm : nm ≤ 100000) (hk : ∀ m ∈ ms, kindOk m.1) (hp : w.cell? ⟨pl, 0, none⟩ = some (.slice A n c)) (hpl : pl < w.heap.size) :
    Calls Tryd.prog 32 #[.slice Am nm cm, .func (.func 19) #[] #[.pointer (some ⟨pl, 0, none⟩)]] w fun e w' => e = .returned (.int .i64 (idxM l ms)) ∧ Below w.heap.size w w' := by
  have hlen : ms.length = nm := by have := hM.1; unfold mtC at this; rw [flat_len _ 3 (fun _ => rfl)] at this; omega
  have HM := Lib.hid (fun W (hb : Below w.heap.size w W) (i : Nat) (hi : i < nm) => (hM.below hb).at3 hi); have Hlen := Lib.hid hlen
  have HF := Lib.hid (fun W (hb : Below w.heap.size w W) (m : Mt) (hm : m ∈ ms) => fitsC_any A n c l m.1 m.2.1 m.2.2 pl W ((hA.below hb).more hb.size) hn (hk m hm) ((hb.cell (p := ⟨pl, 0, none⟩) hpl).trans hp) (Nat.lt_of_lt_of_le hpl hb.size))
  have hn' : (nm : Int) ≤ 100000 := by omega
  clear hA hlen hM hp hk
  go_enter Tryd.func32, Tryd.ntmps32
  go_wp2
  go_loopw [5, 8] (fun _ iv wr => ∃ k : Nat, k ≤ nm ∧ iv = .int .i64 k ∧ Below w.heap.size w wr ∧ ∀ j (m : Mt), j < k → ms[j]? = some m → oneB l m = true) (fun _ iv _ => nm - (intOf iv).toNat)
  case atStart => exact ⟨0, Nat.zero_le _, rfl, Below.refl _ _, fun j p h => absurd h (Nat.not_lt_zero j)⟩
  case round =>
    obtain ⟨k, hk, rfl, hb, hpre⟩ := hrel
    have Hpre := Lib.hid hpre; have Hb := Lib.hid hb
    have hszr := hb.size
    by_cases hkn : k < nm
    · have hkn' : (k : Int) < nm := by omega
      obtain ⟨b0, o0, m, hA0, had0, hm, x0, x1, x2⟩ := HM.out _ hb k hkn
      subst hA0
      have Hc := Lib.hid (HF.out _ hb m (List.mem_of_getElem? hm))
      have Hm := Lib.hid hm
      unfold mtV at Hc
      clear hb hpre hm
      go_wp2_with fail
      refine Hc.out.mono ?_
      rintro e w1 ⟨rfl, hb1⟩
      have HB1 := Lib.hid (Below.call Hb.out hb1 hszr)
      clear hb1 Hc
      rw [show (m.1, m.2.1, m.2.2) = m from rfl]
      cases ho : oneB l m with
      | true =>
        have Hn := Lib.hid (show ∀ j (p : Mt), j < k + 1 → ms[j]? = some p → oneB l p = true from fun j p hj hp => by
          rcases Nat.lt_or_ge j k with h | h
          · exact Hpre.out j p h hp
          · obtain rfl : j = k := by omega
            rw [Hm.out] at hp
            injection hp with hp
            rw [← hp]; exact ho)
        clear ho
        go_wp2
        go_roundw
        case rel => exact ⟨k + 1, by omega, by go_num, HB1.out, Hn.out⟩
        case measure => simp [intOf]; omega
      | false =>
        have Hi := Lib.hid (show ms.findIdx? (fun m => !oneB l m) = some k from by
          rw [List.findIdx?_eq_some_iff_getElem]
          obtain ⟨hl, hv⟩ := List.getElem?_eq_some_iff.1 Hm.out
          refine ⟨hl, by rw [hv, ho]; rfl, fun j hj => ?_⟩
          have h2 := Hpre.out j _ hj (List.getElem?_eq_getElem (by omega))
          rw [h2]; decide)
        clear ho
        go_wp2
        go_ret
        exact ⟨by rw [idxM_some Hi.out]; rfl, HB1.out⟩
    · obtain rfl : k = nm := by omega
      have Hi := Lib.hid (show ms.findIdx? (fun m => !oneB l m) = none from by
        rw [List.findIdx?_eq_none_iff]
        intro x hx
        obtain ⟨j, hj, rfl⟩ := List.getElem_of_mem hx
        rw [Hpre.out j _ (by rw [← Hlen.out]; exact hj) (List.getElem?_eq_getElem hj)]
        rfl)
      clear hb hpre
      go_wp2
      go_ret
      exact ⟨by rw [idxM_none Hi.out]; rfl, Hb.out⟩
theorem containsM_any (A Am : Option Addr) (n c nm cm : Nat) (l : List Lb) (ms : List Mt) (pl : Nat) (w : World) (hA : Rd w w.heap.size 2 A n (lbC l)) (hn : n ≤ 100000) (hM : Rd w w.heap.size 3 Am nm (mtC ms)) (hnm : nm ≤ 100000) (hk : ∀ m ∈ ms, kindOk m.1) (hp : w.cell? ⟨pl, 0, none⟩ = some (.slice A n c)) (hpl : pl < w.heap.size) :
    Calls Tryd.prog 18 #[.slice Am nm cm, .func (.func 19) #[] #[.pointer (some ⟨pl, 0, none⟩)]] w fun e w' => e = .returned (.bool (!fitB l ms)) ∧ Below w.heap.size w w' := by
  have Hc := Lib.hid (indexM_any A Am n c nm cm l ms pl w hA hn hM hnm hk hp hpl)
  have Hal := Lib.hid (fitB_idx l ms)
  generalize fitB l ms = r at Hal
  generalize idxM l ms = ix at Hc Hal
  clear hA hM hk hp
  by_cases h0 : 0 ≤ ix
  · have Hr := Lib.hid (show r = false by rw [Hal.out]; exact decide_eq_false (by omega))
    have hd : decide (0 ≤ ix) = true := decide_eq_true h0
    rw [Hr.out]
    go_enter Tryd.func18, Tryd.ntmps18
    go_wp2_with fail
    refine Hc.out.mono ?_
    rintro e w1 ⟨rfl, hb⟩
    have HB1 := Lib.hid hb
    clear hb
    go_wp2
    go_ret
    exact ⟨rfl, HB1.out⟩
  · have Hr := Lib.hid (show r = true by rw [Hal.out]; exact decide_eq_true (by omega))
    have hd : decide (0 ≤ ix) = false := decide_eq_false h0
    rw [Hr.out]
    go_enter Tryd.func18, Tryd.ntmps18
    go_wp2_with fail
    refine Hc.out.mono ?_
    rintro e w1 ⟨rfl, hb⟩
    have HB1 := Lib.hid hb
    clear hb
    go_wp2
    go_ret
    exact ⟨rfl, HB1.out⟩
end Go.Proofs.YtlpkmghhmpkddaaDoor
