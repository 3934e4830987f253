/- HeadMany by its contract: it returns true. -/
import Derived.Test.YtfnjgminbjopeaaDoorHeaded
import Derived.Test.YtfnjgminbjopeaaDoorHeadInv
namespace Go.Proofs.YtfnjgminbjopeaaDoor
open Go.RowKit Go.Maps
set_option linter.unusedVariables false

def nmI (i : Nat) : Bs := [110, 61] ++ decN i
def moreS : Bs := [110, 61, 109, 111, 114, 101]
theorem nm_facts : ∀ i, i < 60 → (rdF (nmI i)).1 = 0 ∧ nmI i ≠ moreS := by decide +kernel
theorem more_ok : (rdF moreS).1 = 0 := by decide +kernel
theorem nm_nodup : ((List.range 60).map nmI).Nodup := by decide +kernel
theorem nm_inj {i j : Nat} (hi : i < 60) (hj : j < 60) (h : nmI i = nmI j) : i = j := by
  have := List.pairwise_iff_getElem.1 nm_nodup
  rcases Nat.lt_trichotomy i j with hh | hh | hh
  · have := this i j (by simp; omega) (by simp; omega) hh
    simp at this
    exact absurd h this
  · exact hh
  · have := this j i (by simp; omega) (by simp; omega) hh
    simp at this
    exact absurd h.symm this
/-- So many lines have one point each. -/
structure MI (A : List HA) (k : Nat) (t b : Int) : Prop where
  len : A.length = k
  all : ∀ x ∈ A, ∃ i, i < k ∧ x = (nmI i, [(t, b)], t)
  mem : ∀ i, i < k → (nmI i, [(t, b)], t) ∈ A
theorem MI.find_new {A : List HA} {k : Nat} {t b : Int} (h : MI A k t b) (hk : k < 60) : hFind A (nmI k) = none := by
  unfold hFind
  rw [List.find?_eq_none]
  intro x hx e
  obtain ⟨i, hi, rfl⟩ := h.all x hx
  have e' : nmI i = nmI k := by simpa using e
  obtain rfl := nm_inj (Nat.lt_trans hi hk) hk e'
  exact absurd hi (Nat.lt_irrefl _)
theorem MI.find_more {A : List HA} {k : Nat} {t b : Int} (h : MI A k t b) (hk : k ≤ 60) : hFind A moreS = none := by
  unfold hFind
  rw [List.find?_eq_none]
  intro x hx e
  obtain ⟨i, hi, rfl⟩ := h.all x hx
  exact (nm_facts i (by omega)).2 (by simpa using e)
theorem MI.fault {A : List HA} {k : Nat} {t b : Int} (h : MI A k t b) (hk : k < 60) (h0 : 0 ≤ t) (h1 : t ≤ 1073741824) : hFault A (nmI k) (t, b) = (0, -1) := by
  unfold hFault
  rw [if_neg (by rw [(nm_facts k hk).1]; simp), if_neg (by unfold tickB; simp; omega), h.find_new hk]
  exact if_neg (by rw [h.len]; omega)
theorem MI.add {A : List HA} {k : Nat} {t b : Int} (h : MI A k t b) (hk : k < 60) : MI (hAdd A (nmI k) (t, b)) (k + 1) t b := by
  have e : hAdd A (nmI k) (t, b) = hIns A (nmI k, [(t, b)], t) := by unfold hAdd; rw [h.find_new hk]
  rw [e]
  refine ⟨by rw [hIns_len, h.len], fun x hx => ?_, fun i hi => ?_⟩
  · rcases hIns_mem.1 hx with rfl | hx
    · exact ⟨k, by omega, rfl⟩
    · obtain ⟨i, hi, e⟩ := h.all x hx
      exact ⟨i, by omega, e⟩
  · rcases Nat.lt_or_ge i k with hh | hh
    · exact hIns_mem.2 (.inr (h.mem i hh))
    · obtain rfl : i = k := by omega
      exact hIns_mem.2 (.inl rfl)
/-- What is left when all is cut. -/
structure MC (A : List HA) (t : Int) : Prop where
  len : A.length = 60
  all : ∀ x ∈ A, ∃ i, i < 60 ∧ x = (nmI i, [], t)
  mem : ∀ i, i < 60 → (nmI i, [], t) ∈ A
theorem gone_one (t b : Int) : hGone (t + 1) [(t, b)] = [(t, b)] ∧ hLeft (t + 1) [(t, b)] = [] := by
  unfold hGone hLeft
  have h : decide (t < t + 1) = true := decide_eq_true (by omega)
  constructor
  · rw [List.takeWhile_cons]; simp only [h, if_true, List.takeWhile_nil]
  · rw [List.dropWhile_cons]; simp only [h, if_true, List.dropWhile_nil]
theorem MI.cut {A : List HA} {t b : Int} (h : MI A 60 t b) : MC (hCut A (t + 1)) t ∧ (hCutR A (t + 1)).length = 60 := by
  refine ⟨⟨?_, fun x hx => ?_, fun i hi => ?_⟩, ?_⟩
  · unfold hCut; rw [List.length_map, h.len]
  · obtain ⟨y, hy, rfl⟩ := List.mem_map.1 hx
    obtain ⟨i, hi, rfl⟩ := h.all y hy
    exact ⟨i, hi, by rw [(gone_one t b).2]⟩
  · exact List.mem_map.2 ⟨_, h.mem i hi, by rw [(gone_one t b).2]⟩
  · unfold hCutR
    rw [List.length_map, List.filter_eq_self.2, h.len]
    intro x hx
    obtain ⟨i, hi, rfl⟩ := h.all x hx
    rw [(gone_one t b).1]; simp
theorem MC.count {A : List HA} {t : Int} (h : MC A t) : hCount A = 0 ∧ hSeries A = [] := by
  have e : ∀ x ∈ A, x.2.1 = [] := fun x hx => by obtain ⟨i, _, rfl⟩ := h.all x hx; rfl
  constructor
  · unfold hCount
    rw [List.map_congr_left (g := fun _ => 0) (fun x hx => by rw [e x hx]; rfl)]
    clear h e
    induction A with
    | nil => rfl
    | cons a A ih => rw [List.map_cons, List.sum_cons, ih]
  · unfold hSeries
    rw [List.filter_eq_nil_iff.2 (fun x hx => by simp [e x hx])]; rfl
theorem MC.more {A : List HA} {t : Int} (h : MC A t) (h0 : 0 ≤ t) (h1 : t ≤ 1073741824) (c : Int) : hFault A moreS (t + 1, c) = (7, -1) := by
  have hn : hFind A moreS = none := by
    unfold hFind
    rw [List.find?_eq_none]
    intro x hx e
    obtain ⟨i, hi, rfl⟩ := h.all x hx
    exact (nm_facts i hi).2 (by simpa using e)
  unfold hFault
  rw [if_neg (by rw [more_ok]; simp), if_neg (by unfold tickB; simp; omega), hn]
  exact if_pos (by rw [h.len]; exact Nat.le_refl _)
theorem MI.more {A : List HA} {t b : Int} (h : MI A 60 t b) (h0 : 0 ≤ t) (h1 : t ≤ 1073741824) (c : Int) : hFault A moreS (t + 1, c) = (7, -1) := by
  unfold hFault
  rw [if_neg (by rw [more_ok]; simp), if_neg (by unfold tickB; simp; omega), h.find_more (Nat.le_refl _)]
  exact if_pos (by rw [h.len]; exact Nat.le_refl _)
theorem MC.old {A : List HA} {t : Int} (h : MC A t) (hs : hSrt A) (h0 : 0 ≤ t) (h1 : t ≤ 1073741824) (c : Int) : hFault A (nmI 7) (t, c) = (8, -1) ∧ hFault A (nmI 7) (t + 1, c) = (0, -1) := by
  have hf := hFind_of_mem hs (h.mem 7 (by decide))
  have hf : hFind A (nmI 7) = some (nmI 7, [], t) := hf
  unfold hFault
  refine ⟨?_, ?_⟩
  · rw [if_neg (by rw [(nm_facts 7 (by decide)).1]; simp), if_neg (by unfold tickB; simp; omega), hf]
    exact if_pos (Int.le_refl _)
  · rw [if_neg (by rw [(nm_facts 7 (by decide)).1]; simp), if_neg (by unfold tickB; simp; omega), hf]
    exact if_neg (by show ¬ t + 1 ≤ t; omega)
theorem nm_len (i : Nat) : (nmI i).length ≤ 100 := by
  unfold nmI
  have := decN_len i
  rw [List.length_append]; simp; omega
theorem absL_len (L : List HLn) : (absL L).length = L.length := by unfold absL; rw [List.length_map]
theorem absL_mem {L : List HLn} {x : HLn} (hx : x ∈ L) : (x.nm, x.pts, x.last) ∈ absL L := List.mem_map.2 ⟨x, hx, rfl⟩

set_option maxRecDepth 100000 in
set_option maxHeartbeats 4000000 in
theorem headMany_law {es : Nat → Addr} {B : Nat} (t b : Int) (w : World) (hS : Sents es B w) (hB : B = w.heap.size) :
    Calls Tryd.prog 10 #[.int .i64 t, .int .u64 b] w fun e w' => e = .returned (.bool true) ∧ Below w.heap.size w w' := by
  have hB0 : B ≤ w.heap.size := Nat.le_of_eq hB
  have Hck := Lib.hid (headed_any w hS.vl hB0)
  have HS := Lib.hid (fun W (hb : Below w.heap.size w W) => hS.below hb hB0)
  clear hS hB
  by_cases ht : 0 ≤ t ∧ t ≤ 1073741824
  case neg =>
    have ht2 : t < 0 ∨ (¬ t < 0 ∧ 1073741824 < t) := by omega
    clear ht
    rcases ht2 with h | ⟨h, h2⟩
    all_goals
      go_enter Tryd.func10, Tryd.ntmps10
      go_wp2_with fail
      refine (Hck.out).mono ?_
      rintro e w1 ⟨rfl, hb⟩
      have HB1 := Lib.hid hb; clear hb
      go_wp2
      go_ret
      exact ⟨rfl, HB1.out⟩
  obtain ⟨h0, h1⟩ := ht
  have h0' : ¬ t < 0 := by omega
  have h1' : ¬ 1073741824 < t := by omega
  go_enter Tryd.func10, Tryd.ntmps10
  go_wp2_with fail
  refine (Hck.out).mono ?_
  rintro e w1 ⟨rfl, hb⟩
  have HB1 := Lib.hid hb; clear hb
  go_wp2_with fail
  refine (hnew_any _).mono ?_
  rintro e w2 ⟨q, mb, rfl, hH, hb⟩
  have HH2 := Lib.hid (hH.mono (F' := fun k => w.heap.size ≤ k) (fun k hk => Nat.le_trans HB1.out.size hk)); have HB2 := Lib.hid (Below.call HB1.out hb HB1.out.size)
  clear hH hb
  go_wp2
  go_loopw [7] (fun iv wr => ∃ (k : Nat) (D : DataW Unit) (L : List HLn), k ≤ 60 ∧ iv = .int .i64 k ∧ HeadAt wr (fun j => w.heap.size ≤ j) q mb D L ∧ MI (absL L) k t b ∧ Below w.heap.size w wr) (fun iv _ => 60 - (intOf iv).toNat)
  case atStart => exact ⟨0, _, _, Nat.zero_le _, rfl, HH2.out, ⟨rfl, fun x h => (by cases h), fun i h => absurd h (Nat.not_lt_zero _)⟩, HB2.out⟩
  case round =>
    obtain ⟨k, D, L, hk, rfl, hH, hM, hbel⟩ := hrel
    have HH := Lib.hid hH; have HM := Lib.hid hM; have HB := Lib.hid hbel
    clear hH hM hbel
    by_cases hk60 : k < 60
    · have hk60' : (k : Int) < 60 := by omega
      have hdz : decZ (k : Int) = decN k := by unfold decZ; rw [if_neg (by omega)]; rfl
      have Hd := Lib.hid (decimal_any (k : Int) wr (by omega) (by omega))
      rw [hdz] at Hd
      have Hcat := Lib.hid (show (⟨#[110, 61]⟩ : ByteArray) ++ B8 (decN k) = B8 (nmI k) by rw [show (⟨#[110, 61]⟩ : ByteArray) = B8 [110, 61] from rfl, B8_append]; rfl)
      have hsz : (B8 (decN k)).size ≤ 20 := by rw [B8_size]; exact decN_len k
      clear hdz
      generalize B8 (decN k) = sd at Hd Hcat hsz
      have hcl : ¬ 9223372036854775807 < 2 + sd.size := by omega
      go_wp2_with fail
      refine Hd.out.mono ?_
      rintro e w3 ⟨rfl, hb⟩
      have HB3 := Lib.hid (Below.call HB.out hb HB.out.size); have HH3 := Lib.hid (HH.out.below hb)
      clear hb
      go_wp2_with fail
      rw [Hcat.out]
      refine (hadd_any (nmI k) (t, b) _ (Nat.le_trans (nm_len k) (by decide)) (HS.out _ HB3.out).vl (Nat.le_trans hB0 HB3.out.size) HH3.out (by rw [← absL_len, HM.out.len]; omega) (fun x hx => by
        obtain ⟨i, _, e⟩ := HM.out.all _ (absL_mem hx)
        injection e with _ e; injection e with e _; rw [e]; simp)).mono ?_
      rintro e w4 ⟨_, hok⟩
      obtain ⟨rfl, D', L', hH, hab, hfr⟩ := hok (by rw [HM.out.fault hk60 h0 h1])
      have HH4 := Lib.hid (hH.mono (F' := fun j => w.heap.size ≤ j) (fun j hj => hj.elim (fun h => h) (fun h => Nat.le_trans HB3.out.size h)))
      have HB4 := Lib.hid (show Below w.heap.size w w4 from HB3.out.trans (hfr.below HB3.out.size (fun j hj h => by omega)))
      have HM4 := Lib.hid (show MI (absL L') (k + 1) t b by rw [hab]; exact HM.out.add hk60)
      clear hok hH hab hfr
      go_wp2
      go_roundw
      case rel => exact ⟨k + 1, D', L', by omega, by go_num, HH4.out, HM4.out, HB4.out⟩
      case measure => simp [intOf]; omega
    · obtain rfl : k = 60 := by omega
      have hLl : L.length = 60 := by rw [← absL_len, HM.out.len]
      have hpl : ∀ x ∈ L, x.pts.length ≤ 100000 := fun x hx => by
        obtain ⟨i, _, e⟩ := HM.out.all _ (absL_mem hx)
        injection e with _ e; injection e with e _; rw [e]; simp
      have hnl : ∀ x ∈ L, x.nm.length ≤ 100000 := fun x hx => by
        obtain ⟨i, _, e⟩ := HM.out.all _ (absL_mem hx)
        injection e with e _; rw [e]; exact Nat.le_trans (nm_len i) (by decide)
      have HLl := Lib.hid hLl; have Hpl := Lib.hid hpl; have Hnl := Lib.hid hnl
      clear hLl hpl hnl
      go_wp2_with fail
      refine (hadd_any moreS (t + 1, 0) _ (by decide) (HS.out _ HB.out).vl (Nat.le_trans hB0 HB.out.size) HH.out (by rw [HLl.out]; decide) Hpl.out).mono ?_
      rintro e w3 ⟨hbad, _⟩
      have hmf := HM.out.more h0 h1 0
      obtain ⟨v3, rfl, hev, hb⟩ := hbad (by rw [hmf]; decide)
      rw [hmf] at hev
      have HB3 := Lib.hid (Below.call HB.out hb HB.out.size); have HH3 := Lib.hid (HH.out.below hb)
      have HE3 := Lib.hid (hev.is (HS.out _ HB3.out))
      clear hbad hmf hev hb
      go_wp2_with fail
      refine (coded2_any v3 7 (-1) 7 _ (HS.out _ HB3.out) (Nat.le_trans hB0 HB3.out.size) HE3.out).mono ?_
      rintro e w4 ⟨rfl, hb⟩
      have HB4 := Lib.hid (Below.call HB3.out hb HB3.out.size); have HH4 := Lib.hid (HH3.out.below hb)
      clear hb
      go_wp2_with fail
      refine (hcut_any (t + 1) _ (HS.out _ HB4.out).vl (Nat.le_trans hB0 HB4.out.size) (fun k hk => Nat.le_trans hB0 hk) HH4.out (by rw [HLl.out]; decide) Hnl.out Hpl.out).mono ?_
      rintro e w5 ⟨L2, R, v5, ev5, rfl, hH5, hab, hrows, hrA, hfr, _, hnil⟩
      obtain ⟨hMC, hRl⟩ := HM.out.cut
      rw [hnil (by intro e; rw [e] at hRl; cases hRl)]
      have hR60 : R.length = 60 := by rw [← hRl, ← hrA]; unfold rwA; rw [List.length_map]
      have hown := hrows.1
      rw [hR60] at hown
      obtain ⟨A5, c5, rfl, _, _, _⟩ := own_form hown
      have hsz4 := HB4.out.size
      have HH5 := Lib.hid (hH5.mono (F' := fun j => w.heap.size ≤ j) (fun j hj => hj.elim (fun h => h) (fun h => Nat.le_trans hsz4 h)))
      have HB5 := Lib.hid (show Below w.heap.size w w5 from HB4.out.trans (hfr.below hsz4 (fun j hj h => by omega)))
      rw [← hab] at hMC
      have HMC := Lib.hid hMC
      have HL2 := Lib.hid (show L2.length = 60 by rw [← absL_len, hMC.len])
      have hpl2 : ∀ x ∈ L2, x.pts.length ≤ 100000 := fun x hx => by
        obtain ⟨i, _, e⟩ := hMC.all _ (absL_mem hx)
        injection e with _ e; injection e with e _; rw [e]; simp
      have hnl2 : ∀ x ∈ L2, x.nm.length ≤ 100000 := fun x hx => by
        obtain ⟨i, _, e⟩ := hMC.all _ (absL_mem hx)
        injection e with e _; rw [e]; exact Nat.le_trans (nm_len i) (by decide)
      have Hpl2 := Lib.hid hpl2; have Hnl2 := Lib.hid hnl2
      have HC0 := Lib.hid (show hCnt L2 = 0 by rw [← hCount_of]; exact hMC.count.1)
      have HS0 := Lib.hid (show hSer L2 = [] by rw [← hSeries_of]; exact hMC.count.2)
      clear hH5 hab hrows hrA hfr hnil hMC hRl hR60 hown hpl2 hnl2 hsz4
      go_wp2_with fail
      refine (hcount_any _ HH5.out (by rw [HC0.out]; decide)).mono ?_
      rintro e w6 ⟨rfl, hb⟩
      rw [HC0.out]
      have HH6 := Lib.hid (HH5.out.below hb); have HB6 := Lib.hid (Below.call HB5.out hb HB5.out.size)
      clear hb
      go_wp2_with fail
      refine (hseries_any _ HH6.out (by rw [HL2.out]; decide) Hnl2.out).mono ?_
      rintro e w7 ⟨v7, rfl, hown, hb⟩
      rw [HS0.out] at hown
      obtain ⟨A7, c7, rfl, _, _, _⟩ := own_form hown
      have HH7 := Lib.hid (HH6.out.below hb); have HB7 := Lib.hid (Below.call HB6.out hb HB6.out.size)
      clear hown hb
      go_wp2_with fail
      refine (hadd_any moreS (t + 1, 0) _ (by decide) (HS.out _ HB7.out).vl (Nat.le_trans hB0 HB7.out.size) HH7.out (by rw [HL2.out]; decide) Hpl2.out).mono ?_
      rintro e w8 ⟨hbad, _⟩
      have hmf := HMC.out.more h0 h1 0
      obtain ⟨v8, rfl, hev, hb⟩ := hbad (by rw [hmf]; decide)
      rw [hmf] at hev
      have HB8 := Lib.hid (Below.call HB7.out hb HB7.out.size); have HH8 := Lib.hid (HH7.out.below hb)
      have HE8 := Lib.hid (hev.is (HS.out _ HB8.out))
      clear hbad hmf hev hb
      go_wp2_with fail
      refine (coded2_any v8 7 (-1) 7 _ (HS.out _ HB8.out) (Nat.le_trans hB0 HB8.out.size) HE8.out).mono ?_
      rintro e w9 ⟨rfl, hb⟩
      have HB9 := Lib.hid (Below.call HB8.out hb HB8.out.size); have HH9 := Lib.hid (HH8.out.below hb)
      clear hb
      go_wp2_with fail
      refine (hadd_any (nmI 7) (t, 0) _ (Nat.le_trans (nm_len 7) (by decide)) (HS.out _ HB9.out).vl (Nat.le_trans hB0 HB9.out.size) HH9.out (by rw [HL2.out]; decide) Hpl2.out).mono ?_
      rintro e w10 ⟨hbad, _⟩
      have hmf := (HMC.out.old HH9.out.srt h0 h1 0).1
      obtain ⟨v10, rfl, hev, hb⟩ := hbad (by rw [hmf]; decide)
      rw [hmf] at hev
      have HB10 := Lib.hid (Below.call HB9.out hb HB9.out.size); have HH10 := Lib.hid (HH9.out.below hb)
      have HE10 := Lib.hid (hev.is (HS.out _ HB10.out))
      clear hbad hmf hev hb
      go_wp2_with fail
      refine (coded2_any v10 8 (-1) 8 _ (HS.out _ HB10.out) (Nat.le_trans hB0 HB10.out.size) HE10.out).mono ?_
      rintro e w11 ⟨rfl, hb⟩
      have HB11 := Lib.hid (Below.call HB10.out hb HB10.out.size); have HH11 := Lib.hid (HH10.out.below hb)
      clear hb
      go_wp2_with fail
      refine (hadd_any (nmI 7) (t + 1, 0) _ (Nat.le_trans (nm_len 7) (by decide)) (HS.out _ HB11.out).vl (Nat.le_trans hB0 HB11.out.size) HH11.out (by rw [HL2.out]; decide) Hpl2.out).mono ?_
      rintro e w12 ⟨_, hok⟩
      obtain ⟨rfl, D12, L12, hH12, hab, hfr⟩ := hok (by rw [(HMC.out.old HH11.out.srt h0 h1 0).2])
      have HB12 := Lib.hid (show Below w.heap.size w w12 from HB11.out.trans (hfr.below HB11.out.size (fun j hj h => by omega)))
      have HH12 := Lib.hid hH12
      have HC12 := Lib.hid (show hCnt L12 = 1 by rw [← hCount_of, hab, hCount_add HH11.out.srt, HMC.out.count.1])
      clear hok hab hfr hH12
      go_wp2_with fail
      refine (hcount_any _ HH12.out (by rw [HC12.out]; decide)).mono ?_
      rintro e w13 ⟨rfl, hb⟩
      rw [HC12.out]
      have HB13 := Lib.hid (Below.call HB12.out hb HB12.out.size)
      clear hb
      go_wp2
      go_ret
      exact ⟨rfl, HB13.out⟩
end Go.Proofs.YtfnjgminbjopeaaDoor
