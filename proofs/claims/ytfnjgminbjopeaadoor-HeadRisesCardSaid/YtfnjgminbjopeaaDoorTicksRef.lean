/- Ticks: the reference's TicksFault and TicksOf, wave.Ticks at a bad tick, faulted: by contracts. -/
import Derived.Test.YtfnjgminbjopeaaDoorTicksOk
import Derived.Test.YtfnjgminbjopeaaDoorWaveRef
import Derived.Test.YtfnjgminbjopeaaDoorCode
import Derived.BigQuiet
namespace Go.Proofs.YtfnjgminbjopeaaDoor
open Go.RowKit
set_option linter.unusedVariables false

abbrev zero2 : Array Value := #[.int .i64 0, .int .i64 0]
set_option maxRecDepth 100000 in
set_option maxHeartbeats 1000000 in
theorem ticks_bad {es : Nat → Addr} {B : Nat} (g : Nat) (A : Option Addr) (n c : Nat) (l : List Int) (i : Nat) (y : Int) (w : World) (hS : SV es B w) (hA : Rd w w.heap.size 1 A n (l.map (Value.int .i64))) (hn : n ≤ 100000) (hi : l[i]? = some y) (hy : ¬ Tick y) (hl : ∀ j z, j < i → l[j]? = some z → Tick z) :
    Calls Tryd.prog 71 #[.pointer (some ⟨g, 0, none⟩), .slice A n c] w fun e w' => ∃ pb, e = .returned (faultV ⟨pb, 0, none⟩) ∧ w.heap.size ≤ pb ∧ pb < w'.heap.size ∧ w'.cell? ⟨pb, 0, none⟩ = some (.int .i64 i) ∧ w'.cell? ⟨pb, 1, none⟩ = some (sentV (es 1)) ∧ Below w.heap.size w w' := by
  have hlen : l.length = n := by have := hA.1; simp at this; omega
  have hin : i < n := by rw [← hlen]; exact (List.getElem?_eq_some_iff.1 hi).1
  have g1 : w.cell? ⟨1, 0, none⟩ = some (sentV (es 1)) := hS.var 1 (by decide)
  have HA := Lib.hid hA; have Hl := Lib.hid hl; have Hi := Lib.hid hi; have Hy := Lib.hid hy
  clear hA hl hi hy hlen hS
  go_enter Tryd.func71, Tryd.ntmps71
  go_wp2
  go_loop [18] (fun v => ∃ k : Nat, k ≤ i ∧ v = .int .i64 k) (fun v => n - (intOf v).toNat)
  case atStart => exact ⟨0, by omega, rfl⟩
  case round =>
    obtain ⟨k, hk, rfl⟩ := hrel
    have hkn : k < n := by omega
    obtain ⟨bb, off, t, hAe, had, hy, e0⟩ := HA.out.at1 hkn
    subst hAe
    by_cases hki : k < i
    · obtain ⟨ht0, ht1⟩ := Hl.out k t hki hy
      clear hy had
      go_wp2
      go_round
      case rel => exact ⟨k + 1, by omega, by go_num⟩
      case measure => simp [intOf]; omega
    · obtain rfl : k = i := by omega
      obtain rfl : t = y := Option.some.inj (hy.symm.trans Hi.out)
      have hbad : t < -1099511627776 ∨ 1099511627776 < t := by have := Hy.out; unfold Tick at this; omega
      clear hy had
      rcases hbad with hbad | hbad
      · go_wp2
        go_ret
        exact ⟨w.heap.size, rfl, Nat.le_refl _, by simp, by simp, by simp, by go_grown⟩
      · have hge : -1099511627776 ≤ t := by omega
        have hnl : ¬ t ≤ 1099511627776 := by omega
        have hnd : decide (t ≤ 1099511627776) = false := decide_eq_false hnl
        go_wp2
        go_ret
        exact ⟨w.heap.size, rfl, Nat.le_refl _, by simp, by simp, by simp, by go_grown⟩

theorem stepsL_take (l : List Int) {k : Nat} (hk : k < l.length) : wavesL ((stepsL l).take (k + 1)) = wavesL ((stepsL l).take k) ++ waveBits (stepAt l k) := wavesL_next (stepsL_get l k hk)
theorem stepAt_range (l : List Int) (hl : ∀ t ∈ l, Tick t) (k : Nat) : -4398046511104 ≤ stepAt l k ∧ stepAt l k ≤ 4398046511104 := by
  have h : ∀ i, -1099511627776 ≤ l.getD i 0 ∧ l.getD i 0 ≤ 1099511627776 := by
    intro i
    rw [List.getD_eq_getElem?_getD]
    cases he : l[i]? with
    | none => simp
    | some t => obtain ⟨a, b⟩ := hl t (List.mem_of_getElem? he); simpa using ⟨a, b⟩
  have h0 := h k
  have h1 := h (k - 1)
  have h2 := h (k - 2)
  have h3 := h 0
  have h4 := h 1
  unfold stepAt
  split
  · omega
  · split <;> omega

set_option maxRecDepth 100000 in
set_option maxHeartbeats 2000000 in
theorem ticksOf_any (A : Option Addr) (n c : Nat) (l : List Int) (w : World) (hA : Rd w w.heap.size 1 A n (l.map (Value.int .i64))) (hn : n ≤ 1000) (hl : ∀ t ∈ l, Tick t) :
    Calls Tryd.prog 118 #[.slice A n c] w fun e w' => e = .returned (.string (txt (ticksBits l))) ∧ Below w.heap.size w w' := by
  have hlen : l.length = n := by have := hA.1; simp at this; omega
  have HA := Lib.hid hA; have Hl := Lib.hid hl; have Hlen := Lib.hid hlen
  clear hA hl hlen
  go_enter Tryd.func118, Tryd.ntmps118
  go_wp2
  go_loopw [3, 4] (fun m i wr => ∃ (k : Nat) (st : ByteArray) (L : List Bool), k ≤ n ∧ i = .int .i64 k ∧ m = .string st ∧ st = txt L ∧ st.size = L.length ∧ L = wavesL ((stepsL l).take k) ∧ L.length ≤ 68 * k ∧ Below w.heap.size w wr) (fun _ i _ => n - (intOf i).toNat)
  case atStart => exact ⟨0, ByteArray.empty, [], by omega, rfl, rfl, rfl, rfl, rfl, by simp, Below.refl _ _⟩
  case round =>
    obtain ⟨k, st, L, hk, rfl, rfl, hst, hsz, hL, hLk, hbel⟩ := hrel
    have Hst := Lib.hid hst; have Hsz := Lib.hid hsz; have HL := Lib.hid hL; have Hbel := Lib.hid hbel
    clear hst hsz hL hbel
    by_cases hkn : k < n
    · have hsr := stepAt_range l Hl.out k
      have hnx := stepsL_take l (k := k) (by rw [Hlen.out]; exact hkn)
      rw [← HL.out] at hnx
      have hwl := waveBits_len (stepAt l k)
      have hsb := sizeN_bd (stepAt l k)
      have htx : st ++ txt (waveBits (stepAt l k)) = txt (L ++ waveBits (stepAt l k)) := by rw [Hst.out, txt_append]
      have hl2 : (L ++ waveBits (stepAt l k)).length ≤ 68 * (k + 1) := by rw [List.length_append]; omega
      have htb : (txt (waveBits (stepAt l k))).size ≤ 68 := by rw [txt_size]; omega
      have hss : st.size ≤ 68 * k := by rw [Hsz.out]; exact hLk
      have fin : ∀ (W W' : World), Below w.heap.size w W → Below W.heap.size W W' → Below w.heap.size w W' := fun W W' h1 h2 => Below.call h1 h2 h1.size
      generalize htt : txt (waveBits (stepAt l k)) = tb at htx htb
      have Hnx := Lib.hid hnx; have Htx := Lib.hid htx; have Hl2 := Lib.hid hl2; have Htt := Lib.hid htt; have Hsr := Lib.hid hsr; have Hfin := Lib.hid fin
      clear hnx htx hl2 htt hwl hsb hsr fin
      obtain ⟨bb, off, t, hAe, had, hy, e0⟩ := HA.out.at1 hkn
      subst hAe
      have e0' := (Hbel.out.cell (p := ⟨bb, off + k, none⟩) had).trans e0
      obtain ⟨ht0, ht1⟩ := Hl.out t (List.mem_of_getElem? hy)
      have hg := getD_of hy
      clear e0
      have hc : k = 0 ∨ k = 1 ∨ 2 ≤ k := by omega
      rcases hc with hc | hc | hc
      · have hx : stepAt l k = t := by unfold stepAt; rw [if_pos hc, ← hg, hc]
        have hc' : (k : Int) ≤ 0 := by omega
        rw [hx] at Htt Hsr
        have Hc := Lib.hid hc; have Hx := Lib.hid hx
        clear hy hg hc hx
        go_wp2_with fail
        refine (waveOf_any t (by have := Hsr.out; omega) _).mono ?_
        rintro e w3 ⟨rfl, hb3⟩
        rw [Htt.out]
        have Hb3 := Lib.hid (Hfin.out _ _ Hbel.out hb3)
        clear hb3
        go_wp2
        go_roundw
        case rel => exact ⟨k + 1, _, L ++ waveBits (stepAt l k), by omega, by go_num, rfl, Htx.out, by rw [Htx.out, txt_size], Hnx.out.symm, Hl2.out, Hb3.out⟩
        case measure => simp [intOf]; omega
      · obtain ⟨b1, o1, t1, hAe1, had1, hy1, e1⟩ := HA.out.at1 (k := k - 1) (by omega)
        injection hAe1 with hAe1
        injection hAe1 with hA1 hA2
        subst hA1; subst hA2
        have e1' := (Hbel.out.cell (p := ⟨bb, off + (k - 1), none⟩) had1).trans e1
        obtain ⟨ht2, ht3⟩ := Hl.out t1 (List.mem_of_getElem? hy1)
        have hg1 := getD_of hy1
        subst hc
        simp only [Nat.sub_self, Nat.add_zero] at e1' hg1
        have hx : stepAt l 1 = t - t1 := by unfold stepAt; rw [if_neg (by omega), if_pos rfl, ← hg, ← hg1]
        rw [hx] at Htt Hsr
        have Hx := Lib.hid hx
        clear hy hg hx hy1 hg1 e1
        go_wp2_with fail
        refine (waveOf_any (t - t1) (by have := Hsr.out; omega) _).mono ?_
        rintro e w3 ⟨rfl, hb3⟩
        rw [Htt.out]
        have Hb3 := Lib.hid (Hfin.out _ _ Hbel.out hb3)
        clear hb3
        go_wp2
        go_roundw
        case rel => exact ⟨2, _, L ++ waveBits (stepAt l 1), by omega, by go_num, rfl, Htx.out, by rw [Htx.out, txt_size], Hnx.out.symm, Hl2.out, Hb3.out⟩
        case measure => simp [intOf]; omega
      · obtain ⟨j, rfl⟩ : ∃ j, k = j + 2 := ⟨k - 2, by omega⟩
        obtain ⟨b1, o1, t1, hAe1, had1, hy1, e1⟩ := HA.out.at1 (k := j + 1) (by omega)
        injection hAe1 with hAe1
        injection hAe1 with hA1 hA2
        subst hA1; subst hA2
        obtain ⟨b2, o2, t2, hAe2, had2, hy2, e2⟩ := HA.out.at1 (k := j) (by omega)
        injection hAe2 with hAe2
        injection hAe2 with hA1 hA2
        subst hA1; subst hA2
        have e1' := (Hbel.out.cell (p := ⟨bb, off + (j + 1), none⟩) had1).trans e1
        have e2' := (Hbel.out.cell (p := ⟨bb, off + j, none⟩) had2).trans e2
        obtain ⟨ht2, ht3⟩ := Hl.out t1 (List.mem_of_getElem? hy1)
        obtain ⟨ht4, ht5⟩ := Hl.out t2 (List.mem_of_getElem? hy2)
        have hg1 := getD_of hy1
        have hg2 := getD_of hy2
        have hx : stepAt l (j + 2) = t - t1 - (t1 - t2) := by
          unfold stepAt
          rw [if_neg (by omega), if_neg (by omega), show j + 2 - 1 = j + 1 by omega, show j + 2 - 2 = j by omega, hg, hg1, hg2]
        rw [hx] at Htt Hsr
        have Hx := Lib.hid hx
        have n1 : IntKind.i64.wrap ((j : Int) + 2 - 1) = ((j + 1 : Nat) : Int) := by rw [IntKind.wrap_i64]; omega
        have n2 : IntKind.i64.wrap ((j : Int) + 2 - 2) = ((j : Nat) : Int) := by rw [IntKind.wrap_i64]; omega
        have n3 : IntKind.i64.wrap (t1 - t2) = t1 - t2 := by rw [IntKind.wrap_i64]; omega
        have n4 : IntKind.i64.wrap (t - t1 - (t1 - t2)) = t - t1 - (t1 - t2) := by rw [IntKind.wrap_i64]; omega
        clear hy hg hx hy1 hg1 e1 hy2 hg2 e2
        go_wp2
        go_quiet (fail)
        go_wp2_with fail
        refine (waveOf_any (t - t1 - (t1 - t2)) (by have := Hsr.out; omega) _).mono ?_
        rintro e w3 ⟨rfl, hb3⟩
        rw [Htt.out]
        have Hb3 := Lib.hid (Hfin.out _ _ (Below.drewN Hbel.out _) hb3)
        clear hb3
        go_wp2
        go_roundw
        case rel => exact ⟨j + 2 + 1, _, L ++ waveBits (stepAt l (j + 2)), by omega, by go_num, rfl, Htx.out, by rw [Htx.out, txt_size], Hnx.out.symm, Hl2.out, Hb3.out⟩
        case measure => simp [intOf]; omega
    · obtain rfl : k = n := by omega
      have e : L = ticksBits l := by rw [HL.out, List.take_of_length_le (by rw [stepsL_len, Hlen.out]; exact Nat.le_refl _)]; rfl
      have He := Lib.hid e
      clear e
      go_wp2
      go_ret
      exact ⟨by rw [Hst.out, He.out]; rfl, Hbel.out⟩

/-- faulted: an error's number and place, and the reference's. -/
theorem faulted_any {es : Nat → Addr} {B : Nat} (v : Value) (n t : Int) (c at_ : Int) (w : World) (hS : Sents es B w) (hB : B ≤ w.heap.size) (hv : ErrIs es w v n t) (hc : n = c) (ht : c = 0 ∨ t = at_) :
    Calls Tryd.prog 23 #[v, .agg #[.int .i64 c, .int .i64 at_]] w fun e w' => e = .returned (.bool true) ∧ Below w.heap.size w w' := by
  subst hc
  have hb1 : Below w.heap.size w (w.alloc (.cells #[.int .i64 n, .int .i64 at_] 29)) := by go_grown
  have hcd := code_any v n t _ (hS.below hb1 hB) (by simp; omega) (hv.below hb1 (Nat.le_refl _))
  have Hcd := Lib.hid hcd; have Hb1 := Lib.hid hb1
  have HK := Lib.hid (Blk.new w 29 #[.int .i64 n, .int .i64 at_])
  clear hcd hb1 hv hS
  by_cases h0 : n = 0
  · subst h0
    go_enter Tryd.func23, Tryd.ntmps23
    go_wp2_with fail
    refine Hcd.out.mono ?_
    rintro e w1 ⟨rfl, hb⟩
    have hk := HK.out.below hb (by simp)
    have z0 := hk.cell 0; have z1 := hk.cell 1
    simp only [List.getElem?_toArray, List.getElem?_cons_zero, List.getElem?_cons_succ] at z0 z1
    have Hb := Lib.hid (Below.call Hb1.out hb (by simp))
    clear hb hk
    go_wp2
    go_ret
    exact ⟨rfl, Hb.out⟩
  · obtain rfl : t = at_ := by omega
    have b0 : (n == 0) = false := by rw [beq_eq_false_iff_ne]; exact h0
    clear h0 ht
    go_enter Tryd.func23, Tryd.ntmps23
    go_wp2_with fail
    refine Hcd.out.mono ?_
    rintro e w1 ⟨rfl, hb⟩
    have hk := HK.out.below hb (by simp)
    have z0 := hk.cell 0; have z1 := hk.cell 1
    simp only [List.getElem?_toArray, List.getElem?_cons_zero, List.getElem?_cons_succ] at z0 z1
    have Hb := Lib.hid (Below.call Hb1.out hb (by simp))
    clear hb hk
    go_wp2
    go_ret
    exact ⟨rfl, Hb.out⟩
end Go.Proofs.YtfnjgminbjopeaaDoor
