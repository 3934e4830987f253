/- The reference's head: Fault. -/
import Derived.Test.YtfnjgminbjopeaaGreatDoorRHead2Q
import Derived.Test.YtfnjgminbjopeaaGreatDoorLabOfQ
import Derived.Test.YtfnjgminbjopeaaGreatDoorMgae
import Derived.Test.YtfnjgminbjopeaaGreatDoorBareQ
namespace Go.Proofs.YtfnjgminbjopeaaGreatDoor
open Go.RowKit
set_option linter.unusedVariables false

theorem rdF_zero {s : Bs} (h : (rdF s).1 = 0) : rdF s = (0, -1) := by
  cases hp : parseL s with
  | none => rw [rdF_none hp] at h; cases h
  | some l =>
    rw [rdF_some hp] at h ⊢
    rcases lbF_cases l with ⟨_, e⟩ | ⟨_, e⟩ | ⟨i, _, _, _, _, _, e⟩ | ⟨_, _, _, e⟩
    · rw [e] at h; simp at h
    · rw [e] at h; simp at h
    · rw [e] at h; simp at h
    · exact e
theorem res_rf (tmps : Array Value) (W : World) (b : Nat) (v0 v1 : Value) (ha : tmps.getD 6 undef = .pointer (some ⟨b, 0, none⟩)) (hB : Blk W b 40 #[v0, v1]) :
    (results Tryz.f22 tmps).run Tryz.prog W = .ok (.agg #[v0, v1]) W := by
  obtain ⟨z0, z1⟩ := hB.duo2
  simp only [Array.getD_eq_getD_getElem?] at ha
  simp [results, Tryz.results22, go_sem, ha, z0, z1]

/-- The fault is stored and answered. -/
theorem rf_end {w w4 : World} {f : Nat} (hf : f = w.heap.size) (hq : Blk w4 (f + 1) 40 #[.int .i64 0, .int .i64 0]) (hb : Below w.heap.size w w4) (n : Nat) (m : Int) {s : Bs} {p : Int × Int} {A : List HA} (hF : hFault A s p = (n, m)) (a : Act) (hd : a.defers = []) (ha : a.tmps.getD 6 undef = .pointer (some ⟨f + 1, 0, none⟩)) :
    bodyPost Tryz.prog Tryz.f22 (fun e w' => e = .returned (fV (hFault A s p)) ∧ Below w.heap.size w w') .ret a ((w4.setCell ⟨f + 1, 0, none⟩ (.int .i64 (n : Int))).setCell ⟨f + 1, 1, none⟩ (.int .i64 m)) := by
  have HB4 := ((hq.set_ 0 (.int .i64 (n : Int))).set_ 1 (.int .i64 m))
  refine bodyPost_ret (res_rf _ _ (f + 1) _ _ ha HB4) hd ?_
  refine ⟨by rw [hF]; rfl, ?_⟩
  exact ((hb.setCell (p := ⟨f + 1, 0, none⟩) (by rw [hf]; exact Nat.le_succ _) (.int .i64 (n : Int))).setCell (p := ⟨f + 1, 1, none⟩) (by rw [hf]; exact Nat.le_succ _) (.int .i64 m))

set_option maxRecDepth 100000 in
set_option maxHeartbeats 4000000 in
theorem rfault_any {G : Nat → Prop} {b : Nat} {lv : Value} {L : List RLn} (s : Bs) (p : Int × Int) (w : World) (hs : s.length ≤ 100000) (hR : RefAt w G b lv L) (hL : L.length ≤ 1000) :
    Calls Tryz.prog 22 #[.pointer (some ⟨b, 0, none⟩), .string (B8 s), .agg #[.int .i64 p.1, .int .u64 p.2]] w fun e w' => e = .returned (fV (hFault (absR L) s p)) ∧ Below w.heap.size w w' := by
  obtain ⟨t, bt⟩ := p
  have HR := Lib.hid hR
  have hb := hR.hd.lt
  clear hR
  have Hlo := Lib.hid (fun W => labelsOf_u s hs W)
  go_enter Tryz.func22, Tryz.ntmps22
  go_wp2_with fail
  obtain ⟨f, hf⟩ : ∃ f, f = w.heap.size := ⟨_, rfl⟩
  have Hf := Lib.hid hf
  have qp := ((Blk.new w 32 #[.int .i64 t, .int .u64 bt]).alloc (.cells #[.int .i64 0, .int .i64 0] 40))
  have qf := Blk.new (w.alloc (.cells #[.int .i64 t, .int .u64 bt] 32)) 40 #[.int .i64 0, .int .i64 0]
  rw [World.size_alloc, ← hf] at qf
  rw [← hf] at qp
  have hW : Below w.heap.size w ((w.alloc (.cells #[.int .i64 t, .int .u64 bt] 32)).alloc (.cells #[.int .i64 0, .int .i64 0] 40)) := by go_grown
  refine (Hlo.out _).mono ?_
  rintro e w2 ⟨u, l, rfl, ho, _, _, hb2⟩
  have hB2 : Below w.heap.size w w2 := Below.call hW hb2 (by simp; omega)
  have QP2 := Lib.hid (qp.below hb2 qp.lt); have QF2 := Lib.hid (qf.below hb2 qf.lt); have HB2 := Lib.hid hB2
  obtain ⟨Au, cu, rfl, _, _, _⟩ := own_form ho
  have hf2 : f + 1 < w2.heap.size := QF2.out.lt
  rw [← hf]
  clear qp qf hW hb2 hB2 ho hf
  by_cases hc : (rdF s).1 = 0
  · have hr0 := rdF_zero hc
    rw [hr0]
    have HRd := Lib.hid hr0
    have hs2 := HB2.out.size
    clear hr0 hc
    unfold fV
    dsimp only
    have z0 : w2.cell? ⟨f, 0, none⟩ = some (.int .i64 t) := QP2.out.cell 0
    have hfl : f < w2.heap.size := by omega
    go_wp2_with fail
    have qp3 := QP2.out.alloc (.cells #[.int .i64 0, .int .i64 (-1)] 40)
    have qf3 := QF2.out.alloc (.cells #[.int .i64 0, .int .i64 (-1)] 40)
    have hb3 := Below.alloc HB2.out hs2 (.cells #[.int .i64 0, .int .i64 (-1)] 40)
    generalize hw3 : w2.alloc (.cells #[.int .i64 0, .int .i64 (-1)] 40) = w3 at qp3 qf3 hb3
    have hR3 := HR.out.below hb3
    have QF3 := Lib.hid qf3; have HB3 := Lib.hid hb3
    have x0 : w3.cell? ⟨f, 0, none⟩ = some (.int .i64 t) := qp3.cell 0
    have z0' : w3.cell? ⟨f + 1, 0, none⟩ = some (.int .i64 0) := qf3.cell 0
    have z1 : w3.cell? ⟨f + 1, 1, none⟩ = some (.int .i64 0) := qf3.cell 1
    have za := qf3.frozen 0; have zb := qf3.frozen 1
    have hs3 := hb3.size
    have fin : ∀ (n : Nat) (m : Int), hFault (absR L) s (t, bt) = (n, m) → bodyPost Tryz.prog Tryz.f22 (fun e w' => e = .returned (fV (hFault (absR L) s (t, bt))) ∧ Below w.heap.size w w') Exit.ret = bodyPost Tryz.prog Tryz.f22 (fun e w' => e = .returned (.agg #[.int .i64 (n : Int), .int .i64 m]) ∧ Below w.heap.size w w') Exit.ret := by
      intro n m h
      rw [h]; rfl
    have Hfin := Lib.hid fin
    clear qp3 qf3 hb3 hw3 z0 hs2 hfl fin
    by_cases htk : -1099511627776 ≤ t ∧ t ≤ 1099511627776
    · refine (isTick_in t htk.1 htk.2 _).mono ?_
      rintro e w' ⟨rfl, rfl⟩
      have Htk := Lib.hid (show tickB t = true from decide_eq_true htk)
      clear htk
      by_cases h : rIx L s < L.length
      · obtain ⟨x, hx, hxm, hfx⟩ := rIx_get h
        have Hfind := Lib.hid (rfind_in s w3 hR3 hL h)
        obtain ⟨A, c, rfl, _, _, hrd⟩ := own_form hR3.rows
        have z2 : w3.cell? ⟨b, 0, none⟩ = some (.slice A L.length c) := hR3.hd.cell 0
        obtain ⟨bl, o, y, hA, _, hy, _, _, e2⟩ := hrd.at3r h
        obtain rfl : y = x := Option.some.inj (hy.symm.trans hx)
        subst hA
        have HF := Lib.hid (show hFault (absR L) s (t, bt) = if t ≤ y.last then (8, -1) else (0, -1) by
          unfold hFault
          rw [if_neg (by rw [HRd.out]; simp), if_neg (by rw [Htk.out]; simp), hfx])
        clear hR3 hrd hx hxm hfx hy
        generalize rIx L s = ix at h Hfind e2
        generalize L.length = n at h z2 hL
        have h' : (ix : Int) < n := by omega
        have hix : (0 : Int) ≤ (ix : Int) := by omega
        by_cases hlast : t ≤ y.last
        · have hF := HF.out
          rw [if_pos hlast] at hF
          have HF2 := Lib.hid hF
          clear hF
          go_wp2_with (first | (go_at_call 23; refine Hfind.out.mono ?_; rintro e w' ⟨rfl, rfl⟩))
          go_quiet (fail)
          go_wp2_with (go_at_call 34; refine (bare_any 8 _).mono ?_; rintro e w4 ⟨rfl, hb4⟩; have QF4 := Lib.hid ((QF3.out.drewN nq).below hb4 (QF3.out.drewN nq).lt); have HB4 := Lib.hid (Below.call (Below.drewN HB3.out nq) hb4 (Below.drewN HB3.out nq).size); have z0' : w4.cell? ⟨f + 1, 0, none⟩ = some (.int .i64 0) := QF4.out.cell 0; have z1 : w4.cell? ⟨f + 1, 1, none⟩ = some (.int .i64 0) := QF4.out.cell 1; have za := QF4.out.frozen 0; have zb := QF4.out.frozen 1; clear hb4)
          (try simp only [Exit.inBlock, Exit.then])
          exact rf_end Hf.out QF4.out HB4.out 8 (-1) HF2.out _ rfl rfl
        · have hF := HF.out
          rw [if_neg hlast] at hF
          have HF2 := Lib.hid hF
          have hix' : ¬ (ix : Int) < 0 := by omega
          clear hF
          go_wp2_with (first | (go_at_call 23; refine Hfind.out.mono ?_; rintro e w' ⟨rfl, rfl⟩))
          go_quiet (fail)
          go_wp2_with (go_at_call 35; refine (fine_any _).mono ?_; rintro e w4 ⟨rfl, hb4⟩; have QF4 := Lib.hid ((QF3.out.drewN nq).below hb4 (QF3.out.drewN nq).lt); have HB4 := Lib.hid (Below.call (Below.drewN HB3.out nq) hb4 (Below.drewN HB3.out nq).size); have z0' : w4.cell? ⟨f + 1, 0, none⟩ = some (.int .i64 0) := QF4.out.cell 0; have z1 : w4.cell? ⟨f + 1, 1, none⟩ = some (.int .i64 0) := QF4.out.cell 1; have za := QF4.out.frozen 0; have zb := QF4.out.frozen 1; clear hb4)
          (try simp only [Exit.inBlock, Exit.then])
          exact rf_end Hf.out QF4.out HB4.out 0 (-1) HF2.out _ rfl rfl
      · have Hfind := Lib.hid (rfind_out s w3 hR3 hL h)
        have HF := Lib.hid (show hFault (absR L) s (t, bt) = if 60 ≤ L.length then (7, -1) else (0, -1) by
          unfold hFault
          rw [if_neg (by rw [HRd.out]; simp), if_neg (by rw [Htk.out]; simp), rIx_none h, absR_len])
        obtain ⟨A, c, rfl, _, _, hrd⟩ := own_form hR3.rows
        have z2 : w3.cell? ⟨b, 0, none⟩ = some (.slice A L.length c) := hR3.hd.cell 0
        clear hR3 hrd h
        generalize L.length = n at z2 hL HF
        by_cases h60 : 60 ≤ n
        · have hF := HF.out
          rw [if_pos h60] at hF
          have HF2 := Lib.hid hF
          have h60' : (60 : Int) ≤ (n : Int) := by omega
          clear hF
          go_wp2_with (first | (go_at_call 23; refine Hfind.out.mono ?_; rintro e w' ⟨rfl, rfl⟩))
          go_quiet (fail)
          go_wp2_with (go_at_call 34; refine (bare_any 7 _).mono ?_; rintro e w4 ⟨rfl, hb4⟩; have QF4 := Lib.hid ((QF3.out.drewN nq).below hb4 (QF3.out.drewN nq).lt); have HB4 := Lib.hid (Below.call (Below.drewN HB3.out nq) hb4 (Below.drewN HB3.out nq).size); have z0' : w4.cell? ⟨f + 1, 0, none⟩ = some (.int .i64 0) := QF4.out.cell 0; have z1 : w4.cell? ⟨f + 1, 1, none⟩ = some (.int .i64 0) := QF4.out.cell 1; have za := QF4.out.frozen 0; have zb := QF4.out.frozen 1; clear hb4)
          (try simp only [Exit.inBlock, Exit.then])
          exact rf_end Hf.out QF4.out HB4.out 7 (-1) HF2.out _ rfl rfl
        · have hF := HF.out
          rw [if_neg h60] at hF
          have HF2 := Lib.hid hF
          have h60' : ¬ (60 : Int) ≤ (n : Int) := by omega
          clear hF
          go_wp2_with (first | (go_at_call 23; refine Hfind.out.mono ?_; rintro e w' ⟨rfl, rfl⟩))
          go_quiet (fail)
          go_wp2_with (go_at_call 35; refine (fine_any _).mono ?_; rintro e w4 ⟨rfl, hb4⟩; have QF4 := Lib.hid ((QF3.out.drewN nq).below hb4 (QF3.out.drewN nq).lt); have HB4 := Lib.hid (Below.call (Below.drewN HB3.out nq) hb4 (Below.drewN HB3.out nq).size); have z0' : w4.cell? ⟨f + 1, 0, none⟩ = some (.int .i64 0) := QF4.out.cell 0; have z1 : w4.cell? ⟨f + 1, 1, none⟩ = some (.int .i64 0) := QF4.out.cell 1; have za := QF4.out.frozen 0; have zb := QF4.out.frozen 1; clear hb4)
          (try simp only [Exit.inBlock, Exit.then])
          exact rf_end Hf.out QF4.out HB4.out 0 (-1) HF2.out _ rfl rfl
    · refine (isTick_out t htk _).mono ?_
      rintro e w' ⟨rfl, rfl⟩
      have HF := Lib.hid (show hFault (absR L) s (t, bt) = (2, -1) by
        unfold hFault
        rw [if_neg (by rw [HRd.out]; simp), if_pos (by unfold tickB; exact decide_eq_false htk)])
      clear hR3 htk za zb z0' z1
      go_wp2_with (go_at_call 34; refine (bare_any 2 _).mono ?_; rintro e w4 ⟨rfl, hb4⟩; have QF4 := Lib.hid (QF3.out.below hb4 QF3.out.lt); have HB4 := Lib.hid (Below.call HB3.out hb4 hs3); have z0' : w4.cell? ⟨f + 1, 0, none⟩ = some (.int .i64 0) := QF4.out.cell 0; have z1 : w4.cell? ⟨f + 1, 1, none⟩ = some (.int .i64 0) := QF4.out.cell 1; have za := QF4.out.frozen 0; have zb := QF4.out.frozen 1; clear hb4)
      (try simp only [Exit.inBlock, Exit.then])
      exact rf_end Hf.out QF4.out HB4.out 2 (-1) HF.out _ rfl rfl
  · have hF : hFault (absR L) s (t, bt) = rdF s := by unfold hFault; rw [if_pos hc]
    have HF := Lib.hid hF
    generalize rdF s = c at hc HF
    obtain ⟨c1, c2⟩ := c
    have h0' : (0 : Int) < (c1 : Int) := by have : c1 ≠ 0 := hc; omega
    clear hc hF
    have z0 : w2.cell? ⟨f + 1, 0, none⟩ = some (.int .i64 0) := QF2.out.cell 0
    have z1 : w2.cell? ⟨f + 1, 1, none⟩ = some (.int .i64 0) := QF2.out.cell 1
    have za := QF2.out.frozen 0; have zb := QF2.out.frozen 1
    unfold fV
    dsimp only
    go_wp2
    (try simp only [Exit.inBlock, Exit.then])
    have HB3 := (((QF2.out.set_ 0 (.int .i64 (c1 : Int))).set_ 1 (.int .i64 c2)).alloc (.cells #[.int .i64 (c1 : Int), .int .i64 c2] 40))
    refine bodyPost_ret (res_rf _ _ (f + 1) _ _ rfl HB3) rfl ?_
    have hs2 := HB2.out.size
    refine ⟨by rw [HF.out]; rfl, ?_⟩
    exact Below.alloc ((HB2.out.setCell (p := ⟨f + 1, 0, none⟩) (by rw [Hf.out]; exact Nat.le_succ _) (.int .i64 (c1 : Int))).setCell (p := ⟨f + 1, 1, none⟩) (by rw [Hf.out]; exact Nat.le_succ _) (.int .i64 c2)) (by simpa using hs2) _
end Go.Proofs.YtfnjgminbjopeaaGreatDoor
