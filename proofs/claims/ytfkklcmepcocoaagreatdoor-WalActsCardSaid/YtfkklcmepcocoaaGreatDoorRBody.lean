/- The reference's bodyOf by its contract. -/
import Derived.Test.YtfkklcmepcocoaaGreatDoorRBodyN
import Derived.Test.YtfkklcmepcocoaaGreatDoorWalEnt
import Derived.Test.YtfkklcmepcocoaaGreatDoorLabOf
import Derived.Test.YtfkklcmepcocoaaGreatDoorPtsRef
import Derived.Deep.DeepCutAuto
import Derived.Deep.Light
namespace Go.Proofs.YtfkklcmepcocoaaGreatDoor
open Go.RowKit
set_option linter.unusedVariables false

/-- What the reference's hexDigit answers. -/
def hexZ (n : Nat) : Int := if 48 ≤ n ∧ n ≤ 57 then (n : Int) - 48 else if 97 ≤ n ∧ n ≤ 102 then (n : Int) - 97 + 10 else -1
theorem hexZ_some {c : UInt8} {d : Nat} (h : hexV c = some d) : hexZ c.toNat = (d : Int) := by
  unfold hexV at h
  unfold hexZ
  split at h
  · rename_i h1
    injection h with h
    rw [if_pos h1]; omega
  · rename_i h1
    split at h
    · rename_i h2
      injection h with h
      rw [if_neg h1, if_pos h2]; omega
    · cases h
theorem hexZ_none {c : UInt8} (h : hexV c = none) : hexZ c.toNat = -1 := by
  unfold hexV at h
  unfold hexZ
  split at h
  · cases h
  · rename_i h1
    split at h
    · cases h
    · rename_i h2
      rw [if_neg h1, if_neg h2]
theorem hexDigit_any (n : Nat) (hn : n < 256) (w : World) : Calls Tryz.prog 75 #[.int .u8 (n : Int)] w fun e w' => e = .returned (.int .i64 (hexZ n)) ∧ w = w' := by
  rcases (show n < 48 ∨ (48 ≤ n ∧ n ≤ 57) ∨ (57 < n ∧ n < 97) ∨ (97 ≤ n ∧ n ≤ 102) ∨ 102 < n by omega) with h | ⟨h, h2⟩ | ⟨h, h2⟩ | ⟨h, h2⟩ | h
  case' inl => have hr : hexZ n = -1 := by unfold hexZ; rw [if_neg (by omega), if_neg (by omega)]
  case' inr.inl => have hr : hexZ n = (n : Int) - 48 := by unfold hexZ; rw [if_pos ⟨h, h2⟩]
  case' inr.inr.inl => have hr : hexZ n = -1 := by unfold hexZ; rw [if_neg (by omega), if_neg (by omega)]
  case' inr.inr.inr.inl => have hr : hexZ n = (n : Int) - 97 + 10 := by unfold hexZ; rw [if_neg (by omega), if_pos ⟨h, h2⟩]
  case' inr.inr.inr.inr => have hr : hexZ n = -1 := by unfold hexZ; rw [if_neg (by omega), if_neg (by omega)]
  all_goals
    rw [hr]
    clear hr
    go_enter Tryz.func75, Tryz.ntmps75
    go_wp2
    go_ret
    exact ⟨rfl, rfl⟩
def NoBody (b : Bs) : Prop := ∀ e0, EnOk e0 → bodyL e0 = b → False
theorem ent_none {b : Bs} (h : NoBody b) : EntPost b (.returned (.tuple #[.agg #[.string ⟨#[]⟩, .int .i64 0, .int .u64 0], .bool false])) :=
  ⟨[], 0, 0, false, rfl, Nat.zero_le _, by decide, fun h => (by cases h), fun e0 h1 h2 => (h e0 h1 h2).elim⟩
theorem res_body (tmps : Array Value) (W : World) (b : Nat) (v0 v1 v2 : Value) (ok : Bool) (ha : tmps.getD 2 undef = .pointer (some ⟨b, 0, none⟩)) (hk : tmps.getD 3 undef = .bool ok) (hB : Blk W b 125 #[v0, v1, v2]) :
    (results Tryz.f65 tmps).run Tryz.prog W = .ok (.tuple #[.agg #[v0, v1, v2], .bool ok]) W := by
  have z0 := hB.cell 0; have z1 := hB.cell 1; have z2 := hB.cell 2
  simp only [List.getElem?_toArray, List.getElem?_cons_zero, List.getElem?_cons_succ] at z0 z1 z2
  simp only [Array.getD_eq_getD_getElem?] at ha hk
  simp [results, Tryz.results65, go_sem, ha, hk, z0, z1, z2]
/-- The result's block, zero again; all else as it was. -/
theorem body_zero {w W : World} {f : Nat} {v0 v1 v2 : Value} (hf : w.heap.size ≤ f) (hb : Below w.heap.size w W) (hk : Blk W f 125 #[v0, v1, v2]) (u0 u1 u2 : Value) :
    Blk (((W.setCell ⟨f, 0, none⟩ u0).setCell ⟨f, 1, none⟩ u1).setCell ⟨f, 2, none⟩ u2) f 125 #[u0, u1, u2] ∧
      Below w.heap.size w (((W.setCell ⟨f, 0, none⟩ u0).setCell ⟨f, 1, none⟩ u1).setCell ⟨f, 2, none⟩ u2) :=
  ⟨((hk.set_ 0 u0).set_ 1 u1).set_ 2 u2, Below.setCell (Below.setCell (Below.setCell hb (p := ⟨f, 0, none⟩) hf u0) (p := ⟨f, 1, none⟩) hf u1) (p := ⟨f, 2, none⟩) hf u2⟩
theorem cells3 {W : World} {f : Nat} {v0 v1 v2 : Value} (h : Blk W f 125 #[v0, v1, v2]) :
    (W.cell? ⟨f, 0, none⟩ = some v0 ∧ W.cell? ⟨f, 1, none⟩ = some v1 ∧ W.cell? ⟨f, 2, none⟩ = some v2) ∧ (W.frozen? ⟨f, 0, none⟩ = false ∧ W.frozen? ⟨f, 1, none⟩ = false ∧ W.frozen? ⟨f, 2, none⟩ = false) :=
  ⟨⟨h.cell 0, h.cell 1, h.cell 2⟩, ⟨h.frozen 0, h.frozen 1, h.frozen 2⟩⟩
theorem digB_45 {d : Bs} (h : d.getD 0 0 = 45) : digB d = d.drop 1 := if_pos h
theorem digB_no {d : Bs} (h : d.getD 0 0 ≠ 45) : digB d = d := if_neg h
theorem u8_ne {c : UInt8} {k : Nat} (h : c.toNat ≠ k) (hk : k < 256) : c ≠ UInt8.ofNat k := by
  rintro rfl
  apply h
  rw [UInt8.toNat_ofNat', Nat.mod_eq_of_lt (by omega)]
theorem nlt_i {a b : Nat} (h : a < b) : (a : Int) < (b : Int) := Int.ofNat_lt.2 h
theorem nnlt_i {a b : Nat} (h : ¬ a < b) : ¬ (a : Int) < (b : Int) := fun x => h (Int.ofNat_lt.1 x)
theorem dec_small {gl : Bs} {j m : Nat} (h : Lib.decFrom 0 (gl.take j) = some m) (hl : gl.length ≤ 14) : m < 1000000000000000 := by
  have h1 := decFrom_lt _ _ _ h
  have h2 : (gl.take j).length ≤ 14 := by rw [List.length_take]; omega
  have h3 : 10 ^ (gl.take j).length ≤ 10 ^ 14 := Nat.pow_le_pow_right (by decide) h2
  omega
theorem dec_next {c m : Nat} (h : 48 ≤ c) : ((10 * m + (c - 48) : Nat) : Int) = 10 * (m : Int) + ((c : Int) - 48) := by omega
theorem hex_small {hx : Bs} {i u : Nat} (h : hexFrom 0 (hx.take i) = some u) (hi : i < 16) : u < 1152921504606846976 := by
  have h1 := hexFrom_lt h
  have h2 : (hx.take i).length ≤ 15 := by rw [List.length_take]; omega
  have h3 : 16 ^ (hx.take i).length ≤ 16 ^ 15 := Nat.pow_le_pow_right (by decide) h2
  have e15 : (16 : Nat) ^ 15 = 1152921504606846976 := by decide
  omega
theorem hex_all {hx : Bs} {u : Nat} (h : hexFrom 0 hx = some u) (hl : hx.length = 16) : u < 18446744073709551616 := by
  have h1 := hexFrom_lt h
  rw [hl] at h1
  have e16 : (16 : Nat) ^ 16 = 18446744073709551616 := by decide
  omega
theorem c_cases (c : Nat) : (c < 48 ∧ (c : Int) < 48) ∨ (¬ c < 48 ∧ ¬ (c : Int) < 48 ∧ 57 < c ∧ (57 : Int) < c) ∨ (48 ≤ c ∧ c ≤ 57 ∧ ¬ (c : Int) < 48 ∧ ¬ (57 : Int) < c ∧ 48 ≤ (c : Int) ∧ (c : Int) ≤ 57) := by omega
set_option maxHeartbeats 16000000 in
set_option maxRecDepth 100000 in
theorem rbody_any (b : Bs) (hl : b.length ≤ 100000) (w : World) :
    Calls Tryz.prog 65 #[.string (B8 b)] w fun e w' => EntPost b e ∧ Below w.heap.size w w' := by
  obtain ⟨f, hf⟩ : ∃ f, f = w.heap.size := ⟨_, rfl⟩
  have hb0 : Below w.heap.size w (w.alloc (.cells #[.string ⟨#[]⟩, .int .i64 0, .int .u64 0] 125)) := Below.alloc (Below.refl _ _) (Nat.le_refl _) _
  have hk0 := Blk.new w 125 #[.string ⟨#[]⟩, .int .i64 0, .int .u64 0]
  rw [← hf] at hk0
  have hsz : (B8 b).size = b.length := B8_size b
  have Hat := Lib.hid (fun i (h : i < (B8 b).size) => show ((B8 b)[i]).toNat = (b.getD i 0).toNat from B8_at b i h)
  have Hex := Lib.hid (fun i j => B8_extract b i j)
  obtain ⟨n, hn⟩ : ∃ n, n = b.length := ⟨_, rfl⟩
  rw [← hn] at hsz hl
  have Hn := Lib.hid hn
  have HB0 := Lib.hid hb0; have HK0 := Lib.hid hk0
  clear hb0 hk0 hn
  generalize hst : B8 b = st at hsz Hat Hex ⊢
  clear hst
  go_enter Tryz.func65, Tryz.ntmps65
  go_wp2
  rw [← hf]
  have hf0 : w.heap.size ≤ f := by omega
  clear hf
  generalize hwx : w.alloc (.cells #[.string ⟨#[]⟩, .int .i64 0, .int .u64 0] 125) = wx at HB0 HK0
  clear hwx
  go_loopw [4] (fun kv wr => ∃ k : Nat, At64 b k ∧ kv = .int .i64 k ∧ wr = wx) (fun kv _ => n - (intOf kv).toNat)
  case atStart => exact ⟨0, At64.start b, rfl, rfl⟩
  case round =>
    obtain ⟨k, hak, rfl, rfl⟩ := hrel
    have hkn : k ≤ n := by rw [Hn.out]; exact hak.le
    have HA := Lib.hid hak
    obtain ⟨⟨q0, q1, q2⟩, ⟨r0, r1, r2⟩⟩ := cells3 HK0.out
    have Hz := Lib.hid (body_zero hf0 HB0.out HK0.out (.string ⟨#[]⟩) (.int .i64 0) (.int .u64 0))
    clear hak
    by_cases hk : k < n
    · have hk' : (k : Int) < n := by omega
      have hk1 : k < st.size := by omega
      have x0 := Hat.out k hk1
      obtain ⟨c, hc⟩ : ∃ c, c = b.getD k 0 := ⟨_, rfl⟩
      rw [← hc] at x0
      have hc256 := c.toNat_lt
      by_cases h64 : c.toNat = 64
      · have H64 := Lib.hid (show b.getD k 0 = 64 by rw [← hc]; exact UInt8.toNat_inj.1 h64)
        have HBA := Lib.hid (fun e (he : EnOk e) (hb : bodyL e = b) => bodyAt HA.out (.inr H64.out) he hb)
        rw [h64] at x0
        clear hc h64 hc256
        by_cases h19 : n - k < 19
        · have h19' : (n : Int) - k < 19 := by omega
          have hke : ((k : Int) == (n : Int)) = false := by rw [beq_eq_false_iff_ne]; omega
          have Hno := Lib.hid (show NoBody b from fun e he hb => by
            have := (HBA.out e he hb).len
            rw [← Hn.out] at this
            have := itoa_ne e.tick
            omega)
          go_wp2
          refine bodyPost_ret (res_body _ _ f _ _ _ _ rfl rfl Hz.out.1) rfl ?_
          exact ⟨ent_none Hno.out, Hz.out.2⟩
        · have h19' : ¬ (n : Int) - k < 19 := by omega
          have hkx : n - 17 < st.size := by omega
          have y0 := Hat.out (n - 17) hkx
          obtain ⟨c2, hc2⟩ : ∃ c2, c2 = b.getD (n - 17) 0 := ⟨_, rfl⟩
          rw [← hc2] at y0
          by_cases h61 : c2.toNat = 61
          · rw [h61] at y0
            clear hc2 h61
            have hke : ((k : Int) == (n : Int)) = false := by rw [beq_eq_false_iff_ne]; omega
            -- the series
            have hbk : (b.take k).length ≤ 100000 := by rw [List.length_take]; omega
            have Hlo := Lib.hid (fun W => labelsOf_u (b.take k) hbk W)
            have hx0 := Hex.out 0 k
            rw [List.drop_zero] at hx0
            have Hnm := Lib.hid (fun e (he : EnOk e) (hb : bodyL e = b) => show (rdF (b.take k)).1 = 0 by rw [(HBA.out e he hb).nm]; exact he.1)
            have hnl : (b.take k).length ≤ b.length := by rw [List.length_take]; omega
            obtain ⟨nm, hnm⟩ : ∃ nm, nm = b.take k := ⟨_, rfl⟩
            rw [← hnm] at Hlo hx0 Hnm hbk hnl
            have Hnme := Lib.hid hnm
            obtain ⟨cc, ca, hcc⟩ : ∃ cc ca, rdF nm = (cc, ca) := ⟨_, _, rfl⟩
            have Hcc := Lib.hid hcc
            rw [hcc] at Hlo
            have Hfv := Lib.hid (show fV (cc, ca) = .agg #[.int .i64 (cc : Int), .int .i64 ca] from rfl)
            rw [Hfv.out] at Hlo
            -- the digits
            have hs0 := Hex.out (k + 1) (n - 17)
            obtain ⟨dg, hdg⟩ : ∃ dg, dg = (b.take (n - 17)).drop (k + 1) := ⟨_, rfl⟩
            rw [← hdg] at hs0
            have hdl : dg.length = n - 17 - (k + 1) := by rw [hdg, List.length_drop, List.length_take, ← Hn.out]; omega
            have Hdg := Lib.hid (fun e (he : EnOk e) (hb : bodyL e = b) => show dg = Lib.itoa e.tick by
              have := (HBA.out e he hb).num
              rw [← Hn.out] at this
              rw [hdg]; exact this)
            have hd0 : (B8 dg).size = dg.length := B8_size _
            have Hz0 := Lib.hid (fun (h : 0 < (B8 dg).size) => show ((B8 dg)[0]).toNat = (dg.getD 0 0).toNat from B8_at dg 0 h)
            have Hex1 := Lib.hid (show (B8 dg).extract 1 (B8 dg).size = B8 (dg.drop 1) by rw [B8_extract, hd0, List.take_length])
            obtain ⟨c3, hc3⟩ : ∃ c3, c3 = dg.getD 0 0 := ⟨_, rfl⟩
            rw [← hc3] at Hz0
            obtain ⟨mi, hmi⟩ : ∃ mi, ((c3.toNat : Int) == 45) = mi := ⟨_, rfl⟩
            have Hmi := Lib.hid (show mi = decide (dg.getD 0 0 = 45) by
              rw [← hmi, ← hc3]
              rw [Bool.eq_iff_iff, beq_iff_eq, decide_eq_true_iff]
              constructor
              · intro h; exact UInt8.toNat_inj.1 (show c3.toNat = 45 by omega)
              · intro h; rw [h]; rfl)
            have hdn : 1 ≤ dg.length := by omega
            obtain ⟨dn, hdne⟩ : ∃ dn, dn = dg.length := ⟨_, rfl⟩
            rw [← hdne] at hd0 hdn hdl
            have Hdn := Lib.hid hdne
            generalize hsd : B8 dg = sd at hs0 hd0 Hz0 Hex1
            have Hsd := Lib.hid hsd
            have hc3l := c3.toNat_lt
            have hn19 : 19 ≤ n := by omega
            have e17 : k + 1 ≤ n - 17 := by omega
            have e18 : n - 17 ≤ st.size := by omega
            have e19 : (k : Int) + 1 ≤ (n : Int) - 17 := by omega
            have e20 : (n : Int) - 17 ≤ (n : Int) := by omega
            have e21 : (0 : Int) ≤ (n : Int) - 17 := by omega
            have e22 : ((n : Int) - 17).toNat = n - 17 := by omega
            have e23 : ((k : Int) + 1).toNat = k + 1 := by omega
            have hds : 0 < sd.size := by omega
            have z0 := Hz0.out hds
            clear hnm hcc hdg hc3 hdne hsd hdl
            go_wp2_with fail
            refine (Hlo.out _).mono ?_
            rintro e w1 ⟨u, ll, rfl, hown, _, _, hb1⟩
            obtain ⟨Au, cu, rfl, _, _, _⟩ := own_form hown
            have HB1 := Lib.hid (Below.call HB0.out hb1 HB0.out.size)
            have HK1 := Lib.hid (HK0.out.below hb1 HK0.out.lt)
            have hb2 := Below.alloc HB1.out HB1.out.size (.cells #[.int .i64 (cc : Int), .int .i64 ca] 57)
            have hk2 := HK1.out.alloc (.cells #[.int .i64 (cc : Int), .int .i64 ca] 57)
            have hfl : f < w1.heap.size := HK1.out.lt
            obtain ⟨⟨q0, q1, q2⟩, ⟨r0, r1, r2⟩⟩ := cells3 HK1.out
            have Hz := Lib.hid (body_zero hf0 hb2 hk2 (.string ⟨#[]⟩) (.int .i64 0) (.int .u64 0))
            have HB2 := Lib.hid hb2; have HK2 := Lib.hid hk2
            clear hown hb1 hb2 hk2
            by_cases hc0 : cc = 0
            · have hc0' : ¬ (0 : Int) < (cc : Int) := by omega
              have Hrd := Lib.hid (show (rdF nm).1 = 0 by rw [Hcc.out]; exact hc0)
              clear hc0
              go_upto_if 68 with fail
              generalize w1.alloc (.cells #[.int .i64 (cc : Int), .int .i64 ca] 57) = wy at HB2 HK2 Hz ⊢
              obtain ⟨⟨q0, q1, q2⟩, ⟨r0, r1, r2⟩⟩ := cells3 HK2.out
              clear hfl
              go_cut [7] (fun s7 wx => s7 = .string (B8 (digB dg)) ∧ wy = wx)
              case first =>
                cases mi
                · have Hd := Lib.hid (show B8 (digB dg) = sd by
                    rw [digB_no, Hsd.out]
                    have := Hmi.out
                    simpa using this.symm)
                  clear hmi
                  go_wp2
                  go_meet
                  exact ⟨by rw [Hd.out], rfl⟩
                · have Hd := Lib.hid (show B8 (digB dg) = sd.extract 1 sd.size by
                    rw [digB_45, Hex1.out]
                    have := Hmi.out
                    simpa using this.symm)
                  clear hmi
                  go_wp2
                  go_meet
                  exact ⟨by rw [Hd.out] <;> first | rfl | simp [hd0], rfl⟩
              case rest =>
                obtain ⟨rfl, rfl⟩ := hcut
                apply_assumption
                go_light
                have hgs : (B8 (digB dg)).size = (digB dg).length := B8_size _
                have Hga := Lib.hid (fun i (h : i < (B8 (digB dg)).size) => show ((B8 (digB dg))[i]).toNat = ((digB dg).getD i 0).toNat from B8_at (digB dg) i h)
                obtain ⟨gl, hgl⟩ : ∃ gl, gl = digB dg := ⟨_, rfl⟩
                rw [← hgl] at hgs Hga ⊢
                have Hgd := Lib.hid (fun e (he : EnOk e) (hb : bodyL e = b) => show gl = Lib.decDigits e.tick.natAbs by rw [hgl, Hdg.out e he hb]; exact (digB_itoa e.tick).1)
                have Hgm := Lib.hid (fun e (he : EnOk e) (hb : bodyL e = b) (m : Nat) (h : Lib.decFrom 0 gl = some m) => show sgn mi m = e.tick from body_num (by rw [← Hdg.out e he hb]; exact Hmi.out) (by rw [← Hdg.out e he hb, ← hgl]; exact h))
                obtain ⟨gn, hgn⟩ : ∃ gn, gn = gl.length := ⟨_, rfl⟩
                rw [← hgn] at hgs
                have Hgn := Lib.hid hgn
                generalize B8 gl = sg at hgs Hga ⊢
                have Hx0 := Lib.hid hx0
                have Hnl := Lib.hid hnl
                clear hgl hgn hmi hx0 hs0 x0 y0 z0 e17 e18 e19 e20 e21 e22 e23 hke h19' hds hc3l hd0 hdn h19 hkx hk1 hc0' hbk hnl
                by_cases hg14 : 1 ≤ gn ∧ gn ≤ 14
                · obtain ⟨g1, g14⟩ := hg14
                  have g1' : ¬ (gn : Int) < 1 := by omega
                  have g14' : ¬ (14 : Int) < (gn : Int) := by omega
                  go_wp2
                  go_loopw [9, 10] (fun nv iv wr => ∃ (j m : Nat), j ≤ gn ∧ iv = .int .i64 j ∧ nv = .int .i64 m ∧ Lib.decFrom 0 (gl.take j) = some m ∧ wr = wy) (fun _ iv _ => gn - (intOf iv).toNat)
                  case atStart => exact ⟨0, 0, Nat.zero_le _, rfl, rfl, rfl, rfl⟩
                  case round =>
                    obtain ⟨j, m, hj, rfl, rfl, hm, rfl⟩ := hrel
                    have hmlt := dec_small hm (by rw [← Hgn.out]; exact g14)
                    by_cases hjn : j < gn
                    · have hjn' := nlt_i hjn
                      have hj1 : j < sg.size := by rw [hgs]; exact hjn
                      have w0 := Hga.out j hj1
                      obtain ⟨c4, hc4⟩ : ∃ c4, gl[j]? = some c4 := ⟨_, List.getElem?_eq_getElem (by rw [← Hgn.out]; exact hjn)⟩
                      have hgc : gl.getD j 0 = c4 := by rw [List.getD_eq_getElem?_getD, hc4]; rfl
                      rw [hgc] at w0
                      have h4l := c4.toNat_lt
                      have Hm := Lib.hid hm
                      have Hc4 := Lib.hid hc4
                      have Hbad := Lib.hid (fun (h : ¬ (48 ≤ c4.toNat ∧ c4.toNat ≤ 57)) => show NoBody b from fun e he hb => by
                        have h1 := Hgd.out e he hb
                        have h2 := decDigits_chars e.tick.natAbs c4 (by rw [← h1]; exact List.mem_of_getElem? Hc4.out)
                        exact h h2)
                      clear hm hc4 hgc
                      rcases c_cases c4.toNat with ⟨h48, h48'⟩ | ⟨h48, h48', h57, h57'⟩ | ⟨h48n, h57n, h48', h57', h48i, h57i⟩
                      · have Hno := Lib.hid (Hbad.out (fun h => absurd h.1 (Nat.not_le.2 h48)))
                        go_wp2
                        refine bodyPost_ret (res_body _ _ f _ _ _ _ rfl rfl Hz.out.1) rfl ?_
                        exact ⟨ent_none Hno.out, Hz.out.2⟩
                      · have Hno := Lib.hid (Hbad.out (fun h => absurd h.2 (Nat.not_le.2 h57)))
                        go_wp2
                        refine bodyPost_ret (res_body _ _ f _ _ _ _ rfl rfl Hz.out.1) rfl ?_
                        exact ⟨ent_none Hno.out, Hz.out.2⟩
                      · have Hnx := Lib.hid (decFrom_snoc Hc4.out Hm.out h48n h57n)
                        have Hdn := Lib.hid (dec_next (m := m) h48n)
                        go_wp2
                        go_roundw
                        case rel =>
                          go_light
                          exact ⟨j + 1, 10 * m + (c4.toNat - 48), by omega, by go_num, by rw [Hdn.out], Hnx.out, by first | rfl | trivial⟩
                        case measure =>
                          go_light
                          simp [intOf]; omega
                    · obtain rfl : j = gn := Nat.le_antisymm hj (Nat.not_lt.1 hjn)
                      have htk : gl.take j = gl := List.take_of_length_le (by rw [← Hgn.out]; exact Nat.le_refl _)
                      rw [htk] at hm
                      have Hsm := Lib.hid (fun e (he : EnOk e) (hb : bodyL e = b) => Hgm.out e he hb m hm)
                      clear htk hm
                      go_upto_if 105 with fail
                      go_cut [9] (fun s9 wx => s9 = .int .i64 (sgn mi m) ∧ wr = wx)
                      case first =>
                        cases mi
                        · go_wp2
                          go_meet
                          exact ⟨rfl, rfl⟩
                        · go_wp2
                          go_meet
                          exact ⟨rfl, rfl⟩
                      case rest =>
                        obtain ⟨rfl, rfl⟩ := hcut
                        apply_assumption
                        go_light
                        obtain ⟨n16, hn16⟩ : ∃ n16, n16 = n - 16 := ⟨_, rfl⟩
                        have hn16a : n16 + 16 ≤ n := by omega
                        have hn16c : n ≤ n16 + 16 := by omega
                        obtain ⟨hx, hhx⟩ : ∃ hx, hx = b.drop n16 := ⟨_, rfl⟩
                        have hn16b : b.length - 16 = n16 := by rw [← Hn.out, hn16]
                        have Hhl := Lib.hid (show hx.length = 16 by rw [hhx, List.length_drop, ← Hn.out]; omega)
                        have Hhk := Lib.hid (fun e (he : EnOk e) (hb : bodyL e = b) => show hx = hexK 16 e.bit by
                          have := (HBA.out e he hb).hex
                          rw [hn16b] at this
                          rw [hhx]; exact this)
                        have Hhg := Lib.hid (fun i => show b.getD (n16 + i) 0 = hx.getD i 0 by rw [hhx, List.getD_eq_getElem?_getD, List.getD_eq_getElem?_getD, List.getElem?_drop])
                        have hn16i : (n : Int) - 16 = ((n16 + 0 : Nat) : Int) := by omega
                        have Hn16i := Lib.hid hn16i
                        generalize hsg : sgn mi m = tk at Hsm
                        clear hn16b hhx hsg hn16 hn16i
                        go_wp2
                        go_loopw [11, 12, 13] (fun vv iv dv wq => ∃ (i u : Nat), i ≤ 16 ∧ iv = .int .i64 ((n16 + i : Nat) : Int) ∧ vv = .int .u64 u ∧ hexFrom 0 (hx.take i) = some u ∧ wq = wr) (fun _ iv _ _ => n - (intOf iv).toNat)
                        case atStart =>
                          go_light
                          exact ⟨0, 0, Nat.zero_le _, by rw [← Hn16i.out], rfl, rfl, rfl⟩
                        case round =>
                          obtain ⟨i, u, hi, rfl, rfl, hu, rfl⟩ := hrel
                          by_cases hi16 : i < 16
                          · have hult := hex_small hu hi16
                            have hi1 : n16 + i < st.size := by omega
                            have v0 := Hat.out (n16 + i) hi1
                            rw [Hhg.out i] at v0
                            obtain ⟨c5, hc5⟩ : ∃ c5, hx[i]? = some c5 := ⟨_, List.getElem?_eq_getElem (by rw [Hhl.out]; exact hi16)⟩
                            have hxg : hx.getD i 0 = c5 := by rw [List.getD_eq_getElem?_getD, hc5]; rfl
                            rw [hxg] at v0
                            have h5l := c5.toNat_lt
                            have hin : ((n16 + i : Nat) : Int) < (n : Int) := by omega
                            have Hu := Lib.hid hu
                            have Hc5 := Lib.hid hc5
                            clear hu hc5 hxg
                            cases hv : hexV c5 with
                            | none =>
                              have Hno := Lib.hid (show NoBody b from fun e he hb => by
                                obtain ⟨d, hd⟩ := hexK_chars 16 e.bit c5 (by rw [← Hhk.out e he hb]; exact List.mem_of_getElem? Hc5.out)
                                rw [hv] at hd; cases hd)
                              have Hz5 := Lib.hid (hexZ_none hv)
                              clear hv
                              go_wp2_with fail
                              refine (hexDigit_any c5.toNat (by omega) _).mono ?_
                              rintro e w5 ⟨rfl, rfl⟩
                              rw [Hz5.out]
                              go_wp2
                              refine bodyPost_ret (res_body _ _ f _ _ _ _ rfl rfl Hz.out.1) rfl ?_
                              exact ⟨ent_none Hno.out, Hz.out.2⟩
                            | some d =>
                              have hd16 := hexV_lt hv
                              have Hz5 := Lib.hid (hexZ_some hv)
                              have Hnx := Lib.hid (hexFrom_snoc Hc5.out Hu.out hv)
                              clear hv
                              go_wp2_with fail
                              refine (hexDigit_any c5.toNat (by omega) _).mono ?_
                              rintro e w5 ⟨rfl, rfl⟩
                              rw [Hz5.out]
                              have hdn0 : ¬ (d : Int) < 0 := by omega
                              go_wp2
                              go_roundw
                              case rel =>
                                go_light
                                exact ⟨i + 1, 16 * u + d, by omega, by first | rfl | go_num | (congr 1; omega), by first | rfl | go_num | (congr 1; omega), Hnx.out, by first | rfl | trivial⟩
                              case measure =>
                                go_light
                                simp [intOf]; omega
                          · obtain rfl : i = 16 := by omega
                            have htk : hx.take 16 = hx := List.take_of_length_le (by rw [Hhl.out]; exact Nat.le_refl _)
                            rw [htk] at hu
                            have hul := hex_all hu Hhl.out
                            have Hul := Lib.hid hul
                            have Hbits := Lib.hid (fun e (he : EnOk e) (hb : bodyL e = b) => show u = e.bit from body_bit (Hhk.out e he hb) he.2.2 hu)
                            have hx0 := Hx0.out
                            have hkst : k ≤ st.size := by omega
                            have hin : ¬ ((n16 + 16 : Nat) : Int) < (n : Int) := by omega
                            have Hzf := Lib.hid (body_zero hf0 HB2.out HK2.out (.string (B8 nm)) (.int .i64 tk) (.int .u64 (u : Int)))
                            clear htk hu
                            generalize hsn : B8 nm = sn at hx0 Hzf
                            have Hsn := Lib.hid hsn
                            clear hsn
                            by_cases htt : -1099511627776 ≤ tk ∧ tk ≤ 1099511627776
                            · have Hty := Lib.hid (tickB_yes htt.1 htt.2)
                              go_wp2_with fail
                              refine (isTick_in tk htt.1 htt.2 _).mono ?_
                              rintro e w5 ⟨rfl, rfl⟩
                              clear htt
                              go_wp2
                              refine bodyPost_ret (res_body _ _ f _ _ _ _ rfl rfl Hzf.out.1) rfl ?_
                              refine ⟨⟨nm, tk, u, true, by rw [Hsn.out] <;> rfl, Hnl.out, Hul.out, fun _ => ⟨Hrd.out, Hty.out, Hul.out⟩, fun e0 he hb => ⟨rfl, ?_⟩⟩, Hzf.out.2⟩
                              have h1 := Hsm.out e0 he hb
                              have h2 := Hbits.out e0 he hb
                              have h3 := (HBA.out e0 he hb).nm
                              rw [← Hnme.out] at h3
                              cases e0
                              simp only at h1 h2 h3
                              rw [h1, h2, h3]
                            · have Hty := Lib.hid (tickB_no (n := tk) htt)
                              go_wp2_with fail
                              refine (isTick_out tk htt _).mono ?_
                              rintro e w5 ⟨rfl, rfl⟩
                              clear htt
                              go_wp2
                              refine bodyPost_ret (res_body _ _ f _ _ _ _ rfl rfl Hzf.out.1) rfl ?_
                              refine ⟨⟨nm, tk, u, false, by rw [Hsn.out] <;> rfl, Hnl.out, Hul.out, fun h => (by cases h), fun e0 he hb => ?_⟩, Hzf.out.2⟩
                              exfalso
                              have h1 := Hsm.out e0 he hb
                              have := Hty.out
                              rw [h1, he.2.1] at this
                              cases this
                · have Hno := Lib.hid (show NoBody b from fun e he hb => by
                    have h1 := dig_len he.2.1
                    rw [← Hgd.out e he hb, ← Hgn.out] at h1
                    exact hg14 h1)
                  by_cases g1 : gn < 1
                  · have g1' : (gn : Int) < 1 := by omega
                    clear hg14
                    go_wp2
                    refine bodyPost_ret (res_body _ _ f _ _ _ _ rfl rfl Hz.out.1) rfl ?_
                    exact ⟨ent_none Hno.out, Hz.out.2⟩
                  · have g1' : ¬ (gn : Int) < 1 := by omega
                    have g14' : (14 : Int) < (gn : Int) := by omega
                    clear hg14
                    go_wp2
                    refine bodyPost_ret (res_body _ _ f _ _ _ _ rfl rfl Hz.out.1) rfl ?_
                    exact ⟨ent_none Hno.out, Hz.out.2⟩
            · have hc0' : (0 : Int) < (cc : Int) := by omega
              have Hno := Lib.hid (show NoBody b from fun e he hb => by
                have := Hnm.out e he hb
                rw [Hcc.out] at this
                exact hc0 this)
              have Hz1 := Lib.hid (body_zero hf0 HB1.out HK1.out (.string ⟨#[]⟩) (.int .i64 0) (.int .u64 0))
              clear hc0
              go_wp2
              refine bodyPost_ret (res_body _ _ f _ _ _ _ rfl rfl (Hz1.out.1.alloc _)) rfl ?_
              exact ⟨ent_none Hno.out, Below.alloc Hz1.out.2 Hz1.out.2.size _⟩
          · have hke : ((k : Int) == (n : Int)) = false := by rw [beq_eq_false_iff_ne]; omega
            have h61b : ((c2.toNat : Int) == 61) = false := by rw [beq_eq_false_iff_ne]; omega
            have h61c : ((c2.toNat : Int) != 61) = true := by rw [bne, h61b]; rfl
            have Hno := Lib.hid (show NoBody b from fun e he hb => by
              have := (HBA.out e he hb).eq
              rw [← Hn.out, ← hc2] at this
              apply h61
              rw [this]; rfl)
            clear hc2 h61
            go_wp2
            refine bodyPost_ret (res_body _ _ f _ _ _ _ rfl rfl Hz.out.1) rfl ?_
            exact ⟨ent_none Hno.out, Hz.out.2⟩
      · have h64b : ((c.toNat : Int) == 64) = false := by rw [beq_eq_false_iff_ne]; omega
        have h64c : ((c.toNat : Int) != 64) = true := by rw [bne, h64b]; rfl
        have Hs := Lib.hid (HA.out.step (by rw [← Hn.out]; exact hk) (by rw [← hc]; exact u8_ne h64 (by decide)))
        clear hc h64 hc256
        go_wp2
        go_roundw
        case rel => exact ⟨k + 1, Hs.out, by go_num, by first | rfl | trivial⟩
        case measure => simp [intOf]; omega
    · obtain rfl : k = n := by omega
      have Hno := Lib.hid (show NoBody b from fun e he hb => by
        have := (bodyAt HA.out (.inl Hn.out) he hb).lt
        rw [← Hn.out] at this
        omega)
      go_wp2
      refine bodyPost_ret (res_body _ _ f _ _ _ _ rfl rfl Hz.out.1) rfl ?_
      exact ⟨ent_none Hno.out, Hz.out.2⟩
end Go.Proofs.YtfkklcmepcocoaaGreatDoor
