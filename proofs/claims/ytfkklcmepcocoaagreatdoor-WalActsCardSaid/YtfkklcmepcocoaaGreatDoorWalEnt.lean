/- An entry of a body, by its contract. -/
import Derived.Test.YtfkklcmepcocoaaGreatDoorWalRec
import Derived.Test.YtfkklcmepcocoaaGreatDoorCutC
namespace Go.Proofs.YtfkklcmepcocoaaGreatDoor
open Go.RowKit
set_option linter.unusedVariables false

theorem atoiO_itoa {n : Int} (h : n.natAbs < 10 ^ 17) : atoiO (Lib.itoa n) = some n := by unfold atoiO; rw [atoiAll_itoa h]
theorem hexO_K {v : Nat} (h : v < 18446744073709551616) : hexO (hexK 16 v) = some (v : Int) := by
  have hne : hexK 16 v ≠ [] := by intro e; have := hexK_len 16 v; rw [e] at this; cases this
  have h1 := hexFrom_K 16 v
  have e16 : (16 : Nat) ^ 16 = 18446744073709551616 := by decide
  rw [e16, Nat.mod_eq_of_lt h] at h1
  unfold hexO
  rw [if_neg hne, parse16_hex (hexK 16 v) 0 v 0 (by decide) (by rw [hexK_len]; decide) h1]
/-- What entry answers. -/
def EntPost (b : Bs) (e : Ending) : Prop := ∃ (nm : Bs) (t : Int) (bit : Nat) (ok : Bool), e = .returned (.tuple #[.agg #[.string (B8 nm), .int .i64 t, .int .u64 (bit : Int)], .bool ok]) ∧ nm.length ≤ b.length ∧ bit < 18446744073709551616 ∧
  (ok = true → EnOk ⟨nm, t, bit⟩) ∧ (∀ e0, EnOk e0 → bodyL e0 = b → ok = true ∧ e0 = ⟨nm, t, bit⟩)
theorem res_ent (tmps : Array Value) (W : World) (b : Nat) (v0 v1 v2 : Value) (ok : Bool) (ha : tmps.getD 2 undef = .pointer (some ⟨b, 0, none⟩)) (hk : tmps.getD 3 undef = .bool ok) (hB : Blk W b 109 #[v0, v1, v2]) :
    (results Tryz.f64 tmps).run Tryz.prog W = .ok (.tuple #[.agg #[v0, v1, v2], .bool ok]) W := by
  have z0 := hB.cell 0; have z1 := hB.cell 1; have z2 := hB.cell 2
  simp only [List.getElem?_toArray, List.getElem?_cons_zero, List.getElem?_cons_succ] at z0 z1 z2
  simp only [Array.getD_eq_getD_getElem?] at ha hk
  simp [results, Tryz.results64, go_sem, ha, hk, z0, z1, z2]
theorem entry_plain (b : Bs) (e0 : En) (h : EnOk e0) (hb : bodyL e0 = b) : (cutA3 64 b).1 = e0.nm ∧ atoiO (cutA3 61 (cutA3 64 b).2.1).1 = some e0.tick ∧ hexO (cutA3 61 (cutA3 64 b).2.1).2.1 = some (e0.bit : Int) := by
  have h1 : cutA3 64 b = (e0.nm, Lib.itoa e0.tick ++ 61 :: hexK 16 e0.bit, true) := by
    rw [← hb]; unfold bodyL; exact cutA3_mk (fun m => nm_chars h.1 _ m rfl)
  rw [h1]
  dsimp only
  rw [cutA3_mk (itoa_no61 _)]
  exact ⟨rfl, atoiO_itoa (tick_abs h.2.1), hexO_K h.2.2⟩
theorem numR_form {e : Ending} {k : IntKind} {P : Int → Prop} {ok : Option Int} (h : NumR e k P ok) : (∃ n, ok = some n ∧ P n ∧ e = .returned (.tuple #[.int k n, .nilIface])) ∨ (ok = none ∧ ∃ v t p, P v ∧ e = .returned (.tuple #[.int k v, .iface t p])) := by
  obtain ⟨v, ev, he, hp, h1, h2⟩ := h
  cases ho : ok with
  | some n => obtain ⟨rfl, rfl⟩ := h1 n ho; exact .inl ⟨v, rfl, hp, he⟩
  | none => obtain ⟨t, p, rfl⟩ := h2 ho; exact .inr ⟨rfl, v, t, p, hp, he⟩
theorem ent_no {b s a h : Bs} (hp : ∀ e0, EnOk e0 → bodyL e0 = b → s = e0.nm ∧ atoiO a = some e0.tick ∧ hexO h = some (e0.bit : Int)) (hb : atoiO a = none ∨ hexO h = none ∨ (rdF s).1 ≠ 0 ∨ ∃ n, atoiO a = some n ∧ tickB n = false) : ∀ e0, EnOk e0 → bodyL e0 = b → False := by
  intro e0 ho he
  obtain ⟨h1, h2, h3⟩ := hp e0 ho he
  rcases hb with hb | hb | hb | ⟨n, hb, ht⟩
  · rw [hb] at h2; cases h2
  · rw [hb] at h3; cases h3
  · exact hb (by rw [h1]; exact ho.1)
  · rw [hb] at h2
    obtain rfl := Option.some.inj h2
    have := ho.2.1
    rw [ht] at this; cases this
theorem ent_yes {b s a h : Bs} {n : Int} {m : Nat} (hp : ∀ e0, EnOk e0 → bodyL e0 = b → s = e0.nm ∧ atoiO a = some e0.tick ∧ hexO h = some (e0.bit : Int)) (h1 : atoiO a = some n) (h2 : hexO h = some (m : Int)) : ∀ e0, EnOk e0 → bodyL e0 = b → e0 = ⟨s, n, m⟩ := by
  intro e0 ho he
  obtain ⟨g1, g2, g3⟩ := hp e0 ho he
  rw [h1] at g2; rw [h2] at g3
  have e1 := Option.some.inj g2
  have e2 := Option.some.inj g3
  cases e0
  simp only at g1 e1 e2
  have e3 : m = _ := Int.ofNat_inj.1 e2
  subst g1; subst e1; subst e3; rfl
theorem tickB_no {n : Int} (h : ¬ (-1099511627776 ≤ n ∧ n ≤ 1099511627776)) : tickB n = false := decide_eq_false h
theorem tickB_yes {n : Int} (h1 : -1099511627776 ≤ n) (h2 : n ≤ 1099511627776) : tickB n = true := decide_eq_true ⟨h1, h2⟩
set_option maxHeartbeats 8000000 in
set_option maxRecDepth 100000 in
theorem entry_any {es : Nat → Addr} {B : Nat} (b : Bs) (hl : b.length ≤ 100000) (w : World) (hW : WalW es B w) (hB : B ≤ w.heap.size) :
    Calls Tryz.prog 64 #[.string (B8 b)] w fun e w' => EntPost b e ∧ Below w.heap.size w w' := by
  obtain ⟨f, hf⟩ : ∃ f, f = w.heap.size := ⟨_, rfl⟩
  have hb0 : Below w.heap.size w (w.alloc (.cells #[.string ⟨#[]⟩, .int .i64 0, .int .u64 0] 109)) := Below.alloc (Below.refl _ _) (Nat.le_refl _) _
  have hk0 := Blk.new w 109 #[.string ⟨#[]⟩, .int .i64 0, .int .u64 0]
  rw [← hf] at hk0
  have HP := Lib.hid (fun e0 h1 h2 => entry_plain b e0 h1 h2)
  have HW := Lib.hid (fun W (hb : Below w.heap.size w W) => hW.below hb hB)
  have l1 := cutA3_len 64 b
  have l2 := cutA3_len 61 (cutA3 64 b).2.1
  have Hc1 := Lib.hid (fun W => cutg_any 64 b (by omega) W)
  have Hc2 := Lib.hid (fun W => cutg_any 61 (cutA3 64 b).2.1 (by omega) W)
  obtain ⟨s, hs⟩ : ∃ s, s = (cutA3 64 b).1 := ⟨_, rfl⟩
  obtain ⟨r, hr⟩ : ∃ r, r = (cutA3 64 b).2.1 := ⟨_, rfl⟩
  obtain ⟨a, ha⟩ : ∃ a, a = (cutA3 61 r).1 := ⟨_, rfl⟩
  obtain ⟨h, hh⟩ : ∃ h, h = (cutA3 61 r).2.1 := ⟨_, rfl⟩
  rw [← hr] at HP l1 l2 Hc1 Hc2
  rw [← hs] at HP l1 Hc1
  rw [← ha, ← hh] at HP l2 Hc2
  generalize (cutA3 64 b).2.2 = ok1 at Hc1
  generalize (cutA3 61 r).2.2 = ok2 at Hc2
  have hls : s.length ≤ b.length := l1.1
  have hls2 : s.length ≤ 100000 := by omega
  have hla : (B8 a).size ≤ 100000 := by rw [B8_size]; omega
  have hlh : (B8 h).size ≤ 100000 := by rw [B8_size]; omega
  have Hat := Lib.hid (fun W (hb : Below w.heap.size w W) => atoi_any (B8 a) hla W (HW.out W hb))
  have Hpu := Lib.hid (fun W (hb : Below w.heap.size w W) => parse16_any (B8 h) hlh W (HW.out W hb) (Nat.le_trans hB hb.size))
  have Hlr := Lib.hid (fun W (hb : Below w.heap.size w W) => lread_u s hls2 W (HW.out W hb).svl (Nat.le_trans hB hb.size))
  rw [B8_data] at Hat Hpu
  have HB0 := Lib.hid hb0; have HK0 := Lib.hid hk0
  clear hW hs hr ha hh l1 l2 hla hlh hb0 hk0
  generalize hsb : B8 s = sb at Hc1 Hlr
  have Hsb := Lib.hid hsb
  generalize B8 r = rb at Hc1 Hc2
  generalize B8 a = ab at Hc2 Hat
  generalize B8 h = hb at Hc2 Hpu
  generalize B8 b = bb at Hc1 ⊢
  clear hsb
  go_enter Tryz.func64, Tryz.ntmps64
  go_wp2_with fail
  refine (Hc1.out _).mono ?_
  rintro e w1 ⟨rfl, hb1⟩
  rw [← hf]
  have hf0 : w.heap.size ≤ f := by omega
  have hk1 := HK0.out.below hb1 (by rw [hf]; simp)
  have HB1 := Lib.hid (Below.call HB0.out hb1 HB0.out.size)
  clear hf
  have HK1 := Lib.hid hk1
  clear hb1 hk1
  go_wp2_with fail
  refine (Hc2.out _).mono ?_
  rintro e w2 ⟨rfl, hb2⟩
  have HB2 := Lib.hid (Below.call HB1.out hb2 HB1.out.size); have HK2 := Lib.hid (HK1.out.below hb2 HK1.out.lt)
  clear hb2
  go_wp2_with fail
  refine (Hat.out _ HB2.out).mono ?_
  rintro e w3 ⟨hn3, hb3⟩
  have HB3 := Lib.hid (Below.call HB2.out hb3 HB2.out.size); have HK3 := Lib.hid (HK2.out.below hb3 HK2.out.lt)
  clear hb3
  rcases numR_form hn3 with ⟨n, hn, hp3, rfl⟩ | ⟨hn, n, t3, p3, hp3, rfl⟩
  all_goals
    have Hn := Lib.hid hn
    unfold i64B at hp3
    clear hn hn3
    go_wp2_with fail
    refine (Hpu.out _ HB3.out).mono ?_
    rintro e w4 ⟨hn4, hb4⟩
    have HB4 := Lib.hid (Below.call HB3.out hb4 HB3.out.size); have HK4 := Lib.hid (HK3.out.below hb4 HK3.out.lt)
    clear hb4
    rcases numR_form hn4 with ⟨v, hv, hp4, rfl⟩ | ⟨hv, v, t4, p4, hp4, rfl⟩
    all_goals
      have Hv := Lib.hid hv
      unfold u64B at hp4
      clear hv hn4
      go_wp2_with fail
      refine (Hlr.out _ HB4.out).mono ?_
      rintro e w5 ⟨ev, u, l, rfl, hev, _, _, _, hb5⟩
      have HB5 := Lib.hid (Below.call HB4.out hb5 HB4.out.size); have HK5 := Lib.hid (HK4.out.below hb5 HK4.out.lt)
      have HE := Lib.hid hev
      clear hb5 hev
      obtain ⟨v, rfl⟩ : ∃ m : Nat, v = (m : Int) := ⟨v.toNat, by omega⟩
      have hvn : v < 18446744073709551616 := by omega
      have q0 := HK5.out.cell 0; have q1 := HK5.out.cell 1; have q2 := HK5.out.cell 2
      have r0 := HK5.out.frozen 0; have r1 := HK5.out.frozen 1; have r2 := HK5.out.frozen 2
      simp only [List.getElem?_toArray, List.getElem?_cons_zero, List.getElem?_cons_succ] at q0 q1 q2
      have HKs := Lib.hid (((HK5.out.set_ 0 (.string sb)).set_ 1 (.int .i64 n)).set_ 2 (.int .u64 (v : Int)))
      have HBs := Lib.hid (Below.setCell (Below.setCell (Below.setCell HB5.out (p := ⟨f, 0, none⟩) hf0 (.string sb)) (p := ⟨f, 1, none⟩) hf0 (.int .i64 n)) (p := ⟨f, 2, none⟩) hf0 (.int .u64 (v : Int)))
      have Hvn := Lib.hid hvn; have Hls := Lib.hid hls
      by_cases hrd : (rdF s).1 = 0
      · obtain rfl := HE.out.zero hrd
        have hrd := Lib.hid hrd
        by_cases ht1 : -1099511627776 ≤ n
        · by_cases ht2 : n ≤ 1099511627776
          · have Hty := Lib.hid (tickB_yes ht1 ht2)
            go_wp2
            refine bodyPost_ret (res_ent _ _ f _ _ _ _ rfl rfl HKs.out) rfl ⟨?_, HBs.out⟩
            first
              | exact ⟨s, n, v, true, by rw [Hsb.out] <;> rfl, Hls.out, Hvn.out, fun _ => ⟨hrd.out, Hty.out, Hvn.out⟩, fun e0 h1 h2 => ⟨rfl, ent_yes HP.out Hn.out Hv.out e0 h1 h2⟩⟩
              | exact ⟨s, n, v, false, by rw [Hsb.out] <;> rfl, Hls.out, Hvn.out, fun h => (by cases h), fun e0 h1 h2 => (ent_no HP.out (.inl Hn.out) e0 h1 h2).elim⟩
              | exact ⟨s, n, v, false, by rw [Hsb.out] <;> rfl, Hls.out, Hvn.out, fun h => (by cases h), fun e0 h1 h2 => (ent_no HP.out (.inr (.inl Hv.out)) e0 h1 h2).elim⟩
          · have ht3 : 1099511627776 < n := by omega
            have ht4 : decide (n ≤ 1099511627776) = false := decide_eq_false ht2
            have Htn := Lib.hid (tickB_no (n := n) (by omega))
            go_wp2
            refine bodyPost_ret (res_ent _ _ f _ _ _ _ rfl rfl HKs.out) rfl ⟨?_, HBs.out⟩
            first
              | exact ⟨s, n, v, false, by rw [Hsb.out] <;> rfl, Hls.out, Hvn.out, fun h => (by cases h), fun e0 h1 h2 => (ent_no HP.out (.inl Hn.out) e0 h1 h2).elim⟩
              | exact ⟨s, n, v, false, by rw [Hsb.out] <;> rfl, Hls.out, Hvn.out, fun h => (by cases h), fun e0 h1 h2 => (ent_no HP.out (.inr (.inr (.inr ⟨n, Hn.out, Htn.out⟩))) e0 h1 h2).elim⟩
        · have ht3 : n < -1099511627776 := by omega
          have ht4 : decide (-1099511627776 ≤ n) = false := decide_eq_false ht1
          have Htn := Lib.hid (tickB_no (n := n) (by omega))
          go_wp2
          refine bodyPost_ret (res_ent _ _ f _ _ _ _ rfl rfl HKs.out) rfl ⟨?_, HBs.out⟩
          first
            | exact ⟨s, n, v, false, by rw [Hsb.out] <;> rfl, Hls.out, Hvn.out, fun h => (by cases h), fun e0 h1 h2 => (ent_no HP.out (.inl Hn.out) e0 h1 h2).elim⟩
            | exact ⟨s, n, v, false, by rw [Hsb.out] <;> rfl, Hls.out, Hvn.out, fun h => (by cases h), fun e0 h1 h2 => (ent_no HP.out (.inr (.inr (.inr ⟨n, Hn.out, Htn.out⟩))) e0 h1 h2).elim⟩
      · obtain ⟨t5, p5, rfl⟩ := HE.out.pos hrd
        have hrd := Lib.hid hrd
        go_wp2
        refine bodyPost_ret (res_ent _ _ f _ _ _ _ rfl rfl HKs.out) rfl ⟨?_, HBs.out⟩
        exact ⟨s, n, v, false, by rw [Hsb.out] <;> rfl, Hls.out, Hvn.out, fun h => (by cases h), fun e0 h1 h2 => (ent_no HP.out (.inr (.inr (.inl hrd.out))) e0 h1 h2).elim⟩
end Go.Proofs.YtfkklcmepcocoaaGreatDoor
