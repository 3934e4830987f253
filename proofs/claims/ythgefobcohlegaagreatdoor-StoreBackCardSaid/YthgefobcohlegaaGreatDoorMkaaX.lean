/- An entry of a body, by its contract. -/
import Derived.Test.YthgefobcohlegaaGreatDoorMkzX
import Derived.Test.YthgefobcohlegaaGreatDoorMkiX
import Derived.BigQuiet
namespace Go.Proofs.YthgefobcohlegaaGreatDoor
open Go.RowKit
set_option linter.unusedVariables false

theorem atoiO_itoa {n : Int} (h : n.natAbs < 10 ^ 17) : atoiO (Lib.itoa n) = some n := by unfold atoiO; rw [atoiAll_itoa h]
theorem hexO_K {v : Nat} (h : v < 18446744073709551616) : hexO (hexK 16 v) = some (v : Int) := by
  have hne : hexK 16 v ≠ [] := by intro e; have := hexK_len 16 v; rw [e] at this; cases this
  have h1 := hexFrom_K 16 v
  have e16 : (16 : Nat) ^ 16 = 18446744073709551616 := by decide
  rw [e16, Nat.mod_eq_of_lt h] at h1
  unfold hexO
  rw [if_neg hne, parse16_hex (hexK 16 v) 0 v 0 (by decide) (by rw [hexK_len]; decide) h1]
/-- What entry answers. -/
def EntPost (b : Bs) (e : Ending) : Prop := ∃ (nm : Bs) (t : Int) (bit : Nat) (ok : Bool), e = .returned (.tuple #[.agg #[.string (B8 nm), .int .i64 t, .int .u64 (bit : Int)], .bool ok]) ∧ nm.length ≤ b.length ∧ bit < 18446744073709551616 ∧
  (ok = true → EnOk ⟨nm, t, bit⟩) ∧ (∀ e0, EnOk e0 → bodyL e0 = b → ok = true ∧ e0 = ⟨nm, t, bit⟩)
theorem res_ent (tmps : Array Value) (W : World) (b : Nat) (v0 v1 v2 : Value) (ok : Bool) (ha : tmps.getD 2 undef = .pointer (some ⟨b, 0, none⟩)) (hk : tmps.getD 3 undef = .bool ok) (hB : Blk W b 80 #[v0, v1, v2]) :
    (results Tryz.f72 tmps).run Tryz.prog W = .ok (.tuple #[.agg #[v0, v1, v2], .bool ok]) W := by
  have z0 := hB.cell 0; have z1 := hB.cell 1; have z2 := hB.cell 2
  simp only [List.getElem?_toArray, List.getElem?_cons_zero, List.getElem?_cons_succ] at z0 z1 z2
  simp only [Array.getD_eq_getD_getElem?] at ha hk
  simp [results, Tryz.results72, go_sem, ha, hk, z0, z1, z2]
theorem entry_plain (b : Bs) (e0 : En) (h : EnOk e0) (hb : bodyL e0 = b) : (cutA3 64 b).1 = e0.nm ∧ atoiO (cutA3 61 (cutA3 64 b).2.1).1 = some e0.tick ∧ hexO (cutA3 61 (cutA3 64 b).2.1).2.1 = some (e0.bit : Int) := by
  have h1 : cutA3 64 b = (e0.nm, Lib.itoa e0.tick ++ 61 :: hexK 16 e0.bit, true) := by
    rw [← hb]; unfold bodyL; exact cutA3_mk (fun m => nm_chars h.1 _ m rfl)
  rw [h1]
  dsimp only
  rw [cutA3_mk (itoa_no61 _)]
  exact ⟨rfl, atoiO_itoa (tick_abs h.2.1), hexO_K h.2.2⟩
theorem numR_form {e : Ending} {k : IntKind} {P : Int → Prop} {ok : Option Int} (h : NumR e k P ok) : (∃ n, ok = some n ∧ P n ∧ e = .returned (.tuple #[.int k n, .nilIface])) ∨ (ok = none ∧ ∃ v t p, P v ∧ e = .returned (.tuple #[.int k v, .iface t p])) := by
  obtain ⟨v, ev, he, hp, h1, h2⟩ := h
  cases ho : ok with
  | some n => obtain ⟨rfl, rfl⟩ := h1 n ho; exact .inl ⟨v, rfl, hp, he⟩
  | none => obtain ⟨t, p, rfl⟩ := h2 ho; exact .inr ⟨rfl, v, t, p, hp, he⟩
theorem ent_no {b s a h : Bs} (hp : ∀ e0, EnOk e0 → bodyL e0 = b → s = e0.nm ∧ atoiO a = some e0.tick ∧ hexO h = some (e0.bit : Int)) (hb : atoiO a = none ∨ hexO h = none ∨ (rdF s).1 ≠ 0 ∨ ∃ n, atoiO a = some n ∧ tickB n = false) : ∀ e0, EnOk e0 → bodyL e0 = b → False := by
  intro e0 ho he
  obtain ⟨h1, h2, h3⟩ := hp e0 ho he
  rcases hb with hb | hb | hb | ⟨n, hb, ht⟩
  · rw [hb] at h2; cases h2
  · rw [hb] at h3; cases h3
  · exact hb (by rw [h1]; exact ho.1)
  · rw [hb] at h2
    obtain rfl := Option.some.inj h2
    have := ho.2.1
    rw [ht] at this; cases this
theorem ent_yes {b s a h : Bs} {n : Int} {m : Nat} (hp : ∀ e0, EnOk e0 → bodyL e0 = b → s = e0.nm ∧ atoiO a = some e0.tick ∧ hexO h = some (e0.bit : Int)) (h1 : atoiO a = some n) (h2 : hexO h = some (m : Int)) : ∀ e0, EnOk e0 → bodyL e0 = b → e0 = ⟨s, n, m⟩ := by
  intro e0 ho he
  obtain ⟨g1, g2, g3⟩ := hp e0 ho he
  rw [h1] at g2; rw [h2] at g3
  have e1 := Option.some.inj g2
  have e2 := Option.some.inj g3
  cases e0
  simp only at g1 e1 e2
  have e3 : m = _ := Int.ofNat_inj.1 e2
  subst g1; subst e1; subst e3; rfl
theorem tickB_no {n : Int} (h : ¬ (-1099511627776 ≤ n ∧ n ≤ 1099511627776)) : tickB n = false := decide_eq_false h
theorem tickB_yes {n : Int} (h1 : -1099511627776 ≤ n) (h2 : n ≤ 1099511627776) : tickB n = true := decide_eq_true ⟨h1, h2⟩
set_option maxHeartbeats 8000000 in
set_option maxRecDepth 100000 in
theorem entry_any {es : Nat → Addr} {B : Nat} (b : Bs) (hl : b.length ≤ 100000) (w : World) (hW : WalW es B w) (hB : B ≤ w.heap.size) :
    Calls Tryz.prog 72 #[.string (B8 b)] w fun e w' => EntPost b e ∧ Below w.heap.size w w' := by
  obtain ⟨f, hf⟩ : ∃ f, f = w.heap.size := ⟨_, rfl⟩
  have hb0 : Below w.heap.size w (w.alloc (.cells #[.string ⟨#[]⟩, .int .i64 0, .int .u64 0] 80)) := Below.alloc (Below.refl _ _) (Nat.le_refl _) _
  have hk0 := Blk.new w 80 #[.string ⟨#[]⟩, .int .i64 0, .int .u64 0]
  rw [← hf] at hk0
  have HP := Lib.hid (fun e0 h1 h2 => entry_plain b e0 h1 h2)
  have HW := Lib.hid (fun W (hb : Below w.heap.size w W) => hW.below hb hB)
  have l1 := cutA3_len 64 b
  have l2 := cutA3_len 61 (cutA3 64 b).2.1
  have Hc1 := Lib.hid (fun W => cutg_any 64 b (by omega) W)
  have Hc2 := Lib.hid (fun W => cutg_any 61 (cutA3 64 b).2.1 (by omega) W)
  obtain ⟨s, hs⟩ : ∃ s, s = (cutA3 64 b).1 := ⟨_, rfl⟩
  obtain ⟨r, hr⟩ : ∃ r, r = (cutA3 64 b).2.1 := ⟨_, rfl⟩
  obtain ⟨a, ha⟩ : ∃ a, a = (cutA3 61 r).1 := ⟨_, rfl⟩
  obtain ⟨h, hh⟩ : ∃ h, h = (cutA3 61 r).2.1 := ⟨_, rfl⟩
  rw [← hr] at HP l1 l2 Hc1 Hc2
  rw [← hs] at HP l1 Hc1
  rw [← ha, ← hh] at HP l2 Hc2
  generalize (cutA3 64 b).2.2 = ok1 at Hc1
  generalize (cutA3 61 r).2.2 = ok2 at Hc2
  have hls : s.length ≤ b.length := l1.1
  have hls2 : s.length ≤ 100000 := by omega
  have hla : (B8 a).size ≤ 100000 := by rw [B8_size]; omega
  have hlh : (B8 h).size ≤ 100000 := by rw [B8_size]; omega
  have Hat := Lib.hid (fun W (hb : Below w.heap.size w W) => atoi_any (B8 a) hla W (HW.out W hb))
  have Hpu := Lib.hid (fun W (hb : Below w.heap.size w W) => parse16_any (B8 h) hlh W (HW.out W hb) (Nat.le_trans hB hb.size))
  have Hlr := Lib.hid (fun W (hb : Below w.heap.size w W) => lread_u s hls2 W (HW.out W hb).svl (Nat.le_trans hB hb.size))
  rw [B8_data] at Hat Hpu
  have HB0 := Lib.hid hb0; have HK0 := Lib.hid hk0
  clear hW hs hr ha hh l1 l2 hla hlh hb0 hk0
  generalize hsb : B8 s = sb at Hc1 Hlr
  have Hsb := Lib.hid hsb
  generalize B8 r = rb at Hc1 Hc2
  generalize B8 a = ab at Hc2 Hat
  generalize B8 h = hb at Hc2 Hpu
  generalize B8 b = bb at Hc1 ⊢
  clear hsb
  go_enter Tryz.func72, Tryz.ntmps72
  go_wp2_with fail
  refine (Hc1.out _).mono ?_
  rintro e w1 ⟨rfl, hb1⟩
  rw [← hf]
  have hf0 : w.heap.size ≤ f := by omega
  have hk1 := HK0.out.below hb1 (by rw [hf]; simp)
  have HB1 := Lib.hid (Below.call HB0.out hb1 HB0.out.size)
  clear hf
  have HK1 := Lib.hid hk1
  clear hb1 hk1
  go_wp2_with fail
  refine (Hc2.out _).mono ?_
  rintro e w2 ⟨rfl, hb2⟩
  have HB2 := Lib.hid (Below.call HB1.out hb2 HB1.out.size); have HK2 := Lib.hid (HK1.out.below hb2 HK1.out.lt)
  clear hb2
  go_wp2_with fail
  refine (Hat.out _ HB2.out).mono ?_
  rintro e w3 ⟨hn3, hb3⟩
  have HB3 := Lib.hid (Below.call HB2.out hb3 HB2.out.size); have HK3 := Lib.hid (HK2.out.below hb3 HK2.out.lt)
  clear hb3
  rcases numR_form hn3 with ⟨n, hn, hp3, rfl⟩ | ⟨hn, n, t3, p3, hp3, rfl⟩
  all_goals
    have Hn := Lib.hid hn
    unfold i64B at hp3
    clear hn hn3
    go_wp2_with fail
    refine (Hpu.out _ HB3.out).mono ?_
    rintro e w4 ⟨hn4, hb4⟩
    have HB4 := Lib.hid (Below.call HB3.out hb4 HB3.out.size); have HK4 := Lib.hid (HK3.out.below hb4 HK3.out.lt)
    clear hb4
    rcases numR_form hn4 with ⟨v, hv, hp4, rfl⟩ | ⟨hv, v, t4, p4, hp4, rfl⟩
    all_goals
      have Hv := Lib.hid hv
      unfold u64B at hp4
      clear hv hn4
      go_wp2_with fail
      refine (Hlr.out _ HB4.out).mono ?_
      rintro e w5 ⟨ev, u, l, rfl, hev, _, _, _, hb5⟩
      have HB5 := Lib.hid (Below.call HB4.out hb5 HB4.out.size); have HK5 := Lib.hid (HK4.out.below hb5 HK4.out.lt)
      have HE := Lib.hid hev
      clear hb5 hev
      obtain ⟨v, rfl⟩ : ∃ m : Nat, v = (m : Int) := ⟨v.toNat, by omega⟩
      have hvn : v < 18446744073709551616 := by omega
      have q0 := HK5.out.cell 0; have q1 := HK5.out.cell 1; have q2 := HK5.out.cell 2
      have r0 := HK5.out.frozen 0; have r1 := HK5.out.frozen 1; have r2 := HK5.out.frozen 2
      simp only [List.getElem?_toArray, List.getElem?_cons_zero, List.getElem?_cons_succ] at q0 q1 q2
      have HKs := Lib.hid (((HK5.out.set_ 0 (.string sb)).set_ 1 (.int .i64 n)).set_ 2 (.int .u64 (v : Int)))
      have HBs := Lib.hid (Below.setCell (Below.setCell (Below.setCell HB5.out (p := ⟨f, 0, none⟩) hf0 (.string sb)) (p := ⟨f, 1, none⟩) hf0 (.int .i64 n)) (p := ⟨f, 2, none⟩) hf0 (.int .u64 (v : Int)))
      have Hvn := Lib.hid hvn; have Hls := Lib.hid hls
      by_cases hrd : (rdF s).1 = 0
      · obtain rfl := HE.out.zero hrd
        have hrd := Lib.hid hrd
        by_cases ht1 : -1099511627776 ≤ n
        · by_cases ht2 : n ≤ 1099511627776
          · have Hty := Lib.hid (tickB_yes ht1 ht2)
            go_wp2
            refine bodyPost_ret (res_ent _ _ f _ _ _ _ rfl rfl HKs.out) rfl ⟨?_, HBs.out⟩
            first
              | exact ⟨s, n, v, true, by rw [Hsb.out] <;> rfl, Hls.out, Hvn.out, fun _ => ⟨hrd.out, Hty.out, Hvn.out⟩, fun e0 h1 h2 => ⟨rfl, ent_yes HP.out Hn.out Hv.out e0 h1 h2⟩⟩
              | exact ⟨s, n, v, false, by rw [Hsb.out] <;> rfl, Hls.out, Hvn.out, fun h => (by cases h), fun e0 h1 h2 => (ent_no HP.out (.inl Hn.out) e0 h1 h2).elim⟩
              | exact ⟨s, n, v, false, by rw [Hsb.out] <;> rfl, Hls.out, Hvn.out, fun h => (by cases h), fun e0 h1 h2 => (ent_no HP.out (.inr (.inl Hv.out)) e0 h1 h2).elim⟩
          · have ht3 : 1099511627776 < n := by omega
            have ht4 : decide (n ≤ 1099511627776) = false := decide_eq_false ht2
            have Htn := Lib.hid (tickB_no (n := n) (by omega))
            go_wp2
            refine bodyPost_ret (res_ent _ _ f _ _ _ _ rfl rfl HKs.out) rfl ⟨?_, HBs.out⟩
            first
              | exact ⟨s, n, v, false, by rw [Hsb.out] <;> rfl, Hls.out, Hvn.out, fun h => (by cases h), fun e0 h1 h2 => (ent_no HP.out (.inl Hn.out) e0 h1 h2).elim⟩
              | exact ⟨s, n, v, false, by rw [Hsb.out] <;> rfl, Hls.out, Hvn.out, fun h => (by cases h), fun e0 h1 h2 => (ent_no HP.out (.inr (.inr (.inr ⟨n, Hn.out, Htn.out⟩))) e0 h1 h2).elim⟩
        · have ht3 : n < -1099511627776 := by omega
          have ht4 : decide (-1099511627776 ≤ n) = false := decide_eq_false ht1
          have Htn := Lib.hid (tickB_no (n := n) (by omega))
          go_wp2
          refine bodyPost_ret (res_ent _ _ f _ _ _ _ rfl rfl HKs.out) rfl ⟨?_, HBs.out⟩
          first
            | exact ⟨s, n, v, false, by rw [Hsb.out] <;> rfl, Hls.out, Hvn.out, fun h => (by cases h), fun e0 h1 h2 => (ent_no HP.out (.inl Hn.out) e0 h1 h2).elim⟩
            | exact ⟨s, n, v, false, by rw [Hsb.out] <;> rfl, Hls.out, Hvn.out, fun h => (by cases h), fun e0 h1 h2 => (ent_no HP.out (.inr (.inr (.inr ⟨n, Hn.out, Htn.out⟩))) e0 h1 h2).elim⟩
      · obtain ⟨t5, p5, rfl⟩ := HE.out.pos hrd
        have hrd := Lib.hid hrd
        go_wp2
        refine bodyPost_ret (res_ent _ _ f _ _ _ _ rfl rfl HKs.out) rfl ⟨?_, HBs.out⟩
        exact ⟨s, n, v, false, by rw [Hsb.out] <;> rfl, Hls.out, Hvn.out, fun h => (by cases h), fun e0 h1 h2 => (ent_no HP.out (.inr (.inr (.inl hrd.out))) e0 h1 h2).elim⟩
end Go.Proofs.YthgefobcohlegaaGreatDoor

namespace Go.Proofs.YthgefobcohlegaaGreatDoor
open Go.RowKit
set_option linter.unusedVariables false

def enL (e : En) : List Value := [.string (B8 e.nm), .int .i64 e.tick, .int .u64 (e.bit : Int)]
def enC (l : List En) : List Value := l.flatMap enL
theorem infoEn : (Tryz.prog.info? 80).map (fun i => (i.zero, i.size, i.bytes)) = some (some (.agg #[.string ⟨#[]⟩, .int .i64 0, .int .u64 0]), 3, 32) := by kernel_rfl
theorem enC_snoc (l : List En) (e : En) : enC (l ++ [e]) = enC l ++ enL e := by unfold enC; rw [List.flatMap_append]; simp
theorem rd_en (W : World) (t : TypeId) (u0 u1 u2 : Value) : Rd (W.alloc (.cells #[u0, u1, u2] t)) (W.alloc (.cells #[u0, u1, u2] t)).heap.size 3 (some ⟨W.heap.size, 0, none⟩) 1 [u0, u1, u2] := by
  refine ⟨rfl, fun _ => ⟨W.heap.size, 0, rfl, by simp, fun j u hu => ?_⟩⟩
  rw [Nat.zero_add, (Blk.new W t #[u0, u1, u2]).cell j]
  simpa using hu
theorem en_one (nm : Bs) (t : Int) (bit : Nat) : ∀ u ∈ [Value.string (B8 nm), Value.int .i64 t, Value.int .u64 (bit : Int)], u.oneCell' = true := by
  intro u hu; simp at hu; rcases hu with rfl | rfl | rfl <;> rfl
set_option maxHeartbeats 4000000 in
set_option maxRecDepth 100000 in
theorem wread_any {es : Nat → Addr} {B : Nat} (b : Bs) (hl : b.length ≤ 70000) (w : World) (hW : WalW es B w) (hB : B ≤ w.heap.size) :
    Calls Tryz.prog 46 #[.string (B8 b)] w fun e w' => ∃ l k v, e = .returned (.tuple #[v, .int .i64 (k : Nat)]) ∧ IsRead b l k ∧ w'.ownsRow w.heap.size 80 3 v l.length (enC l) ∧ Below w.heap.size w w' := by
  have HW := Lib.hid (fun W (hb : Below w.heap.size w W) => hW.below hb hB)
  obtain ⟨i0, hi, hz0, hz1, hz2⟩ := info_parts infoEn
  have Hi := Lib.hid hi; have Hz0 := Lib.hid hz0; have Hz1 := Lib.hid hz1; have Hz2 := Lib.hid hz2
  have hsz : (B8 b).size = b.length := B8_size b
  obtain ⟨n, hn⟩ : ∃ n, n = b.length := ⟨_, rfl⟩
  rw [← hn] at hsz hl
  have Hn := Lib.hid hn
  have Hex := Lib.hid (fun i j => B8_extract b i j)
  have Hat := Lib.hid (fun i (h : i < (B8 b).size) => show ((B8 b)[i]).toNat = (b.getD i 0).toNat from B8_at b i h)
  generalize hst : B8 b = st at hsz Hex Hat ⊢
  clear hW hi hz0 hz1 hz2 hn hst
  go_enter Tryz.func46, Tryz.ntmps46
  go_wp2
  go_loopw [4, 5] (fun ov kv wr => ∃ (l : List En) (k : Nat), kv = .int .i64 k ∧ RdTo b l k ∧ wr.ownsRow w.heap.size 80 3 ov l.length (enC l) ∧ Below w.heap.size w wr) (fun _ kv _ => n - (intOf kv).toNat)
  case atStart => exact ⟨[], 0, rfl, RdTo.start b, World.ownsRow_nil _ _ _ _, Below.refl _ _⟩
  case round =>
    obtain ⟨l, k, rfl, hr, hown, hb⟩ := hrel
    have hkn : k ≤ n := by rw [Hn.out]; exact hr.le
    have hll := hr.len
    have HR := Lib.hid hr; have HO := Lib.hid hown; have HB := Lib.hid hb
    obtain ⟨Ao, co, rfl, _, _, _⟩ := own_form hown
    clear hr hown hb
    by_cases h2 : 2 ≤ n - k
    · have h2' : (2 : Int) ≤ (n : Int) - k := by omega
      have hk1 : k < st.size := by omega
      have hk2 : k + 1 < st.size := by omega
      have x0 := Hat.out k hk1
      have x1 := Hat.out (k + 1) hk2
      obtain ⟨c0, hc0⟩ : ∃ c, c = (b.getD k 0).toNat := ⟨_, rfl⟩
      obtain ⟨c1, hc1⟩ : ∃ c, c = (b.getD (k + 1) 0).toNat := ⟨_, rfl⟩
      have h0 : c0 < 256 := by rw [hc0]; exact UInt8.toNat_lt _
      have h1 : c1 < 256 := by rw [hc1]; exact UInt8.toNat_lt _
      rw [← hc0] at x0; rw [← hc1] at x1
      have HC0 := Lib.hid hc0; have HC1 := Lib.hid hc1
      have HR' := Lib.hid (show num2 (b.drop k) = c0 * 256 + c1 by
        unfold num2
        rw [hc0, hc1]
        simp only [List.getD_eq_getElem?_getD, List.getElem?_drop]
        rfl)
      clear hc0 hc1
      go_wp2
      go_quiet (fail)
      obtain ⟨m, hm⟩ : ∃ m, m = 2 + c0 * 256 + c1 + 4 := ⟨_, rfl⟩
      rw [show (2 + (c0 : Int) * 256 + (c1 : Int) + 4) = ((m : Nat) : Int) by omega]
      have Hm := Lib.hid hm
      have hm6 : 6 ≤ m := by omega
      have hmx : m ≤ 100000 := by omega
      clear x0 x1
      have HBq := Lib.hid (show Below w.heap.size w (wr.drewN nq) from Below.drewN HB.out nq)
      have HOq := Lib.hid (show (wr.drewN nq).ownsRow w.heap.size 80 3 (.slice Ao l.length co) l.length (enC l) from own_drewN HO.out nq)
      generalize wr.drewN nq = wq at HBq HOq
      by_cases hmn : m ≤ n - k
      · have hmn' : ¬ (n : Int) - k < (m : Int) := by omega
        clear hm
        have he1 : k + 2 ≤ st.size := by omega
        have he2 : k + m - 4 ≤ st.size := by omega
        have he3 : k + 2 ≤ k + m - 4 := by omega
        go_wp2_with fail
        rw [Hex.out]
        obtain ⟨bd, hbd⟩ : ∃ bd, bd = (b.take (k + m - 4)).drop (k + 2) := ⟨_, rfl⟩
        rw [← hbd]
        have hbl : bd.length ≤ 100000 := by rw [hbd, List.length_drop, List.length_take]; omega
        have Hbd := Lib.hid (show bd = ((b.drop k).drop 2).take (num2 (b.drop k)) by
          rw [hbd, HR'.out, List.drop_drop, List.drop_take]
          congr 1
          have := Hm.out; omega)
        clear hbd
        refine (entry_any bd hbl wq (HW.out _ HBq.out) (Nat.le_trans hB HBq.out.size)).mono ?_
        rintro e w1 ⟨⟨nm, t, bit, ok, rfl, hnl, hbt, hok, hall⟩, hb1⟩
        have HB1 := Lib.hid (Below.call HBq.out hb1 HBq.out.size)
        have HO1 := Lib.hid (own_below HOq.out hb1 (Nat.le_refl _))
        have HOK := Lib.hid hok; have HAll := Lib.hid hall
        clear hb1 hok hall
        go_wp2_with fail
        obtain ⟨g, hg⟩ : ∃ g, g = w1.heap.size := ⟨_, rfl⟩
        have hwx : Below w.heap.size w (w1.alloc (.cells #[.string (B8 nm), .int .i64 t, .int .u64 (bit : Int)] 80)) := Below.alloc HB1.out HB1.out.size _
        have hwo : (w1.alloc (.cells #[.string (B8 nm), .int .i64 t, .int .u64 (bit : Int)] 80)).ownsRow w.heap.size 80 3 (.slice Ao l.length co) l.length (enC l) := HO1.out.alloc _
        have hwk := Blk.new w1 80 #[.string (B8 nm), .int .i64 t, .int .u64 (bit : Int)]
        have hgs : w.heap.size ≤ w1.heap.size := HB1.out.size
        rw [← hg] at hwk hgs ⊢
        have HG := Lib.hid hgs
        clear hg hgs
        have HKc := Lib.hid (fun W (hb : Blk W g 80 #[.string (B8 nm), .int .i64 t, .int .u64 (bit : Int)]) => show W.cell? ⟨g, 0, none⟩ = some (.string (B8 nm)) ∧ W.cell? ⟨g, 1, none⟩ = some (.int .i64 t) ∧ W.cell? ⟨g, 2, none⟩ = some (.int .u64 (bit : Int)) from ⟨hb.cell 0, hb.cell 1, hb.cell 2⟩)
        obtain ⟨z0, z1, z2⟩ := HKc.out _ hwk
        have HBx := Lib.hid hwx; have HOx := Lib.hid hwo; have HKx := Lib.hid hwk
        clear hwx hwo hwk
        generalize w1.alloc (.cells #[.string (B8 nm), .int .i64 t, .int .u64 (bit : Int)] 80) = wx at HBx HOx HKx z0 z1 z2 ⊢
        cases ok with
        | false =>
          go_quiet (fail)
          go_wp2
          go_ret2
          refine ⟨l, k, _, rfl, HR.out.stop (stop_body fun e0 he0 hb0 _ => ?_), own_drewN HOx.out _, Below.drewN HBx.out _⟩
          have := (HAll.out e0 he0 (by rw [Hbd.out]; exact hb0)).1
          cases this
        | true =>
          have Hen := Lib.hid (HOK.out rfl)
          have htk : t.natAbs < 10 ^ 17 := tick_abs Hen.out.2.1
          have Hrec := Lib.hid (fun W (hb : Below w.heap.size w W) => record_any nm t bit (by omega) htk hbt W (HW.out W hb) (Nat.le_trans hB hb.size))
          have he4 : k + m ≤ st.size := by omega
          have he5 : k ≤ k + m := by omega
          obtain ⟨bs, hbs⟩ : ∃ bs, bs = (b.take (k + m)).drop k := ⟨_, rfl⟩
          have Hsl := Lib.hid (show st.extract k (k + m) = B8 bs by rw [hbs]; exact Hex.out k (k + m))
          have Hbs := Lib.hid (show bs = (b.drop k).take m by rw [hbs, List.drop_take]; congr 1; omega)
          clear hbs
          have Hcmp := Lib.hid (show (recL ⟨nm, t, bit⟩ = bs → ((B8 (recL ⟨nm, t, bit⟩)).toList == (B8 bs).toList) = true) ∧ (recL ⟨nm, t, bit⟩ ≠ bs → ((B8 (recL ⟨nm, t, bit⟩)).toList == (B8 bs).toList) = false) from
            ⟨fun h => by rw [h]; simp, fun h => by rw [beq_eq_false_iff_ne]; intro h2; apply h; rw [B8_toList, B8_toList] at h2; exact h2⟩)
          obtain ⟨rc, hrc⟩ : ∃ rc, rc = B8 (recL ⟨nm, t, bit⟩) := ⟨_, rfl⟩
          rw [← hrc] at Hrec Hcmp
          rw [← Hsl.out] at Hcmp
          clear hrc htk
          have HBd := Lib.hid (show Below w.heap.size w wx.drew from HBx.out.drew)
          have HKd := Lib.hid (show Blk wx.drew g 80 #[.string (B8 nm), .int .i64 t, .int .u64 (bit : Int)] from HKx.out)
          have HOd := Lib.hid (show wx.drew.ownsRow w.heap.size 80 3 (.slice Ao l.length co) l.length (enC l) from HOx.out.drew)
          have he6 : k + m ≤ n := by omega
          have he7 : (k : Int) + (m : Int) ≤ (n : Int) := by omega
          have he8 : IntKind.i64.wrap ((k : Int) + (m : Int)) = (k : Int) + (m : Int) := by rw [IntKind.wrap_i64]; omega
          have he9 : (0 : Int) ≤ (k : Int) + (m : Int) := by omega
          have he10 : ((k : Int) + (m : Int)).toNat = k + m := by omega
          have he11 : (k : Int) ≤ (k : Int) + (m : Int) := by omega
          by_cases hq : recL ⟨nm, t, bit⟩ = bs
          · have hq2 := Hcmp.out.1 hq
            have HQ := Lib.hid hq
            clear hq
            go_region_held3 (fun w' => w'.cell? ⟨g, 0, none⟩ = some (.string (B8 nm)) ∧ w'.cell? ⟨g, 1, none⟩ = some (.int .i64 t) ∧ w'.cell? ⟨g, 2, none⟩ = some (.int .u64 (bit : Int)))
              (first | with_reducible exact HKc.out _ HKd.out | with_reducible exact HKc.out _ K5.out)
              (first | (go_at_call 50; refine (Hrec.out _ HBd.out).mono ?_; rintro e w5 ⟨rfl, hb⟩; have B5 := Lib.hid (Below.call HBd.out hb HBd.out.size); have K5 := Lib.hid (HKd.out.below hb HKd.out.lt); have O5 := Lib.hid (own_below HOd.out hb (Nat.le_refl _)); clear hb))
            all_goals
              have hs5 := B5.out.size
              have HoA := Lib.hid (show (w5.alloc (.cells #[.string (B8 nm), .int .i64 t, .int .u64 (bit : Int)] 80)).ownsRow w.heap.size 80 3 (.slice Ao l.length co) l.length (enC l) from O5.out.alloc _)
              have HrA := Lib.hid (rd_en w5 80 (.string (B8 nm)) (.int .i64 t) (.int .u64 (bit : Int)))
              have HzA := Lib.hid (show w.heap.size ≤ (w5.alloc (.cells #[.string (B8 nm), .int .i64 t, .int .u64 (bit : Int)] 80)).heap.size by simp; omega)
              have HbA := Lib.hid (show Below w.heap.size w (w5.alloc (.cells #[.string (B8 nm), .int .i64 t, .int .u64 (bit : Int)] 80)) from Below.alloc B5.out hs5 _)
              have hk63 : l.length + 1 ≤ maxLen := by unfold maxLen; omega
              have hk8 : (l.length + 1) * 32 ≤ 140737488355328 := by omega
              go_wp2_with (at_builtin; refine wpList_append_rd _ rfl (.tmp 61) (.tmp 63) _ rfl w.heap.size 80 i0 (.agg #[.string ⟨#[]⟩, .int .i64 0, .int .u64 0]) 3 32 Tryz.underlying72 Hi.out Hz0.out Hz1.out Hz2.out rfl (by decide) (.slice Ao l.length co) l.length _ rfl HoA.out _ _ 1 1 [.string (B8 nm), .int .i64 t, .int .u64 (bit : Int)] rfl HrA.out (en_one nm t bit) hk63 hk8 HzA.out ?_; intro v' wa hown' hgr hat; have Hv := Lib.hid hown'; have HBb := Lib.hid (Below.grown HbA.out hgr HzA.out (fun g hg => (own_lt HoA.out g hg).1)); clear hown' hgr hat)
              go_roundw
              case rel =>
                refine ⟨l ++ [⟨nm, t, bit⟩], k + m, by go_num, HR.out.step Hen.out (by rw [← Hn.out]; exact he6) (by rw [← Hbs.out, ← HQ.out]), ?_, HBb.out⟩
                rw [List.length_append, enC_snoc]; exact Hv.out
              case measure => simp [intOf]; omega
          · have hq2 := Hcmp.out.2 hq
            have HQ := Lib.hid hq
            clear hq
            go_region_held3 (fun w' => w'.cell? ⟨g, 0, none⟩ = some (.string (B8 nm)) ∧ w'.cell? ⟨g, 1, none⟩ = some (.int .i64 t) ∧ w'.cell? ⟨g, 2, none⟩ = some (.int .u64 (bit : Int)))
              (first | with_reducible exact HKc.out _ HKd.out | with_reducible exact HKc.out _ K5.out)
              (first | (go_at_call 50; refine (Hrec.out _ HBd.out).mono ?_; rintro e w5 ⟨rfl, hb⟩; have B5 := Lib.hid (Below.call HBd.out hb HBd.out.size); have K5 := Lib.hid (HKd.out.below hb HKd.out.lt); have O5 := Lib.hid (own_below HOd.out hb (Nat.le_refl _)); clear hb))
            all_goals
              go_wp2
              go_ret2
              refine ⟨l, k, _, rfl, HR.out.stop (stop_body fun e0 he0 hb0 hr0 => ?_), (by first | exact O5.out | exact own_drewN O5.out _ | exact O5.out.drew), (by first | exact B5.out | exact Below.drewN B5.out _ | exact B5.out.drew)⟩
              have h1 := (HAll.out e0 he0 (by rw [Hbd.out]; exact hb0)).2
              apply HQ.out
              rw [← h1, ← hr0, Hbs.out, HR'.out]
              congr 1
              have := Hm.out; omega
      · have hmn' : (n : Int) - k < (m : Int) := by omega
        clear hm
        go_wp2
        go_ret2
        refine ⟨l, k, _, rfl, HR.out.stop (stop_long (by rw [List.length_drop, ← Hn.out, HR'.out]; have := Hm.out; omega)), HOq.out, HBq.out⟩
    · have h2' : ¬ (2 : Int) ≤ (n : Int) - k := by omega
      go_wp2
      go_ret2
      refine ⟨l, k, _, rfl, HR.out.stop (stop_short (by rw [List.length_drop, ← Hn.out]; omega)), HO.out, HB.out⟩
end Go.Proofs.YthgefobcohlegaaGreatDoor

namespace Go.Proofs.YthgefobcohlegaaGreatDoor
open Go.RowKit
set_option linter.unusedVariables false

def APost (es : Nat → Addr) (q : Nat) (v : Value) (d : Dk) (en : En) (w : World) (e : Ending) (w' : World) : Prop :=
  ∃ ev, e = .returned ev ∧ EV es w.heap.size w' ev (apF d en) ∧ ∃ v', DStep w w' q v v' (apD d en)
theorem EV.sent {es : Nat → Addr} {B : Nat} {W : World} (k : Nat) (hk : k < 11) : EV es B W (sentV (es k)) (k + 1, -1) := .inr (.inl ⟨k, hk, rfl, rfl⟩)
theorem EV.nil {es : Nat → Addr} {B : Nat} {W : World} : EV es B W .nilIface (0, -1) := .inl ⟨rfl, rfl⟩
theorem apF_1 {d : Dk} {e : En} (h : (rdF e.nm).1 ≠ 0) : apF d e = rdF e.nm ∧ apD d e = d := ⟨if_pos h, if_pos h⟩
theorem apF_2 {d : Dk} {e : En} (h : (rdF e.nm).1 = 0) (h2 : tickB e.tick = false) : apF d e = (2, -1) ∧ apD d e = d := by
  unfold apF apD; rw [if_neg (fun x => x h), if_pos h2, if_neg (fun x => x h), if_pos h2]; exact ⟨rfl, rfl⟩
theorem apF_3 {d : Dk} {e : En} (h : (rdF e.nm).1 = 0) (h2 : tickB e.tick = true) (h3 : 65536 < d.b.length + (recL e).length) : apF d e = (7, -1) ∧ apD d e = d := by
  unfold apF apD; rw [if_neg (fun x => x h), if_neg (by rw [h2]; decide), if_pos h3, if_neg (fun x => x h), if_neg (by rw [h2]; decide), if_pos h3]; exact ⟨rfl, rfl⟩
theorem apF_4 {d : Dk} {e : En} (h : (rdF e.nm).1 = 0) (h2 : tickB e.tick = true) (h3 : ¬ 65536 < d.b.length + (recL e).length) : apF d e = (if (wrD d (recL e)).2 = true then (0, -1) else (10, -1)) ∧ apD d e = (wrD d (recL e)).1 := by
  refine ⟨?_, ?_⟩
  · unfold apF; rw [if_neg (fun x => x h), if_neg (by rw [h2]; decide), if_neg h3]
  · unfold apD; rw [if_neg (fun x => x h), if_neg (by rw [h2]; decide), if_neg h3]
theorem recL_le {e : En} (h : EnOk e) : (recL e).length ≤ 198 := by
  have := (body_len h).2
  have e1 : (recL e).length = (bodyL e).length + 6 := recB_len _
  omega
theorem dwrite_any {es : Nat → Addr} {B q : Nat} {v : Value} {d : Dk} (s : Bs) (w : World) (hD : DiskAt w q v d) (hlo : DkLo B q v) (hB : B ≤ w.heap.size) (g1 : w.cell? ⟨gErr 9, 0, none⟩ = some (sentV (es 9))) (gB : gErr 9 < B) (hs1 : 1 ≤ s.length) (hs2 : d.b.length + s.length ≤ 100000) :
    Calls Tryz.prog 51 #[.pointer (some ⟨q, 0, none⟩), .string (B8 s)] w (WPost es w q v d s) := by
  cases ho : d.off with
  | true => exact dwrite_off s w hD hlo g1 gB hs1 (by omega) ho
  | false => exact dwrite_on s w hD hlo hB g1 gB (by omega) ho
set_option maxHeartbeats 4000000 in
set_option maxRecDepth 100000 in
theorem dappend_any {es : Nat → Addr} {B q : Nat} {v : Value} {d : Dk} (en : En) (w : World) (hW : WalW es B w) (hB : B ≤ w.heap.size) (hD : DiskAt w q v d) (hlo : DkLo B q v) (hd : d.b.length ≤ 65536) (hn : en.nm.length ≤ 100000) (hbit : en.bit < 18446744073709551616) :
    Calls Tryz.prog 29 #[.pointer (some ⟨q, 0, none⟩), .string (B8 en.nm), .agg #[.int .i64 en.tick, .int .u64 (en.bit : Int)]] w (APost es q v d en w) := by
  obtain ⟨f, hf⟩ : ∃ f, f = w.heap.size := ⟨_, rfl⟩
  have hb0 : Below w.heap.size w (w.alloc (.cells #[.int .i64 en.tick, .int .u64 (en.bit : Int)] 39)) := Below.alloc (Below.refl _ _) (Nat.le_refl _) _
  have hk0 := Blk.new w 39 #[.int .i64 en.tick, .int .u64 (en.bit : Int)]
  rw [← hf] at hk0
  have HW := Lib.hid (fun W (hb : Below w.heap.size w W) => hW.below hb hB)
  have HD := Lib.hid (fun W (hb : Below w.heap.size w W) => hD.below hb (Nat.le_refl _))
  have Hlr := Lib.hid (fun W (hb : Below w.heap.size w W) => lread_u en.nm hn W (HW.out W hb).svl (Nat.le_trans hB hb.size))
  have HB0 := Lib.hid hb0; have HK0 := Lib.hid hk0; have H0 := Lib.hid hD; have Hlo := Lib.hid hlo; have HBle := Lib.hid hB
  have hq := hD.S_lt q (.inl rfl)
  obtain ⟨nm, tick, bit⟩ := en
  dsimp only at hn hbit Hlr HB0 HK0 ⊢
  have Hrc := Lib.hid (fun (ht : tickB tick = true) W (hb : Below w.heap.size w W) => record_any nm tick bit hn (tick_abs ht) hbit W (HW.out W hb) (Nat.le_trans HBle.out hb.size))
  clear hW hb0 hk0 hD hlo hB
  generalize hsb : B8 nm = sb at Hlr Hrc ⊢
  clear hsb
  go_enter Tryz.func29, Tryz.ntmps29
  go_wp2_with fail
  refine (Hlr.out _ HB0.out).mono ?_
  rintro e w1 ⟨ev, u, l, rfl, hev, _, _, _, hb1⟩
  rw [← hf]
  have hfw : w.heap.size ≤ f := by omega
  have hk1 := HK0.out.below hb1 (by rw [hf]; simp)
  have HE := Lib.hid (show EV es w.heap.size w1 ev (rdF nm) from hev.base (by simp))
  have HB1 := Lib.hid (Below.call HB0.out hb1 HB0.out.size)
  have HK1 := Lib.hid hk1
  clear hf hev hb1 hk1
  by_cases hrd : (rdF nm).1 = 0
  · obtain rfl := HE.out.zero hrd
    have Hrd := Lib.hid hrd
    have q0 := HK1.out.cell 0; have q1 := HK1.out.cell 1
    simp only [List.getElem?_toArray, List.getElem?_cons_zero, List.getElem?_cons_succ] at q0 q1
    have g1 : w1.cell? ⟨0, 0, none⟩ = some (sentV (es 1)) := (HW.out _ HB1.out).svl.var 1 (by decide)
    have g6 : w1.cell? ⟨5, 0, none⟩ = some (sentV (es 6)) := (HW.out _ HB1.out).svl.var 6 (by decide)
    by_cases ht1 : -1099511627776 ≤ tick
    · by_cases ht2 : tick ≤ 1099511627776
      · have Hty := Lib.hid (tickB_yes ht1 ht2)
        have ht3 : ¬ tick < -1099511627776 := by omega
        have ht4 : ¬ 1099511627776 < tick := by omega
        go_wp2_with fail
        refine (Hrc.out Hty.out _ HB1.out).mono ?_
        rintro e w2 ⟨rfl, hb2⟩
        have HB2 := Lib.hid (Below.call HB1.out hb2 HB1.out.size)
        have hD2 := HD.out _ HB2.out
        have c0 : w2.cell? ⟨q, 0, none⟩ = some v := hD2.hd.cell 0
        have g9 : w2.cell? ⟨5, 0, none⟩ = some (sentV (es 6)) := (HW.out _ HB2.out).svl.var 6 (by decide)
        obtain ⟨A, c, hv, _⟩ := hD2.buf.form
        rw [hv] at c0
        have Hv := Lib.hid hv
        have hrl : (recL ⟨nm, tick, bit⟩).length ≤ 100000 := Nat.le_trans (recL_le ⟨Hrd.out, Hty.out, hbit⟩) (by decide)
        have hr1 : 1 ≤ (recL ⟨nm, tick, bit⟩).length := by unfold recL; rw [recB_len]; omega
        obtain ⟨rl, hrle⟩ : ∃ rl, rl = (recL ⟨nm, tick, bit⟩).length := ⟨_, rfl⟩
        have hsz : (B8 (recL ⟨nm, tick, bit⟩)).size = rl := by rw [B8_size, hrle]
        rw [← hrle] at hrl hr1
        have Hrl := Lib.hid hrle
        have Hwr := Lib.hid (fun (h3 : ¬ 65536 < d.b.length + (recL ⟨nm, tick, bit⟩).length) => dwrite_any (recL ⟨nm, tick, bit⟩) w2 hD2 Hlo.out (Nat.le_trans HBle.out HB2.out.size) (HW.out _ HB2.out).off (HW.out _ HB2.out).offlt (by rw [← Hrl.out]; exact hr1) (by omega))
        obtain ⟨bl, hbl⟩ : ∃ bl, bl = d.b.length := ⟨_, rfl⟩
        rw [← hbl] at c0 hd
        have Hbl := Lib.hid hbl
        clear hb2 hv hrle hD2 hbl
        generalize B8 (recL ⟨nm, tick, bit⟩) = sr at hsz Hwr
        by_cases h3 : 65536 < bl + rl
        · have h3' : (65536 : Int) - bl < rl := by omega
          have H3 := Lib.hid (apF_3 (d := d) (e := ⟨nm, tick, bit⟩) Hrd.out Hty.out (by rw [← Hrl.out, ← Hbl.out]; exact h3))
          go_wp2
          go_ret
          refine ⟨_, rfl, ?_, v, ?_⟩
          · rw [H3.out.1]; exact EV.sent 6 (by decide)
          · rw [H3.out.2]; exact DStep.ofBelow H0.out HB2.out (Nat.le_refl _)
        · have h3' : ¬ (65536 : Int) - bl < rl := by omega
          have h3n : ¬ 65536 < d.b.length + (recL ⟨nm, tick, bit⟩).length := by rw [← Hrl.out, ← Hbl.out]; exact h3
          have H4 := Lib.hid (apF_4 (d := d) (e := ⟨nm, tick, bit⟩) Hrd.out Hty.out h3n)
          have Hwr2 := Lib.hid (Hwr.out h3n)
          clear h3n
          go_wp2_with fail
          refine Hwr2.out.mono ?_
          rintro e w3 ⟨hy, hno, v', hst⟩
          have HS := Lib.hid (DStep.before H0.out HB2.out (Nat.le_refl _) hst)
          cases hwr : (wrD d (recL ⟨nm, tick, bit⟩)).2 with
          | true =>
            obtain rfl := hy hwr
            have Hw := Lib.hid hwr
            clear hy hno hst hwr
            go_wp2
            go_ret
            refine ⟨_, rfl, ?_, v', ?_⟩
            · rw [H4.out.1, Hw.out]; exact EV.nil
            · rw [H4.out.2]; exact HS.out
          | false =>
            obtain rfl := hno hwr
            have Hw := Lib.hid hwr
            clear hy hno hst hwr
            go_wp2
            go_ret
            refine ⟨_, rfl, ?_, v', ?_⟩
            · rw [H4.out.1, Hw.out]; exact EV.sent 9 (by decide)
            · rw [H4.out.2]; exact HS.out
      · have ht3 : 1099511627776 < tick := by omega
        have ht5 : ¬ tick < -1099511627776 := by omega
        have H2 := Lib.hid (apF_2 (d := d) (e := ⟨nm, tick, bit⟩) Hrd.out (tickB_no (n := tick) (by omega)))
        go_wp2
        go_ret
        refine ⟨_, rfl, ?_, v, ?_⟩
        · rw [H2.out.1]; exact EV.sent 1 (by decide)
        · rw [H2.out.2]; exact DStep.ofBelow H0.out HB1.out (Nat.le_refl _)
    · have ht3 : tick < -1099511627776 := by omega
      have H2 := Lib.hid (apF_2 (d := d) (e := ⟨nm, tick, bit⟩) Hrd.out (tickB_no (n := tick) (by omega)))
      go_wp2
      go_ret
      refine ⟨_, rfl, ?_, v, ?_⟩
      · rw [H2.out.1]; exact EV.sent 1 (by decide)
      · rw [H2.out.2]; exact DStep.ofBelow H0.out HB1.out (Nat.le_refl _)
  · obtain ⟨t5, p5, rfl⟩ := HE.out.pos hrd
    have H1 := Lib.hid (apF_1 (d := d) (e := ⟨nm, tick, bit⟩) hrd)
    clear hrd
    go_wp2
    go_ret
    refine ⟨_, rfl, ?_, v, ?_⟩
    · rw [H1.out.1]; exact HE.out
    · rw [H1.out.2]; exact DStep.ofBelow H0.out HB1.out (Nat.le_refl _)
end Go.Proofs.YthgefobcohlegaaGreatDoor
