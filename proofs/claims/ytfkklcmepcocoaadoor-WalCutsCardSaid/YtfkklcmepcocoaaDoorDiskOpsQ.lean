/- wal.Append and wal.Recover by contracts. -/
import Derived.Test.YtfkklcmepcocoaaDoorDisk2Q
import Derived.Test.YtfkklcmepcocoaaDoorWalRdQ
namespace Go.Proofs.YtfkklcmepcocoaaDoor
open Go.RowKit
set_option linter.unusedVariables false

def APost (es : Nat → Addr) (q : Nat) (v : Value) (d : Dk) (en : En) (w : World) (e : Ending) (w' : World) : Prop :=
  ∃ ev, e = .returned ev ∧ EV es w.heap.size w' ev (apF d en) ∧ ∃ v', DStep w w' q v v' (apD d en)
theorem EV.sent {es : Nat → Addr} {B : Nat} {W : World} (k : Nat) (hk : k < 11) : EV es B W (sentV (es k)) (k + 1, -1) := .inr (.inl ⟨k, hk, rfl, rfl⟩)
theorem EV.nil {es : Nat → Addr} {B : Nat} {W : World} : EV es B W .nilIface (0, -1) := .inl ⟨rfl, rfl⟩
theorem apF_1 {d : Dk} {e : En} (h : (rdF e.nm).1 ≠ 0) : apF d e = rdF e.nm ∧ apD d e = d := ⟨if_pos h, if_pos h⟩
theorem apF_2 {d : Dk} {e : En} (h : (rdF e.nm).1 = 0) (h2 : tickB e.tick = false) : apF d e = (2, -1) ∧ apD d e = d := by
  unfold apF apD; rw [if_neg (fun x => x h), if_pos h2, if_neg (fun x => x h), if_pos h2]; exact ⟨rfl, rfl⟩
theorem apF_3 {d : Dk} {e : En} (h : (rdF e.nm).1 = 0) (h2 : tickB e.tick = true) (h3 : 65536 < d.b.length + (recL e).length) : apF d e = (7, -1) ∧ apD d e = d := by
  unfold apF apD; rw [if_neg (fun x => x h), if_neg (by rw [h2]; decide), if_pos h3, if_neg (fun x => x h), if_neg (by rw [h2]; decide), if_pos h3]; exact ⟨rfl, rfl⟩
theorem apF_4 {d : Dk} {e : En} (h : (rdF e.nm).1 = 0) (h2 : tickB e.tick = true) (h3 : ¬ 65536 < d.b.length + (recL e).length) : apF d e = (if (wrD d (recL e)).2 = true then (0, -1) else (10, -1)) ∧ apD d e = (wrD d (recL e)).1 := by
  refine ⟨?_, ?_⟩
  · unfold apF; rw [if_neg (fun x => x h), if_neg (by rw [h2]; decide), if_neg h3]
  · unfold apD; rw [if_neg (fun x => x h), if_neg (by rw [h2]; decide), if_neg h3]
theorem recL_le {e : En} (h : EnOk e) : (recL e).length ≤ 198 := by
  have := (body_len h).2
  have e1 : (recL e).length = (bodyL e).length + 6 := recB_len _
  omega
theorem dwrite_any {es : Nat → Addr} {B q : Nat} {v : Value} {d : Dk} (s : Bs) (w : World) (hD : DiskAt w q v d) (hlo : DkLo B q v) (hB : B ≤ w.heap.size) (g1 : w.cell? ⟨gErr 9, 0, none⟩ = some (sentV (es 9))) (gB : gErr 9 < B) (hs1 : 1 ≤ s.length) (hs2 : d.b.length + s.length ≤ 100000) :
    Calls Tryd.prog 22 #[.pointer (some ⟨q, 0, none⟩), .string (B8 s)] w (WPost es w q v d s) := by
  cases ho : d.off with
  | true => exact dwrite_off s w hD hlo g1 gB hs1 (by omega) ho
  | false => exact dwrite_on s w hD hlo hB g1 gB (by omega) ho
set_option maxHeartbeats 4000000 in
set_option maxRecDepth 100000 in
theorem dappend_any {es : Nat → Addr} {B q : Nat} {v : Value} {d : Dk} (en : En) (w : World) (hW : WalW es B w) (hB : B ≤ w.heap.size) (hD : DiskAt w q v d) (hlo : DkLo B q v) (hd : d.b.length ≤ 65536) (hn : en.nm.length ≤ 100000) (hbit : en.bit < 18446744073709551616) :
    Calls Tryd.prog 11 #[.pointer (some ⟨q, 0, none⟩), .string (B8 en.nm), .agg #[.int .i64 en.tick, .int .u64 (en.bit : Int)]] w (APost es q v d en w) := by
  obtain ⟨f, hf⟩ : ∃ f, f = w.heap.size := ⟨_, rfl⟩
  have hb0 : Below w.heap.size w (w.alloc (.cells #[.int .i64 en.tick, .int .u64 (en.bit : Int)] 34)) := Below.alloc (Below.refl _ _) (Nat.le_refl _) _
  have hk0 := Blk.new w 34 #[.int .i64 en.tick, .int .u64 (en.bit : Int)]
  rw [← hf] at hk0
  have HW := Lib.hid (fun W (hb : Below w.heap.size w W) => hW.below hb hB)
  have HD := Lib.hid (fun W (hb : Below w.heap.size w W) => hD.below hb (Nat.le_refl _))
  have Hlr := Lib.hid (fun W (hb : Below w.heap.size w W) => lread_u en.nm hn W (HW.out W hb).svl (Nat.le_trans hB hb.size))
  have HB0 := Lib.hid hb0; have HK0 := Lib.hid hk0; have H0 := Lib.hid hD; have Hlo := Lib.hid hlo; have HBle := Lib.hid hB
  have hq := hD.S_lt q (.inl rfl)
  obtain ⟨nm, tick, bit⟩ := en
  dsimp only at hn hbit Hlr HB0 HK0 ⊢
  have Hrc := Lib.hid (fun (ht : tickB tick = true) W (hb : Below w.heap.size w W) => record_any nm tick bit hn (tick_abs ht) hbit W (HW.out W hb) (Nat.le_trans HBle.out hb.size))
  clear hW hb0 hk0 hD hlo hB
  generalize hsb : B8 nm = sb at Hlr Hrc ⊢
  clear hsb
  go_enter Tryd.func11, Tryd.ntmps11
  go_wp2_with fail
  refine (Hlr.out _ HB0.out).mono ?_
  rintro e w1 ⟨ev, u, l, rfl, hev, _, _, _, hb1⟩
  rw [← hf]
  have hfw : w.heap.size ≤ f := by omega
  have hk1 := HK0.out.below hb1 (by rw [hf]; simp)
  have HE := Lib.hid (show EV es w.heap.size w1 ev (rdF nm) from hev.base (by simp))
  have HB1 := Lib.hid (Below.call HB0.out hb1 HB0.out.size)
  have HK1 := Lib.hid hk1
  clear hf hev hb1 hk1
  by_cases hrd : (rdF nm).1 = 0
  · obtain rfl := HE.out.zero hrd
    have Hrd := Lib.hid hrd
    have q0 := HK1.out.cell 0; have q1 := HK1.out.cell 1
    simp only [List.getElem?_toArray, List.getElem?_cons_zero, List.getElem?_cons_succ] at q0 q1
    have g1 : w1.cell? ⟨0, 0, none⟩ = some (sentV (es 1)) := (HW.out _ HB1.out).svl.var 1 (by decide)
    have g6 : w1.cell? ⟨3, 0, none⟩ = some (sentV (es 6)) := (HW.out _ HB1.out).svl.var 6 (by decide)
    by_cases ht1 : -1099511627776 ≤ tick
    · by_cases ht2 : tick ≤ 1099511627776
      · have Hty := Lib.hid (tickB_yes ht1 ht2)
        have ht3 : ¬ tick < -1099511627776 := by omega
        have ht4 : ¬ 1099511627776 < tick := by omega
        go_wp2_with fail
        refine (Hrc.out Hty.out _ HB1.out).mono ?_
        rintro e w2 ⟨rfl, hb2⟩
        have HB2 := Lib.hid (Below.call HB1.out hb2 HB1.out.size)
        have hD2 := HD.out _ HB2.out
        have c0 : w2.cell? ⟨q, 0, none⟩ = some v := hD2.hd.cell 0
        have g9 : w2.cell? ⟨3, 0, none⟩ = some (sentV (es 6)) := (HW.out _ HB2.out).svl.var 6 (by decide)
        obtain ⟨A, c, hv, _⟩ := hD2.buf.form
        rw [hv] at c0
        have Hv := Lib.hid hv
        have hrl : (recL ⟨nm, tick, bit⟩).length ≤ 100000 := Nat.le_trans (recL_le ⟨Hrd.out, Hty.out, hbit⟩) (by decide)
        have hr1 : 1 ≤ (recL ⟨nm, tick, bit⟩).length := by unfold recL; rw [recB_len]; omega
        obtain ⟨rl, hrle⟩ : ∃ rl, rl = (recL ⟨nm, tick, bit⟩).length := ⟨_, rfl⟩
        have hsz : (B8 (recL ⟨nm, tick, bit⟩)).size = rl := by rw [B8_size, hrle]
        rw [← hrle] at hrl hr1
        have Hrl := Lib.hid hrle
        have Hwr := Lib.hid (fun (h3 : ¬ 65536 < d.b.length + (recL ⟨nm, tick, bit⟩).length) => dwrite_any (recL ⟨nm, tick, bit⟩) w2 hD2 Hlo.out (Nat.le_trans HBle.out HB2.out.size) (HW.out _ HB2.out).off (HW.out _ HB2.out).offlt (by rw [← Hrl.out]; exact hr1) (by omega))
        obtain ⟨bl, hbl⟩ : ∃ bl, bl = d.b.length := ⟨_, rfl⟩
        rw [← hbl] at c0 hd
        have Hbl := Lib.hid hbl
        clear hb2 hv hrle hD2 hbl
        generalize B8 (recL ⟨nm, tick, bit⟩) = sr at hsz Hwr
        by_cases h3 : 65536 < bl + rl
        · have h3' : (65536 : Int) - bl < rl := by omega
          have H3 := Lib.hid (apF_3 (d := d) (e := ⟨nm, tick, bit⟩) Hrd.out Hty.out (by rw [← Hrl.out, ← Hbl.out]; exact h3))
          go_wp2
          go_ret
          refine ⟨_, rfl, ?_, v, ?_⟩
          · rw [H3.out.1]; exact EV.sent 6 (by decide)
          · rw [H3.out.2]; exact DStep.ofBelow H0.out HB2.out (Nat.le_refl _)
        · have h3' : ¬ (65536 : Int) - bl < rl := by omega
          have h3n : ¬ 65536 < d.b.length + (recL ⟨nm, tick, bit⟩).length := by rw [← Hrl.out, ← Hbl.out]; exact h3
          have H4 := Lib.hid (apF_4 (d := d) (e := ⟨nm, tick, bit⟩) Hrd.out Hty.out h3n)
          have Hwr2 := Lib.hid (Hwr.out h3n)
          clear h3n
          go_wp2_with fail
          refine Hwr2.out.mono ?_
          rintro e w3 ⟨hy, hno, v', hst⟩
          have HS := Lib.hid (DStep.before H0.out HB2.out (Nat.le_refl _) hst)
          cases hwr : (wrD d (recL ⟨nm, tick, bit⟩)).2 with
          | true =>
            obtain rfl := hy hwr
            have Hw := Lib.hid hwr
            clear hy hno hst hwr
            go_wp2
            go_ret
            refine ⟨_, rfl, ?_, v', ?_⟩
            · rw [H4.out.1, Hw.out]; exact EV.nil
            · rw [H4.out.2]; exact HS.out
          | false =>
            obtain rfl := hno hwr
            have Hw := Lib.hid hwr
            clear hy hno hst hwr
            go_wp2
            go_ret
            refine ⟨_, rfl, ?_, v', ?_⟩
            · rw [H4.out.1, Hw.out]; exact EV.sent 9 (by decide)
            · rw [H4.out.2]; exact HS.out
      · have ht3 : 1099511627776 < tick := by omega
        have ht5 : ¬ tick < -1099511627776 := by omega
        have H2 := Lib.hid (apF_2 (d := d) (e := ⟨nm, tick, bit⟩) Hrd.out (tickB_no (n := tick) (by omega)))
        go_wp2
        go_ret
        refine ⟨_, rfl, ?_, v, ?_⟩
        · rw [H2.out.1]; exact EV.sent 1 (by decide)
        · rw [H2.out.2]; exact DStep.ofBelow H0.out HB1.out (Nat.le_refl _)
    · have ht3 : tick < -1099511627776 := by omega
      have H2 := Lib.hid (apF_2 (d := d) (e := ⟨nm, tick, bit⟩) Hrd.out (tickB_no (n := tick) (by omega)))
      go_wp2
      go_ret
      refine ⟨_, rfl, ?_, v, ?_⟩
      · rw [H2.out.1]; exact EV.sent 1 (by decide)
      · rw [H2.out.2]; exact DStep.ofBelow H0.out HB1.out (Nat.le_refl _)
  · obtain ⟨t5, p5, rfl⟩ := HE.out.pos hrd
    have H1 := Lib.hid (apF_1 (d := d) (e := ⟨nm, tick, bit⟩) hrd)
    clear hrd
    go_wp2
    go_ret
    refine ⟨_, rfl, ?_, v, ?_⟩
    · rw [H1.out.1]; exact HE.out
    · rw [H1.out.2]; exact DStep.ofBelow H0.out HB1.out (Nat.le_refl _)
end Go.Proofs.YtfkklcmepcocoaaDoor
