/- WalActs by its contract: it returns true. -/
import Derived.Test.YtfkklcmepcocoaaGreatDoorMkd
import Derived.Test.YtfkklcmepcocoaaGreatDoorMke
import Derived.Test.YtfkklcmepcocoaaGreatDoorRAppQ
import Derived.Deep.RegionHeld3
import Derived.Deep.DeepCutAuto
namespace Go.Proofs.YtfkklcmepcocoaaGreatDoor
open Go.RowKit
set_option linter.unusedVariables false

/-- A disk and its reference in memory, side by side. -/
structure Both (B : Nat) (W : World) (q rb : Nat) (v : Value) (d m : Dk) : Prop where
  hD : DiskAt W q v d
  lo : DkLo B q v
  hR : RDAt W rb m
  rlo : B ≤ rb
  same : Same d m
  len : d.b.length ≤ 65536
  rok : CutOk m.cut
section
variable {es : Nat → Addr} {B q rb : Nat} {v : Value} {d m : Dk} {W W1 W2 : World}
theorem Both.below (h : Both B W q rb v d m) (hb : Below W.heap.size W W1) : Both B W1 q rb v d m := ⟨h.hD.below hb (Nat.le_refl _), h.lo, Blk.below h.hR hb (Blk.lt h.hR), h.rlo, h.same, h.len, h.rok⟩
/-- The disk has turned, then its reference. -/
theorem Both.step (h : Both B W q rb v d m) (hB : B ≤ W.heap.size) {v' : Value} {d' m' : Dk} (h1 : DStep W W1 q v v' d') (h2 : RStep W1 W2 rb m') (hs : Same d' m') (hl : d'.b.length ≤ 65536) (hc : CutOk m'.cut) : Both B W2 q rb v' d' m' ∧ Below B W W2 := by
  have hR1 : RDAt W1 rb m := h1.blk h.hD h.hR (by decide) (by decide)
  refine ⟨⟨h1.at_.fr h2.fr (fun k hk e => ?_), h1.lo h.lo hB, h2.at_, h.rlo, hs, hl, hc⟩, (h1.below h.lo hB).trans (h2.fr.below (Nat.le_trans hB h1.fr.size) (fun k hk e => by have := h.rlo; omega))⟩
  rcases hk with rfl | hk
  · exact Blk.ne_ h1.at_.hd hR1 (by decide) e
  · exact (h1.at_.buf.row k hk).ne_blk hR1 (by decide) e
theorem Both.mid (h : Both B W q rb v d m) {v' : Value} {d' : Dk} (h1 : DStep W W1 q v v' d') : RDAt W1 rb m := h1.blk h.hD h.hR (by decide) (by decide)
theorem EV.fr {S : Nat → Prop} {C : Nat} {u : Value} {c : Nat × Int} (h : EV es C W u c) (hf : Fr S W W1) (hS : ∀ k, S k → k < C) : EV es C W1 u c := by
  rcases h with h | h | ⟨k, pb, t, h1, h2, h3, h4, h5, h6, h7⟩
  · exact .inl h
  · exact .inr (.inl h)
  · have hp := hf.block pb h5 (fun e => by have := hS pb e; omega)
    exact .inr (.inr ⟨k, pb, t, h1, h2, h3, h4, Nat.lt_of_lt_of_le h5 hf.size, (World.cell?_of_block (a := ⟨pb, 0, none⟩) hp).trans h6, (World.cell?_of_block (a := ⟨pb, 1, none⟩) hp).trans h7⟩)
theorem rapD_cutOk {m : Dk} (h : CutOk m.cut) (e : En) : CutOk (rapD m e).cut := by
  unfold rapD
  split
  · exact h
  · split
    · exact h
    · split
      · exact h
      · split
        · exact h
        · split
          · exact h
          · rename_i h1
            unfold CutOk at h ⊢
            dsimp only
            split <;> omega
theorem RStep.refl {m : Dk} (h : RDAt W rb m) : RStep W W rb m := ⟨h, Fr.refl _ _⟩
/-- An error of one of the sentinels, or none, by its number. -/
def SentE (es : Nat → Addr) (ev : Value) (code : Int) : Prop := (ev = .nilIface ∧ code = 0) ∨ ∃ k, k < 11 ∧ ev = sentV (es k) ∧ code = ((k : Nat) : Int) + 1
theorem SentE.is {C : Nat} {ev : Value} {code : Int} (h : SentE es ev code) (hS : Sents es C W) : ErrIs es W ev code (-1) := by
  rcases h with ⟨rfl, rfl⟩ | ⟨k, hk, rfl, rfl⟩
  · exact ErrIs.nil
  · exact ErrIs.sent hS hk
/-- A cut of both. -/
theorem both_cut {C : Nat} (h : Both B W q rb v d m) (hS : Sents es C W) (n : Int) (hn : n < 9223372036854775808) :
    ∃ (code : Int) (d' m' : Dk), (Calls Tryz.prog 22 #[.pointer (some ⟨q, 0, none⟩), .int .i64 n] W fun e w' => ∃ ev, e = .returned ev ∧ SentE es ev code ∧ DStep W w' q v v d') ∧
      (∀ W1, RDAt W1 rb m → Calls Tryz.prog 23 #[.pointer (some ⟨rb, 0, none⟩), .int .i64 n] W1 fun e w' => e = .returned (.int .i64 code) ∧ RStep W1 w' rb m') ∧ Same d' m' ∧ d'.b.length ≤ 65536 ∧ CutOk m'.cut := by
  rcases Int.lt_or_le n 0 with h0 | h0
  · refine ⟨2, d, m, (dcut_neg W n h0 (hS.var 1 (by decide))).mono ?_, fun W1 hr => (rsc_neg rb n h0 W1).mono ?_, h.same, h.len, h.rok⟩
    · rintro e w' ⟨rfl, rfl⟩
      exact ⟨_, rfl, .inr ⟨1, by decide, rfl, rfl⟩, DStep.ofBelow h.hD (Below.refl _ _) (Nat.le_refl _)⟩
    · rintro e w' ⟨rfl, rfl⟩
      exact ⟨rfl, RStep.refl hr⟩
  cases ho : d.off with
  | true =>
    refine ⟨10, d, m, (dcut_off W h.hD n h0 ho (hS.var 9 (by decide))).mono ?_, fun W1 hr => (rsc_off rb m n h0 W1 hr (by rw [← h.same.off]; exact ho)).mono ?_, h.same, h.len, h.rok⟩
    · rintro e w' ⟨rfl, rfl⟩
      exact ⟨_, rfl, .inr ⟨9, by decide, rfl, rfl⟩, DStep.ofBelow h.hD (Below.refl _ _) (Nat.le_refl _)⟩
    · rintro e w' ⟨rfl, rfl⟩
      exact ⟨rfl, RStep.refl hr⟩
  | false =>
    refine ⟨0, ⟨d.b, false, n⟩, ⟨m.b, false, n⟩, (dcut_ok W h.hD n h0 hn ho).mono ?_, fun W1 hr => (rsc_ok rb m n h0 W1 hr (by rw [← h.same.off]; exact ho)).mono ?_, ⟨h.same.b, rfl, fun _ => rfl⟩, h.len, ⟨by show (-1 : Int) ≤ n; omega, hn⟩⟩
    · rintro e w' ⟨rfl, hst⟩
      exact ⟨_, rfl, .inl ⟨rfl, rfl⟩, hst⟩
    · rintro e w' ⟨rfl, hst⟩
      exact ⟨rfl, hst⟩
theorem coded2_eq (u : Value) (n : Int) (w : World) (hS : Sents es B w) (hB : B ≤ w.heap.size) (hv : ErrIs es w u n (-1)) :
    Calls Tryz.prog 21 #[u, .int .i64 n] w fun e w' => e = .returned (.bool true) ∧ Below w.heap.size w w' := by
  refine (coded2_any u n (-1) n w hS hB hv).mono ?_
  rintro e w' ⟨rfl, hb⟩
  exact ⟨by simp, hb⟩
end
theorem kd_ne {sk : ByteArray} {kd l : Bs} (hk : B8 kd = sk) (h : ¬ sk = B8 l) : (sk.toList == l) = false := by
  rw [← hk, B8_toList]
  apply Bool.eq_false_iff.2
  intro e
  have e : kd = l := by simpa using e
  exact h (by rw [← hk, e])
/-- What the round keeps behind its switch. -/
def ActInv (B : Nat) (w : World) (q rb : Nat) (W : World) : Prop := (∃ v d m, Both B W q rb v d m) ∧ Below B w W
theorem ActInv.mk' {B : Nat} {w W : World} {q rb : Nat} {v : Value} {d m : Dk} (h : Both B W q rb v d m) (hb : Below B w W) : ActInv B w q rb W := ⟨⟨v, d, m, h⟩, hb⟩
set_option maxHeartbeats 16000000 in
set_option maxRecDepth 100000 in
theorem walActs_law {es : Nat → Addr} {B : Nat} (b : Bs) (A : Option Addr) (n c : Nat) (l : List LAct) (w : World) (hW : WalW es B w) (hS : Sents es B w) (hB : B ≤ w.heap.size) (hA : Rd w w.heap.size 5 A n (lactC l)) (hn : n ≤ 140737488351232) (hl : ∀ a ∈ l, LOk a) :
    Calls Tryz.prog 4 #[.string (B8 b), .slice A n c] w fun e w' => e = .returned (.bool true) ∧ Below w.heap.size w w' := by
  have HW := Lib.hid (fun W (hb : Below w.heap.size w W) => hW.below hb hB)
  have HS := Lib.hid (fun W (hb : Below w.heap.size w W) => hS.below hb hB)
  have HB := Lib.hid hB
  have Hlg := Lib.hid (logged_any w hW hB)
  have HA := Lib.hid hA; have Hl := Lib.hid hl
  clear hW hS hB hA hl
  have hsz : (B8 b).size = b.length := B8_size b
  by_cases h3 : 3000 < b.length
  · have h3' : (3000 : Int) < ((B8 b).size : Int) := by omega
    generalize B8 b = st at h3' ⊢
    clear hsz
    go_enter Tryz.func4, Tryz.ntmps4
    go_wp2_with fail
    refine Hlg.out.mono ?_
    rintro e w1 ⟨rfl, hb⟩
    have HB1 := Lib.hid hb
    clear hb
    go_wp2
    go_ret
    exact ⟨rfl, HB1.out⟩
  have h3' : ¬ (3000 : Int) < ((B8 b).size : Int) := by omega
  by_cases h60 : 60 < n
  · have h60' : (60 : Int) < (n : Int) := by omega
    generalize B8 b = st at h3' ⊢
    clear hsz
    go_enter Tryz.func4, Tryz.ntmps4
    go_wp2_with fail
    refine Hlg.out.mono ?_
    rintro e w1 ⟨rfl, hb⟩
    have HB1 := Lib.hid hb
    clear hb
    go_wp2
    go_ret
    exact ⟨rfl, HB1.out⟩
  have h60' : ¬ (60 : Int) < (n : Int) := by omega
  have Hnew := Lib.hid (fun W => dnew_any b (by omega) W)
  have hbl : b.length ≤ 3000 := by omega
  generalize hst : B8 b = st at h3' Hnew ⊢
  have Hst := Lib.hid hst
  clear hsz hst
  go_enter Tryz.func4, Tryz.ntmps4
  go_wp2_with fail
  refine Hlg.out.mono ?_
  rintro e w1 ⟨rfl, hb⟩
  have HB1 := Lib.hid hb
  clear hb
  go_wp2_with fail
  refine (Hnew.out _).mono ?_
  rintro e w2 ⟨q, v, rfl, hD, hlo, hb⟩
  obtain ⟨rb, hrb⟩ : ∃ rb, rb = w2.heap.size := ⟨_, rfl⟩
  have H0 := Lib.hid (show ActInv w.heap.size w q rb (w2.alloc (.cells #[.string st, .bool false, .int .i64 (-1)] 48)) from by
    have h1 := Below.call HB1.out hb HB1.out.size
    have h2 : Below w2.heap.size w2 (w2.alloc (.cells #[.string st, .bool false, .int .i64 (-1)] 48)) := Below.alloc (Below.refl _ _) (Nat.le_refl _) _
    refine ActInv.mk' (v := v) (d := ⟨b, false, -1⟩) (m := ⟨b, false, -1⟩) ⟨hD.below h2 (Nat.le_refl _), fun k hk => Nat.le_trans HB1.out.size (hlo k hk), ?_, by rw [hrb]; exact h1.size, ⟨rfl, rfl, fun _ => rfl⟩, by dsimp only; omega, ⟨by show (-1 : Int) ≤ -1; decide, by show (-1 : Int) < 9223372036854775808; decide⟩⟩ (Below.alloc h1 h1.size _)
    show Blk _ rb _ #[.string (B8 b), .bool false, .int .i64 (-1)]
    rw [Hst.out, hrb]; exact Blk.new _ _ _)
  clear hD hlo hb
  go_wp2
  rw [← hrb]
  clear hrb
  go_loopw [9] (fun iv wr => ∃ (j : Nat), j ≤ n ∧ iv = .int .i64 j ∧ ActInv w.heap.size w q rb wr) (fun iv _ => n - (intOf iv).toNat)
  case atStart => exact ⟨0, Nat.zero_le _, rfl, H0.out⟩
  case round =>
    obtain ⟨j, hj, rfl, ⟨⟨v1, d, m, hT⟩, hb⟩⟩ := hrel
    rename World => wo
    have HT := Lib.hid hT; have HBo := Lib.hid hb
    have hszo := hb.size
    by_cases hjn : j < n
    · have hjn' : (j : Int) < n := by omega
      obtain ⟨bx, ox, y, hAx, hbx, hge, x0, x1, x2, x3, x4⟩ := (HA.out.below hb).atL hjn
      subst hAx
      have Hy := Lib.hid (Hl.out y (List.mem_of_getElem? hge))
      have hsz : (B8 y.nm).size = y.nm.length := B8_size _
      clear hge hT hb
      generalize hkd : B8 y.kd = sk at x0
      have Hkd := Lib.hid hkd
      clear hkd
      by_cases hl2 : 200 < y.nm.length
      · have hl' : (200 : Int) < ((B8 y.nm).size : Int) := by omega
        generalize B8 y.nm = sn at x1 hl'
        clear hsz
        go_wp2
        go_ret
        exact ⟨rfl, Below.alloc HBo.out hszo _⟩
      · have hl' : ¬ (200 : Int) < ((B8 y.nm).size : Int) := by omega
        generalize hsn : B8 y.nm = sn at x1 hl'
        have Hsn := Lib.hid hsn
        clear hsn hsz
        go_upto_block 2 with fail
        have hba := Below.alloc (Below.refl wo.heap.size wo) (Nat.le_refl _) (.cells #[.string sk, .string sn, .int .i64 y.tick, .int .u64 (y.bit : Int), .int .i64 y.n] 53)
        have hblk := Blk.new wo 53 #[.string sk, .string sn, .int .i64 y.tick, .int .u64 (y.bit : Int), .int .i64 y.n]
        generalize hwa : wo.alloc (.cells #[.string sk, .string sn, .int .i64 y.tick, .int .u64 (y.bit : Int), .int .i64 y.n] 53) = wa at hba hblk
        have HTa := Lib.hid (HT.out.below hba); have HBa := Lib.hid (HBo.out.trans (hba.mono hszo))
        have hf1 := hblk.lt
        generalize hf : wo.heap.size = f at hblk hf1
        have HK := Lib.hid hblk
        have hna : w.heap.size ≤ wa.heap.size := HBa.out.size
        clear hba hblk hwa hf x0 x1 x2 x3 x4
        go_cut [11, 12, 13, 14] (fun s11 s12 s13 s14 wx => ActInv w.heap.size w q rb wx)
        case first =>
          have c1 : wa.cell? ⟨f, 1, none⟩ = some (.string sn) := HK.out.cell 1
          have c2 : wa.cell? ⟨f, 2, none⟩ = some (.int .i64 y.tick) := HK.out.cell 2
          have c3 : wa.cell? ⟨f, 3, none⟩ = some (.int .u64 (y.bit : Int)) := HK.out.cell 3
          have c4 : wa.cell? ⟨f, 4, none⟩ = some (.int .i64 y.n) := HK.out.cell 4
          by_cases hap : sk = ⟨#[97, 112, 112, 101, 110, 100]⟩
          · subst hap
            have HTd := Lib.hid (HTa.out.below (Below.drew (Below.refl wa.heap.size wa)))
            have HBd := Lib.hid (show Below w.heap.size w wa.drew from HBa.out.drew)
            have Hsa := Lib.hid (HTd.out.same.append HTd.out.hD.ok ⟨y.nm, y.tick, y.bit⟩)
            have Ha1 := Lib.hid (dappend_any ⟨y.nm, y.tick, y.bit⟩ wa.drew (HW.out _ HBd.out) (Nat.le_trans HB.out hna) HTd.out.hD (fun k hk => Nat.le_trans HB.out (HTd.out.lo k hk)) HTd.out.len (by show y.nm.length ≤ 100000; omega) Hy.out.1)
            have Ha2 := Lib.hid (fun W hR => rappend_any rb m ⟨y.nm, y.tick, y.bit⟩ W hR (by rw [← HTd.out.same.b]; exact HTd.out.len) HTd.out.rok (by show y.nm.length ≤ 100000; omega) Hy.out.1)
            have HKc := Lib.hid (fun W (hb : Blk W f 53 #[.string ⟨#[97, 112, 112, 101, 110, 100]⟩, .string sn, .int .i64 y.tick, .int .u64 (y.bit : Int), .int .i64 y.n]) => show W.cell? ⟨f, 1, none⟩ = some (.string sn) ∧ W.cell? ⟨f, 2, none⟩ = some (.int .i64 y.tick) ∧ W.cell? ⟨f, 3, none⟩ = some (.int .u64 (y.bit : Int)) from ⟨hb.cell 1, hb.cell 2, hb.cell 3⟩)
            have HKd := Lib.hid (show Blk wa.drew f 53 #[.string ⟨#[97, 112, 112, 101, 110, 100]⟩, .string sn, .int .i64 y.tick, .int .u64 (y.bit : Int), .int .i64 y.n] from HK.out)
            dsimp only at Ha1 Ha2
            rw [Hsn.out] at Ha1 Ha2
            have Hfl := Lib.hid (fun v c w5 (hv : EV es wa.drew.heap.size w5 v c) (hq : Below w.heap.size w w5) => faulted2_any (es := es) v ((c : Nat × Int).1 : Int) c.2 (c.1 : Int) c.2 w5 (HS.out _ hq) (Nat.le_trans HB.out hq.size) (hv.is (HS.out _ hq)) rfl (.inr rfl))
            have Hstep := Lib.hid (fun (W1 W2 : World) (v' : Value) (h1 : DStep wa.drew W1 q v1 v' (apD d ⟨y.nm, y.tick, y.bit⟩)) (h2 : RStep W1 W2 rb (rapD m ⟨y.nm, y.tick, y.bit⟩)) => HTd.out.step hna h1 h2 Hsa.out.2 (apD_len HTd.out.len _) (rapD_cutOk HTd.out.rok _))
            have Hcc := Lib.hid Hsa.out.1
            unfold APost at Ha1
            unfold RAP at Ha2
            rw [← Hcc.out] at Ha2
            generalize apF d ⟨y.nm, y.tick, y.bit⟩ = cc at Ha1 Ha2
            clear c1 c2 c3 c4
            go_upto_region 20 with fail
            go_region_held3 (fun w' => w'.cell? ⟨f, 1, none⟩ = some (.string sn) ∧ w'.cell? ⟨f, 2, none⟩ = some (.int .i64 y.tick) ∧ w'.cell? ⟨f, 3, none⟩ = some (.int .u64 (y.bit : Int)))
              (first | with_reducible exact HKc.out _ HKd.out | with_reducible exact HKc.out _ K4.out | with_reducible exact HKc.out _ K5.out | with_reducible exact HKc.out _ K6.out)
              (first
                | (go_at_call 19; refine Ha1.out.mono ?_; rintro e w4 ⟨v4, rfl, hev, v', hst⟩; have HE4 := Lib.hid hev; have HS4 := Lib.hid hst; have HR4 := Lib.hid (HTd.out.mid hst); have K4 := Lib.hid (hst.blk HTd.out.hD HKd.out (by decide) (by decide)); clear hev hst)
                | (go_at_call 20; refine (Ha2.out _ HR4.out).mono ?_; rintro e w5 ⟨rfl, hrs⟩; have K5 := Lib.hid (hrs.fr.blk K4.out (fun e => Blk.ne_ K4.out HR4.out (by decide) e)); have HE5 := Lib.hid (HE4.out.fr hrs.fr (fun k hk => by rw [hk]; exact Blk.lt HTd.out.hR)); have HQ5 := Lib.hid (Hstep.out _ _ _ HS4.out hrs); clear hrs)
                | (go_at_call 18; refine (Hfl.out _ _ _ HE5.out (HBd.out.trans HQ5.out.2)).mono ?_; rintro e w6 ⟨rfl, hb⟩; have HQ6 := Lib.hid (HQ5.out.1.below hb); have HB6 := Lib.hid (Below.call (HBd.out.trans HQ5.out.2) hb (HBd.out.trans HQ5.out.2).size); have K6 := Lib.hid (K5.out.below hb K5.out.lt); clear hb))
            all_goals
              go_wp2
              go_meet
              exact ActInv.mk' HQ6.out HB6.out
          have ka := kd_ne Hkd.out (l := [97, 112, 112, 101, 110, 100]) hap
          by_cases hct : sk = ⟨#[99, 117, 116]⟩
          · subst hct
            have HTd := Lib.hid (HTa.out.below (Below.drew (Below.refl wa.heap.size wa)))
            have HBd := Lib.hid (show Below w.heap.size w wa.drew from HBa.out.drew)
            obtain ⟨code, d', m', hc1, hc2, hc3, hc4, hc5⟩ := both_cut HTd.out (HS.out _ HBd.out) y.n (by have := Hy.out.2.2; omega)
            have Ha1 := Lib.hid hc1; have Ha2 := Lib.hid hc2
            have Hstep := Lib.hid (fun (W1 W2 : World) (v' : Value) (h1 : DStep wa.drew W1 q v1 v' d') (h2 : RStep W1 W2 rb m') => HTd.out.step hna h1 h2 hc3 hc4 hc5)
            have HKc := Lib.hid (fun W (hb : Blk W f 53 #[.string ⟨#[99, 117, 116]⟩, .string sn, .int .i64 y.tick, .int .u64 (y.bit : Int), .int .i64 y.n]) => show W.cell? ⟨f, 4, none⟩ = some (.int .i64 y.n) ∧ W.cell? ⟨f, 1, none⟩ = some (.string sn) from ⟨hb.cell 4, hb.cell 1⟩)
            have HKd := Lib.hid (show Blk wa.drew f 53 #[.string ⟨#[99, 117, 116]⟩, .string sn, .int .i64 y.tick, .int .u64 (y.bit : Int), .int .i64 y.n] from HK.out)
            clear c1 c2 c3 c4 hc1 hc2 hc3 hc4 hc5 hap
            go_upto_region 23 with fail
            go_region_held3 (fun w' => w'.cell? ⟨f, 4, none⟩ = some (.int .i64 y.n) ∧ w'.cell? ⟨f, 1, none⟩ = some (.string sn))
              (first | with_reducible exact HKc.out _ HKd.out | with_reducible exact HKc.out _ K4.out | with_reducible exact HKc.out _ K5.out | with_reducible exact HKc.out _ K6.out)
              (first
                | (go_at_call 22; refine Ha1.out.mono ?_; rintro e w4 ⟨v4, rfl, hev, hst⟩; have HE4 := Lib.hid hev; have HS4 := Lib.hid hst; have HR4 := Lib.hid (HTd.out.mid hst); have K4 := Lib.hid (hst.blk HTd.out.hD HKd.out (by decide) (by decide)); clear hev hst)
                | (go_at_call 23; refine (Ha2.out _ HR4.out).mono ?_; rintro e w5 ⟨rfl, hrs⟩; have K5 := Lib.hid (hrs.fr.blk K4.out (fun e => Blk.ne_ K4.out HR4.out (by decide) e)); have HQ5 := Lib.hid (Hstep.out _ _ _ HS4.out hrs); clear hrs)
                | (go_at_call 21; refine (coded2_eq _ _ _ (HS.out _ (HBd.out.trans HQ5.out.2)) (Nat.le_trans HB.out (HBd.out.trans HQ5.out.2).size) (HE4.out.is (HS.out _ (HBd.out.trans HQ5.out.2)))).mono ?_; rintro e w6 ⟨rfl, hb⟩; have HQ6 := Lib.hid (HQ5.out.1.below hb); have HB6 := Lib.hid (Below.call (HBd.out.trans HQ5.out.2) hb (HBd.out.trans HQ5.out.2).size); have K6 := Lib.hid (K5.out.below hb K5.out.lt); clear hb))
            all_goals
              go_wp2
              go_meet
              exact ActInv.mk' HQ6.out HB6.out
          have kb := kd_ne Hkd.out (l := [99, 117, 116]) hct
          by_cases hon : sk = ⟨#[111, 110]⟩
          · subst hon
            have Hon := Lib.hid (don_any wa HTa.out.hD)
            clear c1 c2 c3 c4 hap hct
            go_wp2_with fail
            refine Hon.out.mono ?_
            rintro e w4 ⟨rfl, hst⟩
            have HR4 := HTa.out.mid hst
            obtain ⟨⟨z0, z1, z2⟩, ⟨t0, t1, t2⟩⟩ := Blk3.cells HR4
            have HQ := Lib.hid (HTa.out.step (W2 := (w4.setCell ⟨rb, 1, none⟩ (.bool false)).setCell ⟨rb, 2, none⟩ (.int .i64 (-1))) (m' := ⟨m.b, false, -1⟩) hna hst ⟨(Blk.set_ HR4 1 (.bool false)).set_ 2 (.int .i64 (-1)), (fr_set w4 rb 1 _).trans (fr_set _ rb 2 _) (fun _ _ h => h)⟩ ⟨HTa.out.same.b, rfl, fun _ => rfl⟩ HTa.out.len ⟨by show (-1 : Int) ≤ -1; decide, by show (-1 : Int) < 9223372036854775808; decide⟩)
            clear hst HR4
            go_wp2
            go_meet
            exact ActInv.mk' HQ.out.1 (HBa.out.trans HQ.out.2)
          have kc := kd_ne Hkd.out (l := [111, 110]) hon
          by_cases hcl : sk = ⟨#[99, 108, 101, 97, 114]⟩
          · subst hcl
            have hso := HTa.out.same.off
            obtain ⟨⟨z0, z1, z2⟩, ⟨t0, t1, t2⟩⟩ := Blk3.cells HTa.out.hR
            cases ho : d.off with
            | true =>
              rw [ho] at hso
              rw [← hso] at z1
              have Hcl := Lib.hid (dclear_off wa HTa.out.hD ho ((HS.out _ HBa.out).var 9 (by decide)))
              clear c1 c2 c3 c4 hap hct hon ho hso
              go_wp2_with fail
              refine Hcl.out.mono ?_
              rintro e w4 ⟨rfl, rfl⟩
              go_wp2_with fail
              refine (coded2_eq _ _ _ (HS.out _ HBa.out) (Nat.le_trans HB.out hna) (ErrIs.sent (HS.out _ HBa.out) (k := 9) (by decide))).mono ?_
              rintro e w5 ⟨rfl, hb⟩
              have HQ := Lib.hid (HTa.out.below hb); have HBq := Lib.hid (Below.call HBa.out hb hna)
              clear hb
              go_wp2
              go_meet
              exact ActInv.mk' HQ.out HBq.out
            | false =>
              rw [ho] at hso
              have Hcl := Lib.hid (dclear_ok wa HTa.out.hD ho)
              have Hct := Lib.hid (HTa.out.same.cut ho)
              have Hso := Lib.hid hso
              clear c1 c2 c3 c4 hap hct hon ho hso z0 z1 z2 t0 t1 t2
              go_wp2_with fail
              refine Hcl.out.mono ?_
              rintro e w4 ⟨rfl, hst⟩
              have HR4 := HTa.out.mid hst
              obtain ⟨⟨z0, z1, z2⟩, ⟨t0, t1, t2⟩⟩ := Blk3.cells HR4
              rw [← Hso.out] at z1
              have HQ := Lib.hid (HTa.out.step (W2 := w4.setCell ⟨rb, 0, none⟩ (.string ⟨#[]⟩)) (m' := ⟨[], false, m.cut⟩) hna hst ⟨by have := Blk.set_ HR4 0 (.string ⟨#[]⟩); rw [← Hso.out] at this; exact this, fr_set w4 rb 0 _⟩ ⟨rfl, rfl, fun _ => Hct.out⟩ (by show (0 : Nat) ≤ 65536; decide) HTa.out.rok)
              clear hst HR4
              go_wp2
              go_meet
              exact ActInv.mk' HQ.out.1 (HBa.out.trans HQ.out.2)
          · have kd := kd_ne Hkd.out (l := [99, 108, 101, 97, 114]) hcl
            have Hrc := Lib.hid (drecover_any wa (HW.out _ HBa.out) (Nat.le_trans HB.out hna) HTa.out.hD (fun k hk => Nat.le_trans HB.out (HTa.out.lo k hk)) HTa.out.len)
            clear c1 c2 c3 c4 hap hct hon hcl
            go_wp2_with fail
            refine Hrc.out.mono ?_
            rintro e w4 ⟨l4, k4, u4, v4, rfl, hir, hown4, hst⟩
            have HR4 := Lib.hid (HTa.out.mid hst)
            have HI := Lib.hid hir; have HS4 := Lib.hid hst
            have HO4 := Lib.hid (own_base hown4 (Nat.zero_le _))
            obtain ⟨A4, cc4, rfl, _, _, _⟩ := own_form hown4
            have Hrr := Lib.hid (rrecover_any rb m w4 HR4.out (by rw [← HTa.out.same.b]; exact HTa.out.len))
            clear hir hown4 hst
            go_wp2_with fail
            refine Hrr.out.mono ?_
            rintro e w5 ⟨l5, k5, u5, rfl, hir5, hown5, hrs⟩
            rw [← HTa.out.same.b] at hir5
            obtain ⟨rfl, rfl⟩ := hir5.uniq HI.out
            have HQ := Lib.hid (HTa.out.step hna HS4.out hrs ⟨by show d.b.take k5 = m.b.take k5; rw [HTa.out.same.b], rfl, fun _ => rfl⟩ (by show (d.b.take k5).length ≤ 65536; rw [List.length_take]; have := HTa.out.len; omega) ⟨by show (-1 : Int) ≤ -1; decide, by show (-1 : Int) < 9223372036854775808; decide⟩)
            have hrd4 := Rd.of_own (hrs.fr.own HO4.out (fun k hk e => own_ne_blk HO4.out HR4.out (by decide) (by rw [hk, e])))
            obtain ⟨A5, cc5, rfl, _, _, hrd5⟩ := own_form hown5
            have HRx := Lib.hid hrd4; have HRy := Lib.hid hrd5
            have hl5 : l5.length ≤ 100000 := by
              have h1 : l5.length * 6 ≤ k5 := RdTo.len ⟨hir5.ok, hir5.pre, hir5.le⟩
              have h2 := hir5.le
              have h3 := HTa.out.len
              omega
            obtain ⟨n5, hn5⟩ : ∃ n5, n5 = l5.length := ⟨_, rfl⟩
            rw [← hn5] at HRx HRy hl5 ⊢
            clear hir5 hown5 hrs hrd4 hrd5 hn5
            go_wp2_with fail
            refine (sameEntries_eq A4 n5 cc4 A5 cc5 l5 _ HRx.out HRy.out hl5).mono ?_
            rintro e w6 ⟨rfl, hb⟩
            have HQ6 := Lib.hid (HQ.out.1.below hb); have HB6 := Lib.hid (Below.call (HBa.out.trans HQ.out.2) hb (HBa.out.trans HQ.out.2).size)
            clear hb
            go_wp2
            go_meet
            exact ActInv.mk' HQ6.out HB6.out
        case rest =>
          obtain ⟨⟨v2, d2, m2, hT2⟩, hb2⟩ := hcut
          have HT2 := Lib.hid hT2; have HB2 := Lib.hid hb2
          clear hT2 hb2 HT HK
          rename World => wc
          have hTd := HT2.out.below (Below.drew (Below.refl wc.heap.size wc))
          have hby := dbytes_any wc.drew hTd.hD
          have hpw := dpower_any wc.drew hTd.hD
          rw [HT2.out.same.b] at hby
          rw [HT2.out.same.off] at hpw
          obtain ⟨⟨z0, z1, _⟩, _⟩ := Blk3.cells hTd.hR
          generalize B8 m2.b = sb at hby z0
          generalize m2.off = o2 at hpw z1
          have HKd := Lib.hid (show (fun w' : World => w'.cell? ⟨rb, 0, none⟩ = some (.string sb) ∧ w'.cell? ⟨rb, 1, none⟩ = some (.bool o2)) wc.drew from ⟨z0, z1⟩)
          have Hby := Lib.hid hby; have Hpw := Lib.hid hpw
          clear hTd hby hpw z0 z1
          have HTd := Lib.hid (HT2.out.below (Below.drew (Below.refl wc.heap.size wc)))
          have hno : ((!o2) == o2) = false := by cases o2 <;> rfl
          go_wp2
          go_region_held3 (fun w' => w'.cell? ⟨rb, 0, none⟩ = some (.string sb) ∧ w'.cell? ⟨rb, 1, none⟩ = some (.bool o2))
            (first | with_reducible exact HKd.out)
            (first
              | (go_at_call 29; refine Hby.out.mono ?_; rintro e w4 ⟨rfl, rfl⟩)
              | (go_at_call 30; refine Hpw.out.mono ?_; rintro e w5 ⟨rfl, rfl⟩))
          all_goals
            go_wp2
            go_roundw
            case rel => exact ⟨j + 1, by omega, by go_num, ActInv.mk' HTd.out HB2.out.drew⟩
            case measure => simp [intOf]; omega
    · obtain rfl : j = n := by omega
      obtain ⟨⟨z0, _, _⟩, _⟩ := Blk3.cells hT.hR
      have hlm : m.b.length ≤ 65536 := by rw [← hT.same.b]; exact hT.len
      have Hr1 := Lib.hid (wread_any m.b (by omega) wo (HW.out _ hb) (Nat.le_trans HB.out hszo))
      have Hr2 := Lib.hid (fun W => rreadlog_any m.b (by omega) W)
      have Hbl := Lib.hid hlm
      have HKr := Lib.hid (fun W (hb : Below wo.heap.size wo W) => show W.cell? ⟨rb, 0, none⟩ = some (.string (B8 m.b)) from (Blk3.cells (HT.out.below hb).hR).1.1)
      generalize B8 m.b = sb at z0 Hr1 Hr2 HKr
      clear hT hb hlm
      go_wp2_with fail
      refine Hr1.out.mono ?_
      rintro e w4 ⟨l4, k4, u4, rfl, hir, hown, hb⟩
      have HI := Lib.hid hir
      have HB4 := Lib.hid hb
      have HO := Lib.hid hown
      obtain ⟨A4, c4, rfl, _, _, hr4⟩ := own_form hown
      have HR4 := Lib.hid hr4
      have z0 := HKr.out w4 hb
      clear hir hb hown hr4
      go_wp2_with fail
      refine (Hr2.out _).mono ?_
      rintro e w5 ⟨l5, k5, u5, rfl, hir, hown, hb⟩
      obtain ⟨rfl, rfl⟩ := hir.uniq HI.out
      have HB5 := Lib.hid (Below.call HB4.out hb HB4.out.size)
      have HRx := Lib.hid ((HR4.out.below hb).more hb.size)
      obtain ⟨A5, c5, rfl, _, _, hr5⟩ := own_form hown
      have HRy := Lib.hid hr5
      have hl5 : l5.length ≤ 100000 := by
        have h1 : l5.length * 6 ≤ k5 := RdTo.len ⟨hir.ok, hir.pre, hir.le⟩
        have h2 := hir.le
        have := Hbl.out
        omega
      obtain ⟨n5, hn5⟩ : ∃ n5, n5 = l5.length := ⟨_, rfl⟩
      rw [← hn5] at HRx HRy hl5 ⊢
      clear hir hown hb hr5 hn5
      go_wp2_with fail
      refine (sameEntries_eq A4 n5 c4 A5 c5 l5 _ HRx.out HRy.out hl5).mono ?_
      rintro e w6 ⟨rfl, hb⟩
      have HB6 := Lib.hid (Below.call (HBo.out.trans (HB5.out.mono hszo)) hb (HBo.out.trans (HB5.out.mono hszo)).size)
      clear hb
      go_wp2
      go_ret
      exact ⟨rfl, HB6.out⟩
end Go.Proofs.YtfkklcmepcocoaaGreatDoor
