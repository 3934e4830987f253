/- label.matches and label.Fits by contracts. -/
import Derived.Test.YtlpkmghhmpkddaaDoorFit1
namespace Go.Proofs.YtlpkmghhmpkddaaDoor
open Go.RowKit
set_option linter.unusedVariables false

theorem kind_fin : ∀ k : Fin 256, (Lib.indexByte [61, 33, 126] (k.val).toUInt8 < 0 ↔ ¬ kindOk k.val) := by decide +kernel
theorem kind_idx (k : Nat) (h : k < 256) : (Lib.indexByte (⟨#[61, 33, 126]⟩ : ByteArray).data.toList ((k : Int)).toNat.toUInt8 < 0) ↔ ¬ kindOk k := by
  rw [Int.toNat_natCast]
  exact kind_fin ⟨k, h⟩
def MtPost (es : Nat → Addr) (ms : List Mt) (w : World) (e : Ending) (w' : World) : Prop := ∃ v, e = .returned v ∧ EV es w.heap.size w' v (mtF ms) ∧ Below w.heap.size w w'
set_option maxRecDepth 100000 in
set_option maxHeartbeats 8000000 in
theorem matches_any {es : Nat → Addr} {B : Nat} (A : Option Addr) (n c : Nat) (ms : List Mt) (w : World) (hS : Sents es B w) (hB0 : B ≤ w.heap.size) (hM : Rd w w.heap.size 3 A n (mtC ms)) (hk : ∀ m ∈ ms, m.1 < 256) :
    Calls Tryd.prog 17 #[.slice A n c] w fun e w' => MtPost es ms w e w' := by
  have hlen : ms.length = n := by have := hM.1; unfold mtC at this; rw [flat_len _ 3 (fun _ => rfl)] at this; omega
  have HM := Lib.hid (fun W (hb : Below w.heap.size w W) (i : Nat) (hi : i < n) => (hM.below hb).at3 hi)
  have Hg := Lib.hid (fun W (hb : Below w.heap.size w W) => show W.cell? ⟨0, 0, none⟩ = some (sentV (es 1)) ∧ W.cell? ⟨4, 0, none⟩ = some (sentV (es 10)) ∧ W.cell? ⟨2, 0, none⟩ = some (sentV (es 3)) from
    ⟨(hS.below hb hB0).var 1 (by decide), (hS.below hb hB0).var 10 (by decide), (hS.below hb hB0).var 3 (by decide)⟩)
  have Hgl := Lib.hid (show 4 < w.heap.size ∧ 2 < w.heap.size from ⟨Nat.lt_of_lt_of_le (hS.glt 10 (by decide)) hB0, Nat.lt_of_lt_of_le (hS.glt 3 (by decide)) hB0⟩)
  have Hlen := Lib.hid hlen; have Hk := Lib.hid hk
  obtain ⟨g0, _, _⟩ := Hg.out w (Below.refl _ _)
  clear hM hS hB0 hlen hk
  by_cases h6 : 6 < n
  · have h6' : (6 : Int) < n := by omega
    have Hr := Lib.hid (show mtF ms = (2, -1) by unfold mtF; rw [if_pos (by rw [Hlen.out]; exact h6)])
    go_enter Tryd.func17, Tryd.ntmps17
    go_wp2
    go_ret
    exact ⟨_, rfl, .inr (.inl ⟨1, by decide, Hr.out, rfl⟩), Below.refl _ _⟩
  have h6' : ¬ (6 : Int) < n := by omega
  have Hr := Lib.hid (show mtF ms = frstM ms n by unfold mtF; rw [if_neg (by rw [Hlen.out]; exact h6), Hlen.out])
  clear g0
  go_enter Tryd.func17, Tryd.ntmps17
  go_wp2
  go_loopw [11] (fun iv wr => ∃ k : Nat, k ≤ n ∧ iv = .int .i64 k ∧ frstM ms k = (0, -1) ∧ Below w.heap.size w wr) (fun iv _ => n - (intOf iv).toNat)
  case atStart => exact ⟨0, Nat.zero_le _, rfl, rfl, Below.refl _ _⟩
  case round =>
    rename World => wo
    obtain ⟨k, hk, rfl, hf, hb⟩ := hrel
    have Hf := Lib.hid hf; have HB := Lib.hid hb
    clear hf
    by_cases hkn : k < n
    case neg =>
      obtain rfl : k = n := by omega
      have hkn' : ¬ (k : Int) < k := by omega
      have Hz := Lib.hid (show mtF ms = (0, -1) by rw [Hr.out]; exact Hf.out)
      clear hb
      go_wp2
      go_ret
      exact ⟨_, rfl, .inl ⟨Hz.out, rfl⟩, HB.out⟩
    have hkn' : (k : Int) < n := by omega
    obtain ⟨b0, o0, m, hA0, had0, hm, x0, x1, x2⟩ := HM.out _ hb k hkn
    subst hA0
    have hm256 := Hk.out m (List.mem_of_getElem? hm)
    have Hix := Lib.hid (kind_idx m.1 hm256)
    have Hib := Lib.hid (fun W => Tryd.strings_IndexByte ⟨#[61, 33, 126]⟩ (m.1 : Int) W)
    have HBa := Lib.hid (Below.alloc hb hb.size (.cells #[.int .u8 (m.1 : Int), .string (B8 m.2.1), .string (B8 m.2.2)] 30))
    have HKa := Lib.hid (Blk.new wo 30 #[.int .u8 (m.1 : Int), .string (B8 m.2.1), .string (B8 m.2.2)])
    obtain ⟨_, gk, gn⟩ := Hg.out _ HBa.out
    have Hm := Lib.hid hm
    have Hnm := Lib.hid (fun W => name_any m.2.1 W)
    have hgl1 : 4 < wo.heap.size := Nat.lt_of_lt_of_le Hgl.out.1 hb.size
    have hgl2 : 2 < wo.heap.size := Nat.lt_of_lt_of_le Hgl.out.2 hb.size
    obtain ⟨mk, mn, mv⟩ := m
    dsimp only at x0 x1 x2 Hix Hib HBa HKa Hnm gk gn
    generalize Lib.indexByte (⟨#[61, 33, 126]⟩ : ByteArray).data.toList ((mk : Int)).toNat.toUInt8 = ix at Hix Hib
    generalize hsn : B8 mn = sn at x1 HBa HKa Hnm gk gn
    generalize hsv : B8 mv = sv at x2 HBa HKa gk gn
    clear hb hm hsn hsv hm256
    by_cases hko : kindOk mk
    case neg =>
      have hi0 : ix < 0 := Hix.out.2 hko
      have hd : decide (ix < 0) = true := decide_eq_true hi0
      have Hz := Lib.hid (show mtF ms = (11, (k : Int)) by rw [Hr.out]; exact frstM_hit (by rw [Hf.out]) Hm.out (show mtBad (mk, mn, mv) = some 10 from if_pos hko) hkn)
      clear hko
      go_wp2_with fail
      refine (Hib.out _).mono ?_
      rintro e w2 ⟨rfl, rfl⟩
      have hF := Blk.new (wo.alloc (.cells #[.int .u8 (mk : Int), .string sn, .string sv] 30)) 63 #[.int .i64 (k : Int), sentV (es 10)]
      rw [World.size_alloc] at hF
      have HF := Lib.hid hF
      have Hsz := Lib.hid (show w.heap.size ≤ wo.heap.size + 1 from Nat.le_succ_of_le HB.out.size)
      clear hF
      have HBf := Lib.hid (Below.alloc HBa.out HBa.out.size (.cells #[.int .i64 (k : Int), sentV (es 10)] 63))
      go_wp2
      go_ret
      exact ⟨_, rfl, .inr (.inr ⟨10, _, (k : Int), by decide, Hz.out, rfl, Hsz.out, HF.out.lt, HF.out.cell 0, HF.out.cell 1⟩), HBf.out⟩
    have hi0 : ¬ ix < 0 := fun h => Hix.out.1 h hko
    have hd : decide (ix < 0) = false := decide_eq_false hi0
    have Hbd := Lib.hid (show mtBad (mk, mn, mv) = if nameB mn = true then none else some 3 from if_neg (fun h => h hko))
    clear hko
    go_wp2_with fail
    refine (Hib.out _).mono ?_
    rintro e w2 ⟨rfl, rfl⟩
    go_wp2_with fail
    refine (Hnm.out _).mono ?_
    rintro e w3 ⟨rfl, hb⟩
    have HB3 := Lib.hid (Below.call HBa.out hb HBa.out.size)
    obtain ⟨_, gk3, gn3⟩ := Hg.out _ HB3.out
    cases hnb : nameB mn with
    | false =>
      have Hz := Lib.hid (show mtF ms = (4, (k : Int)) by rw [Hr.out]; exact frstM_hit (by rw [Hf.out]) Hm.out (by rw [Hbd.out, if_neg (by rw [hnb]; decide)]) hkn)
      have HF := Lib.hid (Blk.new w3 63 #[.int .i64 (k : Int), sentV (es 3)])
      have HBf := Lib.hid (Below.alloc HB3.out HB3.out.size (.cells #[.int .i64 (k : Int), sentV (es 3)] 63))
      clear hb hnb gk gn gk3
      go_wp2
      go_ret
      exact ⟨_, rfl, .inr (.inr ⟨3, _, (k : Int), by decide, Hz.out, rfl, HB3.out.size, HF.out.lt, HF.out.cell 0, HF.out.cell 1⟩), HBf.out⟩
    | true =>
      have Hn := Lib.hid (frstM_next (by rw [Hf.out]) Hm.out (by rw [Hbd.out, if_pos hnb]))
      clear hb hnb gk gn gk3 gn3
      go_wp2
      go_roundw
      case rel => exact ⟨k + 1, by omega, by go_num, Hn.out, HB3.out⟩
      case measure => simp [intOf]; omega
def FitPost (es : Nat → Addr) (l : List Lb) (ms : List Mt) (w : World) (e : Ending) (w' : World) : Prop :=
  ∃ b v, e = .returned (.tuple #[.bool b, v]) ∧ EV es w.heap.size w' v (if (lbF l).1 ≠ 0 then lbF l else mtF ms) ∧ (((lbF l).1 ≠ 0 ∨ (mtF ms).1 ≠ 0) → b = false) ∧ ((lbF l).1 = 0 → (mtF ms).1 = 0 → b = fitB l ms) ∧ Below w.heap.size w w'
set_option maxRecDepth 100000 in
theorem lfits_any {es : Nat → Addr} {B : Nat} (A Am : Option Addr) (n c nm cm : Nat) (l : List Lb) (ms : List Mt) (w : World) (hS : Sents es B w) (hB0 : B ≤ w.heap.size) (hA : Rd w w.heap.size 2 A n (lbC l)) (hn : n ≤ 100000) (hM : Rd w w.heap.size 3 Am nm (mtC ms)) (hk : ∀ m ∈ ms, m.1 < 256) :
    Calls Tryd.prog 6 #[.slice A n c, .slice Am nm cm] w fun e w' => FitPost es l ms w e w' := by
  have hlen : ms.length = nm := by have := hM.1; unfold mtC at this; rw [flat_len _ 3 (fun _ => rfl)] at this; omega
  have HB1 := Lib.hid (Below.alloc (Below.refl w.heap.size w) (Nat.le_refl _) (.cells #[.slice A n c] 22))
  have HK1 := Lib.hid (Blk.new w 22 #[.slice A n c])
  have HA := Lib.hid (fun W (hb : Below w.heap.size w W) => (hA.below hb).more hb.size)
  have HM := Lib.hid (fun W (hb : Below w.heap.size w W) => (hM.below hb).more hb.size)
  have HS := Lib.hid (fun W (hb : Below w.heap.size w W) => hS.below hb hB0)
  have HB0 := Lib.hid (fun W (hb : Below w.heap.size w W) => Nat.le_trans hB0 hb.size)
  have Hck := Lib.hid (lcheck_u A n c l _ (HS.out _ HB1.out).vl (HB0.out _ HB1.out) (HA.out _ HB1.out))
  have Hk := Lib.hid hk; have Hlen := Lib.hid hlen
  clear hA hM hS hB0 hk hlen
  have z0 := HK1.out.cell 0
  go_enter Tryd.func6, Tryd.ntmps6
  go_wp2_with fail
  refine Hck.out.mono ?_
  rintro e w2 ⟨v, rfl, hev, hb⟩
  have HB2 := Lib.hid (Below.call HB1.out hb HB1.out.size)
  have HK2 := Lib.hid (HK1.out.below hb HK1.out.lt)
  by_cases h0 : (lbF l).1 = 0
  case neg =>
    obtain ⟨t, p, rfl⟩ := hev.pos h0
    have HE := Lib.hid (show EV es w.heap.size w2 (.iface t p) (if (lbF l).1 ≠ 0 then lbF l else mtF ms) by
      rw [if_pos h0]
      exact hev.base HB1.out.size)
    have H0 := Lib.hid h0
    clear hev hb h0 Hck
    go_wp2
    go_ret2
    exact ⟨_, _, rfl, HE.out, fun _ => rfl, fun h => absurd h H0.out, HB2.out⟩
  obtain rfl := hev.zero h0
  have H0 := Lib.hid h0
  have Hmt := Lib.hid (matches_any Am nm cm ms w2 (HS.out _ HB2.out) (HB0.out _ HB2.out) (HM.out _ HB2.out) Hk.out)
  clear hev hb h0 Hck z0
  go_wp2_with fail
  refine Hmt.out.mono ?_
  rintro e w3 ⟨v, rfl, hev, hb⟩
  have HB3 := Lib.hid (Below.call HB2.out hb HB2.out.size)
  have HK3 := Lib.hid (HK2.out.below hb HK2.out.lt)
  by_cases h1 : (mtF ms).1 = 0
  case neg =>
    obtain ⟨t, p, rfl⟩ := hev.pos h1
    have HE := Lib.hid (show EV es w.heap.size w3 (.iface t p) (if (lbF l).1 ≠ 0 then lbF l else mtF ms) by
      rw [if_neg (by rw [H0.out]; exact fun h => h rfl)]
      exact hev.base HB2.out.size)
    have H1 := Lib.hid h1
    clear hev hb h1 Hmt
    go_wp2
    go_ret2
    exact ⟨_, _, rfl, HE.out, fun _ => rfl, fun _ h => absurd h H1.out, HB3.out⟩
  obtain rfl := hev.zero h1
  have H1 := Lib.hid h1
  obtain ⟨h6, hko⟩ := mtF_ok h1
  have Hcf := Lib.hid (containsM_any A Am n c nm cm l ms w.heap.size w3 (HA.out _ HB3.out) hn (HM.out _ HB3.out) (by rw [← Hlen.out]; omega) hko (HK3.out.cell 0) HK3.out.lt)
  have HE := Lib.hid (show ∀ W, EV es w.heap.size W .nilIface (if (lbF l).1 ≠ 0 then lbF l else mtF ms) from fun W => by
    rw [if_neg (by rw [H0.out]; exact fun h => h rfl)]
    rcases hev with ⟨h, _⟩ | ⟨j, _, _, h⟩ | ⟨j, pb, t, _, _, h, _⟩
    · exact .inl ⟨h, rfl⟩
    · cases h
    · cases h)
  have hbb : (!(!fitB l ms)) = fitB l ms := Bool.not_not _
  clear hev hb h1 h6 hko Hmt
  obtain ⟨r, hr⟩ : ∃ r, r = fitB l ms := ⟨_, rfl⟩
  rw [← hr] at Hcf hbb
  have HR := Lib.hid hr
  clear hr
  go_wp2_with fail
  refine Hcf.out.mono ?_
  rintro e w4 ⟨rfl, hb⟩
  have HB4 := Lib.hid (Below.call HB3.out hb HB3.out.size)
  clear hb Hcf
  go_wp2
  go_ret2
  exact ⟨_, _, rfl, HE.out _, fun h => by rcases h with h | h; exact absurd H0.out h; exact absurd H1.out h, fun _ _ => by first | exact HR.out | exact hbb.trans HR.out, HB4.out⟩
end Go.Proofs.YtlpkmghhmpkddaaDoor
