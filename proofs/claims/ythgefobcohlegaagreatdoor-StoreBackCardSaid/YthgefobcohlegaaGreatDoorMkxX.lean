/- Labels and matches: plain; strings.HasPrefix; label.one. -/
import Derived.Test.YthgefobcohlegaaGreatDoorMkgX
import Derived.Test.YthgefobcohlegaaGreatDoorMkeX
import Derived.BigQuiet
import Derived.Test.YthgefobcohlegaaGreatDoorLaysX
import Derived.Test.YthgefobcohlegaaGreatDoorMkfX
import Derived.Test.YthgefobcohlegaaGreatDoorMkjX
import Derived.Deep.DeepCutAuto
import Derived.Deep.Light
namespace Go.Proofs.YthgefobcohlegaaGreatDoor
open Go.RowKit
set_option linter.unusedVariables false

/-- A match: its kind, a name, a value. -/
abbrev Mt := Nat × Bs × Bs
def mtC (ms : List Mt) : List Value := ms.flatMap fun m => [.int .u8 (m.1 : Int), .string (B8 m.2.1), .string (B8 m.2.2)]
def kindOk (k : Nat) : Prop := k = 61 ∨ k = 33 ∨ k = 126
instance (k : Nat) : Decidable (kindOk k) := by unfold kindOk; infer_instance
/-- What is wrong with a match. -/
def mtBad (m : Mt) : Option Nat := if ¬ kindOk m.1 then some 10 else if nameB m.2.1 = true then none else some 3
def frstM (ms : List Mt) : Nat → Nat × Int
  | 0 => (0, -1)
  | k + 1 => if (frstM ms k).1 ≠ 0 then frstM ms k else match mtBad (ms.getD k (0, [], [])) with | some c => (c + 1, (k : Int)) | none => (0, -1)
theorem frstM_stop {ms : List Mt} {k : Nat} (h : (frstM ms k).1 ≠ 0) : ∀ m, k ≤ m → frstM ms m = frstM ms k := by
  intro m hm
  obtain ⟨d, rfl⟩ : ∃ d, m = k + d := ⟨m - k, by omega⟩
  clear hm
  induction d with
  | zero => rfl
  | succ d ih =>
    show (if (frstM ms (k + d)).1 ≠ 0 then frstM ms (k + d) else _) = _
    rw [ih, if_pos h]
theorem frstM_hit {ms : List Mt} {k n c : Nat} {x : Mt} (h : (frstM ms k).1 = 0) (hx : ms[k]? = some x) (hf : mtBad x = some c) (hn : k < n) : frstM ms n = (c + 1, (k : Int)) := by
  have e : ms.getD k (0, [], []) = x := by rw [List.getD_eq_getElem?_getD, hx]; rfl
  have h1 : frstM ms (k + 1) = (c + 1, (k : Int)) := by
    unfold frstM
    rw [if_neg (by rw [h]; exact fun q => q rfl), e, hf]
  rw [frstM_stop (k := k + 1) (by rw [h1]; exact Nat.succ_ne_zero c) n hn, h1]
theorem frstM_next {ms : List Mt} {k : Nat} {x : Mt} (h : (frstM ms k).1 = 0) (hx : ms[k]? = some x) (hf : mtBad x = none) : frstM ms (k + 1) = (0, -1) := by
  have e : ms.getD k (0, [], []) = x := by rw [List.getD_eq_getElem?_getD, hx]; rfl
  unfold frstM
  rw [if_neg (by rw [h]; exact fun q => q rfl), e, hf]
/-- What is wrong with matches: number and place. -/
def mtF (ms : List Mt) : Nat × Int := if 6 < ms.length then (2, -1) else frstM ms ms.length
theorem mtF_ok {ms : List Mt} (h : (mtF ms).1 = 0) : ms.length ≤ 6 ∧ ∀ m ∈ ms, kindOk m.1 := by
  unfold mtF at h
  split at h
  · cases h
  rename_i h6
  refine ⟨by omega, fun m hm => ?_⟩
  obtain ⟨j, hj, rfl⟩ := List.getElem_of_mem hm
  have hx : ms[j]? = some ms[j] := List.getElem?_eq_getElem hj
  have h0 : (frstM ms j).1 = 0 := by
    apply Classical.byContradiction
    intro hne
    rw [frstM_stop hne ms.length (by omega)] at h
    exact hne h
  apply Classical.byContradiction
  intro hk
  have hb : mtBad ms[j] = some 10 := if_pos hk
  rw [frstM_hit h0 hx hb hj] at h
  cases h
/-- The value of a name, the last one. -/
def vOf (l : List Lb) (nm : Bs) : Bs := l.foldl (fun v p => if p.1 = nm then p.2 else v) []
theorem vOf_take {l : List Lb} {k : Nat} {p : Lb} (nm : Bs) (h : l[k]? = some p) : vOf (l.take (k + 1)) nm = if p.1 = nm then p.2 else vOf (l.take k) nm := by
  unfold vOf
  rw [take_snoc h, List.foldl_append]; rfl
def preB (a b : Bs) : Bool := decide (b.length ≤ a.length) && (a.take b.length == b)
/-- Do labels fit a match? -/
def oneB (l : List Lb) (m : Mt) : Bool := if m.1 = 61 then vOf l m.2.1 == m.2.2 else if m.1 = 33 then vOf l m.2.1 != m.2.2 else preB (vOf l m.2.1) m.2.2
def fitB (l : List Lb) (ms : List Mt) : Bool := ms.all (oneB l)
theorem Rd.at3 {w : World} {B n : Nat} {A : Option Addr} {ms : List Mt} (h : Rd w B 3 A n (mtC ms)) {k : Nat} (hk : k < n) :
    ∃ b o m, A = some ⟨b, o, none⟩ ∧ b < B ∧ ms[k]? = some m ∧ w.cell? ⟨b, o + k * 3, none⟩ = some (.int .u8 (m.1 : Int)) ∧ w.cell? ⟨b, o + k * 3 + 1, none⟩ = some (.string (B8 m.2.1)) ∧ w.cell? ⟨b, o + k * 3 + 2, none⟩ = some (.string (B8 m.2.2)) := by
  have hl : ms.length = n := by have := h.1; unfold mtC at this; rw [flat_len _ 3 (fun _ => rfl)] at this; omega
  obtain ⟨b, o, e, hb, hc⟩ := h.2 (by omega)
  have hx : ms[k]? = some ms[k] := List.getElem?_eq_getElem (by omega)
  refine ⟨b, o, ms[k], e, hb, hx, ?_, ?_, ?_⟩
  · exact hc (k * 3 + 0) _ (by unfold mtC; rw [flat_get (fun m : Mt => [Value.int .u8 (m.1 : Int), .string (B8 m.2.1), .string (B8 m.2.2)]) 3 (fun _ => rfl) ms k 0 _ hx (by decide)]; rfl)
  · rw [Nat.add_assoc]; exact hc (k * 3 + 1) _ (by unfold mtC; rw [flat_get (fun m : Mt => [Value.int .u8 (m.1 : Int), .string (B8 m.2.1), .string (B8 m.2.2)]) 3 (fun _ => rfl) ms k 1 _ hx (by decide)]; rfl)
  · rw [Nat.add_assoc]; exact hc (k * 3 + 2) _ (by unfold mtC; rw [flat_get (fun m : Mt => [Value.int .u8 (m.1 : Int), .string (B8 m.2.1), .string (B8 m.2.2)]) 3 (fun _ => rfl) ms k 2 _ hx (by decide)]; rfl)
set_option maxHeartbeats 1000000 in
theorem hasPre_any (a b : Bs) (w : World) : Calls Tryz.prog 82 #[.string (B8 a), .string (B8 b)] w fun e w' => e = .returned (.bool (preB a b)) ∧ w' = w := by
  have s1 := B8_size a; have s2 := B8_size b
  have hex : ((B8 a).extract 0 b.length).toList = a.take b.length := by rw [B8_extract, List.drop_zero, B8_toList]
  have hbl : (B8 b).toList = b := B8_toList b
  have hin : Calls Tryz.prog 113 #[.string (B8 a), .string (B8 b)] w fun e w' => e = .returned (.bool (preB a b)) ∧ w' = w := by
    obtain ⟨v, hv⟩ : ∃ v, v = (a.take b.length == b) := ⟨_, rfl⟩
    have he : (((B8 a).extract 0 b.length).toList == (B8 b).toList) = v := by rw [hex, hbl, hv]
    obtain ⟨n, hn⟩ : ∃ n, n = a.length := ⟨_, rfl⟩
    obtain ⟨m, hm⟩ : ∃ m, m = b.length := ⟨_, rfl⟩
    have Hr := Lib.hid (show preB a b = (decide (m ≤ n) && v) by unfold preB; rw [hn, hm, hv])
    rw [Hr.out]
    rw [← hn] at s1
    rw [← hm] at s2 he
    clear hex hbl hv hn hm Hr
    generalize B8 a = sa at s1 he ⊢
    generalize B8 b = sb at s2 he ⊢
    by_cases hmn : m ≤ n
    · have h1 : (sb.size : Int) ≤ (sa.size : Int) := by omega
      have h2 : (m : Int) ≤ (n : Int) := by omega
      have hd : decide (m ≤ n) = true := decide_eq_true hmn
      rw [hd, Bool.true_and]
      clear hd
      go_enter Tryz.func113, Tryz.ntmps113
      go_wp2
      go_ret
      exact ⟨rfl, rfl⟩
    · have h1 : ¬ (sb.size : Int) ≤ (sa.size : Int) := by omega
      have h2 : ¬ (m : Int) ≤ (n : Int) := by omega
      have hd : decide (m ≤ n) = false := decide_eq_false hmn
      rw [hd, Bool.false_and]
      clear hd he
      go_enter Tryz.func113, Tryz.ntmps113
      go_wp2
      go_ret
      exact ⟨rfl, rfl⟩
  have Hin := Lib.hid hin
  clear s1 s2 hex hbl hin
  generalize preB a b = v at Hin ⊢
  generalize B8 a = sa at Hin ⊢
  generalize B8 b = sb at Hin ⊢
  go_enter Tryz.func82, Tryz.ntmps82
  go_wp2_with fail
  refine Hin.out.mono ?_
  rintro e w2 ⟨rfl, rfl⟩
  go_wp2
  go_ret
  exact ⟨rfl, rfl⟩
end Go.Proofs.YthgefobcohlegaaGreatDoor

namespace Go.Proofs.YthgefobcohlegaaGreatDoor
open Go.RowKit
set_option linter.unusedVariables false

end Go.Proofs.YthgefobcohlegaaGreatDoor

namespace Go.Proofs.YthgefobcohlegaaGreatDoor
open Go.RowKit
set_option linter.unusedVariables false

end Go.Proofs.YthgefobcohlegaaGreatDoor

namespace Go.Proofs.YthgefobcohlegaaGreatDoor
open Go.RowKit
set_option linter.unusedVariables false

abbrev mtV (k : Nat) (nm v : Bs) : Value := .agg #[.int .u8 (k : Int), .string (B8 nm), .string (B8 v)]
set_option maxRecDepth 100000 in
set_option maxHeartbeats 8000000 in
theorem oneM_any (A : Option Addr) (n c : Nat) (l : List Lb) (k : Nat) (nm v : Bs) (w : World) (hA : Rd w w.heap.size 2 A n (lbC l)) (hn : n ≤ 100000) (hk : kindOk k) :
    Calls Tryz.prog 55 #[.slice A n c, mtV k nm v] w fun e w' => e = .returned (.bool (oneB l (k, nm, v))) ∧ Below w.heap.size w w' := by
  have hlen : l.length = n := by have := hA.1; rw [lbC_len] at this; omega
  have HA := Lib.hid (fun W (hb : Below w.heap.size w W) (i : Nat) (hi : i < n) => (hA.below hb).at2 hi)
  have Hlen := Lib.hid hlen
  have HB1 := Lib.hid (Below.alloc (Below.refl w.heap.size w) (Nat.le_refl _) (.cells #[.int .u8 (k : Int), .string (B8 nm), .string (B8 v)] 126))
  have HK1 := Lib.hid (Blk.new w 126 #[.int .u8 (k : Int), .string (B8 nm), .string (B8 v)])
  have hnl : (B8 nm).toList = nm := B8_toList nm
  have hvl : (B8 v).toList = v := B8_toList v
  have Hnl := Lib.hid hnl; have Hvl := Lib.hid hvl; have Hk := Lib.hid hk
  obtain ⟨sn, hsn⟩ : ∃ sn, B8 nm = sn := ⟨_, rfl⟩
  obtain ⟨sv, hsv⟩ : ∃ sv, B8 v = sv := ⟨_, rfl⟩
  rw [hsn] at HB1 HK1 Hnl
  rw [hsv] at HB1 HK1 Hvl
  unfold mtV
  rw [hsn, hsv]
  have Hsv := Lib.hid hsv
  obtain ⟨R, hR⟩ : ∃ R, R = oneB l (k, nm, v) := ⟨_, rfl⟩
  have HR := Lib.hid hR
  rw [← hR]
  clear hA hlen hnl hvl hsn hsv hk hR
  go_enter Tryz.func55, Tryz.ntmps55
  go_wp2
  go_loopw [5, 10] (fun vv iv wr => ∃ j : Nat, j ≤ n ∧ iv = .int .i64 j ∧ vv = .string (B8 (vOf (l.take j) nm)) ∧ Below w.heap.size w wr ∧ Blk wr w.heap.size 126 #[.int .u8 (k : Int), .string sn, .string sv]) (fun _ iv _ => n - (intOf iv).toNat)
  case atStart => exact ⟨0, Nat.zero_le _, rfl, rfl, HB1.out, HK1.out⟩
  case round =>
    rename World => wo
    obtain ⟨j, hj, rfl, rfl, hb, hkb⟩ := hrel
    have HB := Lib.hid hb; have HK := Lib.hid hkb
    have q0 := hkb.cell 0; have q1 := hkb.cell 1; have q2 := hkb.cell 2
    have hlt : w.heap.size < wo.heap.size := hkb.lt
    by_cases hjn : j < n
    · have hjn' : (j : Int) < n := by omega
      obtain ⟨b0, o0, p, hA0, had0, hp, x0, x1⟩ := HA.out _ hb j hjn
      subst hA0
      have Hp := Lib.hid (vOf_take nm hp)
      have hpl : (B8 p.1).toList = p.1 := B8_toList p.1
      have HBn := Lib.hid (Below.alloc hb hb.size (.cells #[.string (B8 p.1), .string (B8 p.2)] 90))
      have HKn := Lib.hid (hkb.alloc (.cells #[.string (B8 p.1), .string (B8 p.2)] 90))
      generalize vOf (l.take j) nm = v0 at Hp ⊢
      by_cases he : p.1 = nm
      · have hq : ((B8 p.1).toList == sn.toList) = true := by rw [hpl, Hnl.out, he]; exact beq_self_eq_true _
        have Hn := Lib.hid (show vOf (l.take (j + 1)) nm = p.2 by rw [Hp.out, if_pos he])
        clear hb hkb hp he hpl
        generalize B8 p.1 = s1 at x0 hq HBn HKn
        go_wp2
        go_roundw
        case rel => exact ⟨j + 1, by omega, by go_num, by rw [Hn.out], HBn.out, HKn.out⟩
        case measure => simp [intOf]; omega
      · have hq : ((B8 p.1).toList == sn.toList) = false := by rw [hpl, Hnl.out, beq_eq_false_iff_ne]; exact he
        have Hn := Lib.hid (show vOf (l.take (j + 1)) nm = v0 by rw [Hp.out, if_neg he])
        clear hb hkb hp he hpl
        generalize B8 p.1 = s1 at x0 hq HBn HKn
        go_wp2
        go_roundw
        case rel => exact ⟨j + 1, by omega, by go_num, by rw [Hn.out], HBn.out, HKn.out⟩
        case measure => simp [intOf]; omega
    · obtain rfl : j = n := by omega
      have hjn' : ¬ (j : Int) < j := by omega
      rw [show l.take j = l from List.take_of_length_le (by rw [Hlen.out]; exact Nat.le_refl _)]
      obtain ⟨x, hx⟩ : ∃ x, x = vOf l nm := ⟨_, rfl⟩
      have Hx := Lib.hid (fun q => show oneB l (q, nm, v) = if q = 61 then x == v else if q = 33 then x != v else preB x v by rw [hx]; rfl)
      rw [← hx]
      have hxl : (B8 x).toList = x := B8_toList x
      obtain ⟨e, he⟩ : ∃ e, e = (x == v) := ⟨_, rfl⟩
      have hq : ((B8 x).toList == sv.toList) = e := by rw [hxl, Hvl.out, he]
      have hqn : ((B8 x).toList != sv.toList) = !e := by rw [bne, hq]
      have Hpre := Lib.hid (fun W => hasPre_any x v W)
      rw [Hsv.out] at Hpre
      clear hb hkb hx hxl
      rcases Hk.out with rfl | rfl | rfl
      · have Hr := Lib.hid (show oneB l (61, nm, v) = e by rw [Hx.out, if_pos rfl, he])
        clear he
        generalize B8 x = sx at hq hqn Hpre ⊢
        go_wp2
        go_ret
        exact ⟨by rw [HR.out, Hr.out] <;> rfl, HB.out⟩
      · have Hr := Lib.hid (show oneB l (33, nm, v) = !e by rw [Hx.out, if_neg (by decide), if_pos rfl, he]; rfl)
        clear he
        generalize B8 x = sx at hq hqn Hpre ⊢
        go_wp2
        go_ret
        exact ⟨by rw [HR.out, Hr.out] <;> rfl, HB.out⟩
      · have Hr := Lib.hid (show oneB l (126, nm, v) = preB x v by rw [Hx.out, if_neg (by decide), if_neg (by decide)])
        have Hr := Lib.hid (HR.out.trans Hr.out)
        generalize preB x v = pb at Hpre Hr
        clear he
        generalize B8 x = sx at hq hqn Hpre ⊢
        go_wp2_with fail
        refine (Hpre.out _).mono ?_
        rintro e' w2 ⟨rfl, rfl⟩
        go_wp2
        go_ret
        exact ⟨by rw [Hr.out] <;> rfl, HB.out⟩
/-- Fits' closure. -/
theorem fitsC_any (A : Option Addr) (n c : Nat) (l : List Lb) (k : Nat) (nm v : Bs) (pl : Nat) (w : World) (hA : Rd w w.heap.size 2 A n (lbC l)) (hn : n ≤ 100000) (hk : kindOk k) (hp : w.cell? ⟨pl, 0, none⟩ = some (.slice A n c)) (hpl : pl < w.heap.size) :
    Calls Tryz.prog 54 #[mtV k nm v, .pointer (some ⟨pl, 0, none⟩)] w fun e w' => e = .returned (.bool (!oneB l (k, nm, v))) ∧ Below w.heap.size w w' := by
  have HB1 := Lib.hid (Below.alloc (Below.refl w.heap.size w) (Nat.le_refl _) (.cells #[.int .u8 (k : Int), .string (B8 nm), .string (B8 v)] 126))
  have Hon := Lib.hid (oneM_any A n c l k nm v (w.alloc (.cells #[.int .u8 (k : Int), .string (B8 nm), .string (B8 v)] 126)) ((hA.below HB1.out).more HB1.out.size) hn hk)
  generalize oneB l (k, nm, v) = r at Hon ⊢
  clear hA hk
  unfold mtV at Hon ⊢
  generalize B8 nm = sn at HB1 Hon ⊢
  generalize B8 v = sv at HB1 Hon ⊢
  go_enter Tryz.func54, Tryz.ntmps54
  go_wp2_with fail
  refine Hon.out.mono ?_
  rintro e w2 ⟨rfl, hb⟩
  have HB2 := Lib.hid (Below.call HB1.out hb HB1.out.size)
  clear hb
  go_wp2
  go_ret
  exact ⟨rfl, HB2.out⟩
/-- The place of the first match that labels do not fit (-1: none). -/
def idxM (l : List Lb) (ms : List Mt) : Int := match ms.findIdx? fun m => !oneB l m with | some k => (k : Int) | none => -1
theorem idxM_some {l : List Lb} {ms : List Mt} {k : Nat} (h : ms.findIdx? (fun m => !oneB l m) = some k) : idxM l ms = k := by unfold idxM; rw [h]
theorem idxM_none {l : List Lb} {ms : List Mt} (h : ms.findIdx? (fun m => !oneB l m) = none) : idxM l ms = -1 := by unfold idxM; rw [h]
theorem fitB_idx (l : List Lb) (ms : List Mt) : fitB l ms = decide (idxM l ms < 0) := by
  unfold fitB
  cases h : ms.findIdx? fun m => !oneB l m with
  | none =>
    rw [idxM_none h, decide_eq_true (by decide), List.all_eq_true]
    rw [List.findIdx?_eq_none_iff] at h
    intro m hm
    have := h m hm
    simpa using this
  | some k =>
    rw [idxM_some h, decide_eq_false (by omega)]
    rw [List.findIdx?_eq_some_iff_getElem] at h
    obtain ⟨hl, hv, _⟩ := h
    apply Bool.eq_false_iff.2
    intro hall
    have := List.all_eq_true.1 hall _ (List.getElem_mem hl)
    rw [this] at hv
    cases hv
set_option maxRecDepth 100000 in
theorem indexM_any (A Am : Option Addr) (n c nm cm : Nat) (l : List Lb) (ms : List Mt) (pl : Nat) (w : World) (hA : Rd w w.heap.size 2 A n (lbC l)) (hn : n ≤ 100000) (hM : Rd w w.heap.size 3 Am nm (mtC ms)) (hnm : nm ≤ 100000) (hk : ∀ m ∈ ms, kindOk m.1) (hp : w.cell? ⟨pl, 0, none⟩ = some (.slice A n c)) (hpl : pl < w.heap.size) :
    Calls Tryz.prog 81 #[.slice Am nm cm, .func (.func 54) #[] #[.pointer (some ⟨pl, 0, none⟩)]] w fun e w' => e = .returned (.int .i64 (idxM l ms)) ∧ Below w.heap.size w w' := by
  have hlen : ms.length = nm := by have := hM.1; unfold mtC at this; rw [flat_len _ 3 (fun _ => rfl)] at this; omega
  have HM := Lib.hid (fun W (hb : Below w.heap.size w W) (i : Nat) (hi : i < nm) => (hM.below hb).at3 hi); have Hlen := Lib.hid hlen
  have HF := Lib.hid (fun W (hb : Below w.heap.size w W) (m : Mt) (hm : m ∈ ms) => fitsC_any A n c l m.1 m.2.1 m.2.2 pl W ((hA.below hb).more hb.size) hn (hk m hm) ((hb.cell (p := ⟨pl, 0, none⟩) hpl).trans hp) (Nat.lt_of_lt_of_le hpl hb.size))
  have hn' : (nm : Int) ≤ 100000 := by omega
  clear hA hlen hM hp hk
  go_enter Tryz.func81, Tryz.ntmps81
  go_wp2
  go_loopw [5, 8] (fun _ iv wr => ∃ k : Nat, k ≤ nm ∧ iv = .int .i64 k ∧ Below w.heap.size w wr ∧ ∀ j (m : Mt), j < k → ms[j]? = some m → oneB l m = true) (fun _ iv _ => nm - (intOf iv).toNat)
  case atStart => exact ⟨0, Nat.zero_le _, rfl, Below.refl _ _, fun j p h => absurd h (Nat.not_lt_zero j)⟩
  case round =>
    obtain ⟨k, hk, rfl, hb, hpre⟩ := hrel
    have Hpre := Lib.hid hpre; have Hb := Lib.hid hb
    have hszr := hb.size
    by_cases hkn : k < nm
    · have hkn' : (k : Int) < nm := by omega
      obtain ⟨b0, o0, m, hA0, had0, hm, x0, x1, x2⟩ := HM.out _ hb k hkn
      subst hA0
      have Hc := Lib.hid (HF.out _ hb m (List.mem_of_getElem? hm))
      have Hm := Lib.hid hm
      unfold mtV at Hc
      clear hb hpre hm
      go_wp2_with fail
      refine Hc.out.mono ?_
      rintro e w1 ⟨rfl, hb1⟩
      have HB1 := Lib.hid (Below.call Hb.out hb1 hszr)
      clear hb1 Hc
      rw [show (m.1, m.2.1, m.2.2) = m from rfl]
      cases ho : oneB l m with
      | true =>
        have Hn := Lib.hid (show ∀ j (p : Mt), j < k + 1 → ms[j]? = some p → oneB l p = true from fun j p hj hp => by
          rcases Nat.lt_or_ge j k with h | h
          · exact Hpre.out j p h hp
          · obtain rfl : j = k := by omega
            rw [Hm.out] at hp
            injection hp with hp
            rw [← hp]; exact ho)
        clear ho
        go_wp2
        go_roundw
        case rel => exact ⟨k + 1, by omega, by go_num, HB1.out, Hn.out⟩
        case measure => simp [intOf]; omega
      | false =>
        have Hi := Lib.hid (show ms.findIdx? (fun m => !oneB l m) = some k from by
          rw [List.findIdx?_eq_some_iff_getElem]
          obtain ⟨hl, hv⟩ := List.getElem?_eq_some_iff.1 Hm.out
          refine ⟨hl, by rw [hv, ho]; rfl, fun j hj => ?_⟩
          have h2 := Hpre.out j _ hj (List.getElem?_eq_getElem (by omega))
          rw [h2]; decide)
        clear ho
        go_wp2
        go_ret
        exact ⟨by rw [idxM_some Hi.out]; rfl, HB1.out⟩
    · obtain rfl : k = nm := by omega
      have Hi := Lib.hid (show ms.findIdx? (fun m => !oneB l m) = none from by
        rw [List.findIdx?_eq_none_iff]
        intro x hx
        obtain ⟨j, hj, rfl⟩ := List.getElem_of_mem hx
        rw [Hpre.out j _ (by rw [← Hlen.out]; exact hj) (List.getElem?_eq_getElem hj)]
        rfl)
      clear hb hpre
      go_wp2
      go_ret
      exact ⟨by rw [idxM_none Hi.out]; rfl, Hb.out⟩
theorem containsM_any (A Am : Option Addr) (n c nm cm : Nat) (l : List Lb) (ms : List Mt) (pl : Nat) (w : World) (hA : Rd w w.heap.size 2 A n (lbC l)) (hn : n ≤ 100000) (hM : Rd w w.heap.size 3 Am nm (mtC ms)) (hnm : nm ≤ 100000) (hk : ∀ m ∈ ms, kindOk m.1) (hp : w.cell? ⟨pl, 0, none⟩ = some (.slice A n c)) (hpl : pl < w.heap.size) :
    Calls Tryz.prog 53 #[.slice Am nm cm, .func (.func 54) #[] #[.pointer (some ⟨pl, 0, none⟩)]] w fun e w' => e = .returned (.bool (!fitB l ms)) ∧ Below w.heap.size w w' := by
  have Hc := Lib.hid (indexM_any A Am n c nm cm l ms pl w hA hn hM hnm hk hp hpl)
  have Hal := Lib.hid (fitB_idx l ms)
  generalize fitB l ms = r at Hal
  generalize idxM l ms = ix at Hc Hal
  clear hA hM hk hp
  by_cases h0 : 0 ≤ ix
  · have Hr := Lib.hid (show r = false by rw [Hal.out]; exact decide_eq_false (by omega))
    have hd : decide (0 ≤ ix) = true := decide_eq_true h0
    rw [Hr.out]
    go_enter Tryz.func53, Tryz.ntmps53
    go_wp2_with fail
    refine Hc.out.mono ?_
    rintro e w1 ⟨rfl, hb⟩
    have HB1 := Lib.hid hb
    clear hb
    go_wp2
    go_ret
    exact ⟨rfl, HB1.out⟩
  · have Hr := Lib.hid (show r = true by rw [Hal.out]; exact decide_eq_true (by omega))
    have hd : decide (0 ≤ ix) = false := decide_eq_false h0
    rw [Hr.out]
    go_enter Tryz.func53, Tryz.ntmps53
    go_wp2_with fail
    refine Hc.out.mono ?_
    rintro e w1 ⟨rfl, hb⟩
    have HB1 := Lib.hid hb
    clear hb
    go_wp2
    go_ret
    exact ⟨rfl, HB1.out⟩
end Go.Proofs.YthgefobcohlegaaGreatDoor

namespace Go.Proofs.YthgefobcohlegaaGreatDoor
open Go.RowKit
set_option linter.unusedVariables false

theorem kind_fin : ∀ k : Fin 256, (Lib.indexByte [61, 33, 126] (k.val).toUInt8 < 0 ↔ ¬ kindOk k.val) := by decide +kernel
theorem kind_idx (k : Nat) (h : k < 256) : (Lib.indexByte (⟨#[61, 33, 126]⟩ : ByteArray).data.toList ((k : Int)).toNat.toUInt8 < 0) ↔ ¬ kindOk k := by
  rw [Int.toNat_natCast]
  exact kind_fin ⟨k, h⟩
/-- What matches ask of the world. -/
structure FtS (es : Nat → Addr) (B : Nat) (w : World) : Prop where
  vl : SVL es B w
  kd : w.cell? ⟨gErr 10, 0, none⟩ = some (sentV (es 10))
  kdlt : gErr 10 < B
theorem FtS.below {es : Nat → Addr} {B C : Nat} {w w' : World} (h : FtS es B w) (hb : Below C w w') (hC : B ≤ C) : FtS es B w' :=
  ⟨h.vl.below hb hC, (hb.cell (p := ⟨gErr 10, 0, none⟩) (Nat.lt_of_lt_of_le h.kdlt hC)).trans h.kd, h.kdlt⟩
theorem Sents.ft {es : Nat → Addr} {B : Nat} {w : World} (h : Sents es B w) : FtS es B w := ⟨h.vl, h.var 10 (by decide), h.glt 10 (by decide)⟩
def MtPost (es : Nat → Addr) (ms : List Mt) (w : World) (e : Ending) (w' : World) : Prop := ∃ v, e = .returned v ∧ EV es w.heap.size w' v (mtF ms) ∧ Below w.heap.size w w'
set_option maxRecDepth 100000 in
set_option maxHeartbeats 8000000 in
theorem matches_any {es : Nat → Addr} {B : Nat} (A : Option Addr) (n c : Nat) (ms : List Mt) (w : World) (hS : FtS es B w) (hB0 : B ≤ w.heap.size) (hM : Rd w w.heap.size 3 A n (mtC ms)) (hk : ∀ m ∈ ms, m.1 < 256) :
    Calls Tryz.prog 52 #[.slice A n c] w fun e w' => MtPost es ms w e w' := by
  have hlen : ms.length = n := by have := hM.1; unfold mtC at this; rw [flat_len _ 3 (fun _ => rfl)] at this; omega
  have HM := Lib.hid (fun W (hb : Below w.heap.size w W) (i : Nat) (hi : i < n) => (hM.below hb).at3 hi)
  have Hg := Lib.hid (fun W (hb : Below w.heap.size w W) => show W.cell? ⟨0, 0, none⟩ = some (sentV (es 1)) ∧ W.cell? ⟨10, 0, none⟩ = some (sentV (es 10)) ∧ W.cell? ⟨6, 0, none⟩ = some (sentV (es 3)) from
    ⟨(hS.below hb hB0).vl.var 1 (by decide), (hS.below hb hB0).kd, (hS.below hb hB0).vl.var 3 (by decide)⟩)
  have Hgl := Lib.hid (show 10 < w.heap.size ∧ 6 < w.heap.size from ⟨Nat.lt_of_lt_of_le hS.kdlt hB0, Nat.lt_of_lt_of_le (hS.vl.glt 3 (by decide)) hB0⟩)
  have Hlen := Lib.hid hlen; have Hk := Lib.hid hk
  obtain ⟨g0, _, _⟩ := Hg.out w (Below.refl _ _)
  clear hM hS hB0 hlen hk
  by_cases h6 : 6 < n
  · have h6' : (6 : Int) < n := by omega
    have Hr := Lib.hid (show mtF ms = (2, -1) by unfold mtF; rw [if_pos (by rw [Hlen.out]; exact h6)])
    go_enter Tryz.func52, Tryz.ntmps52
    go_wp2
    go_ret
    exact ⟨_, rfl, .inr (.inl ⟨1, by decide, Hr.out, rfl⟩), Below.refl _ _⟩
  have h6' : ¬ (6 : Int) < n := by omega
  have Hr := Lib.hid (show mtF ms = frstM ms n by unfold mtF; rw [if_neg (by rw [Hlen.out]; exact h6), Hlen.out])
  clear g0
  go_enter Tryz.func52, Tryz.ntmps52
  go_wp2
  go_loopw [11] (fun iv wr => ∃ k : Nat, k ≤ n ∧ iv = .int .i64 k ∧ frstM ms k = (0, -1) ∧ Below w.heap.size w wr) (fun iv _ => n - (intOf iv).toNat)
  case atStart => exact ⟨0, Nat.zero_le _, rfl, rfl, Below.refl _ _⟩
  case round =>
    rename World => wo
    obtain ⟨k, hk, rfl, hf, hb⟩ := hrel
    have Hf := Lib.hid hf; have HB := Lib.hid hb
    clear hf
    by_cases hkn : k < n
    case neg =>
      obtain rfl : k = n := by omega
      have hkn' : ¬ (k : Int) < k := by omega
      have Hz := Lib.hid (show mtF ms = (0, -1) by rw [Hr.out]; exact Hf.out)
      clear hb
      go_wp2
      go_ret
      exact ⟨_, rfl, .inl ⟨Hz.out, rfl⟩, HB.out⟩
    have hkn' : (k : Int) < n := by omega
    obtain ⟨b0, o0, m, hA0, had0, hm, x0, x1, x2⟩ := HM.out _ hb k hkn
    subst hA0
    have hm256 := Hk.out m (List.mem_of_getElem? hm)
    have Hix := Lib.hid (kind_idx m.1 hm256)
    have Hib := Lib.hid (fun W => Tryz.strings_IndexByte ⟨#[61, 33, 126]⟩ (m.1 : Int) W)
    have HBa := Lib.hid (Below.alloc hb hb.size (.cells #[.int .u8 (m.1 : Int), .string (B8 m.2.1), .string (B8 m.2.2)] 126))
    have HKa := Lib.hid (Blk.new wo 126 #[.int .u8 (m.1 : Int), .string (B8 m.2.1), .string (B8 m.2.2)])
    obtain ⟨_, gk, gn⟩ := Hg.out _ HBa.out
    have Hm := Lib.hid hm
    have Hnm := Lib.hid (fun W => name_any m.2.1 W)
    have hgl1 : 10 < wo.heap.size := Nat.lt_of_lt_of_le Hgl.out.1 hb.size
    have hgl2 : 6 < wo.heap.size := Nat.lt_of_lt_of_le Hgl.out.2 hb.size
    obtain ⟨mk, mn, mv⟩ := m
    dsimp only at x0 x1 x2 Hix Hib HBa HKa Hnm gk gn
    generalize Lib.indexByte (⟨#[61, 33, 126]⟩ : ByteArray).data.toList ((mk : Int)).toNat.toUInt8 = ix at Hix Hib
    generalize hsn : B8 mn = sn at x1 HBa HKa Hnm gk gn
    generalize hsv : B8 mv = sv at x2 HBa HKa gk gn
    clear hb hm hsn hsv hm256
    by_cases hko : kindOk mk
    case neg =>
      have hi0 : ix < 0 := Hix.out.2 hko
      have hd : decide (ix < 0) = true := decide_eq_true hi0
      have Hz := Lib.hid (show mtF ms = (11, (k : Int)) by rw [Hr.out]; exact frstM_hit (by rw [Hf.out]) Hm.out (show mtBad (mk, mn, mv) = some 10 from if_pos hko) hkn)
      clear hko
      go_wp2_with fail
      refine (Hib.out _).mono ?_
      rintro e w2 ⟨rfl, rfl⟩
      have hF := Blk.new (wo.alloc (.cells #[.int .u8 (mk : Int), .string sn, .string sv] 126)) 148 #[.int .i64 (k : Int), sentV (es 10)]
      rw [World.size_alloc] at hF
      have HF := Lib.hid hF
      have Hsz := Lib.hid (show w.heap.size ≤ wo.heap.size + 1 from Nat.le_succ_of_le HB.out.size)
      clear hF
      have HBf := Lib.hid (Below.alloc HBa.out HBa.out.size (.cells #[.int .i64 (k : Int), sentV (es 10)] 148))
      go_wp2
      go_ret
      exact ⟨_, rfl, .inr (.inr ⟨10, _, (k : Int), by decide, Hz.out, rfl, Hsz.out, HF.out.lt, HF.out.cell 0, HF.out.cell 1⟩), HBf.out⟩
    have hi0 : ¬ ix < 0 := fun h => Hix.out.1 h hko
    have hd : decide (ix < 0) = false := decide_eq_false hi0
    have Hbd := Lib.hid (show mtBad (mk, mn, mv) = if nameB mn = true then none else some 3 from if_neg (fun h => h hko))
    clear hko
    go_wp2_with fail
    refine (Hib.out _).mono ?_
    rintro e w2 ⟨rfl, rfl⟩
    go_wp2_with fail
    refine (Hnm.out _).mono ?_
    rintro e w3 ⟨rfl, hb⟩
    have HB3 := Lib.hid (Below.call HBa.out hb HBa.out.size)
    obtain ⟨_, gk3, gn3⟩ := Hg.out _ HB3.out
    cases hnb : nameB mn with
    | false =>
      have Hz := Lib.hid (show mtF ms = (4, (k : Int)) by rw [Hr.out]; exact frstM_hit (by rw [Hf.out]) Hm.out (by rw [Hbd.out, if_neg (by rw [hnb]; decide)]) hkn)
      have HF := Lib.hid (Blk.new w3 148 #[.int .i64 (k : Int), sentV (es 3)])
      have HBf := Lib.hid (Below.alloc HB3.out HB3.out.size (.cells #[.int .i64 (k : Int), sentV (es 3)] 148))
      clear hb hnb gk gn gk3
      go_wp2
      go_ret
      exact ⟨_, rfl, .inr (.inr ⟨3, _, (k : Int), by decide, Hz.out, rfl, HB3.out.size, HF.out.lt, HF.out.cell 0, HF.out.cell 1⟩), HBf.out⟩
    | true =>
      have Hn := Lib.hid (frstM_next (by rw [Hf.out]) Hm.out (by rw [Hbd.out, if_pos hnb]))
      clear hb hnb gk gn gk3 gn3
      go_wp2
      go_roundw
      case rel => exact ⟨k + 1, by omega, by go_num, Hn.out, HB3.out⟩
      case measure => simp [intOf]; omega
def FitPost (es : Nat → Addr) (l : List Lb) (ms : List Mt) (w : World) (e : Ending) (w' : World) : Prop :=
  ∃ b v, e = .returned (.tuple #[.bool b, v]) ∧ EV es w.heap.size w' v (if (lbF l).1 ≠ 0 then lbF l else mtF ms) ∧ (((lbF l).1 ≠ 0 ∨ (mtF ms).1 ≠ 0) → b = false) ∧ ((lbF l).1 = 0 → (mtF ms).1 = 0 → b = fitB l ms) ∧ Below w.heap.size w w'
set_option maxRecDepth 100000 in
theorem lfits_any {es : Nat → Addr} {B : Nat} (A Am : Option Addr) (n c nm cm : Nat) (l : List Lb) (ms : List Mt) (w : World) (hS : FtS es B w) (hB0 : B ≤ w.heap.size) (hA : Rd w w.heap.size 2 A n (lbC l)) (hn : n ≤ 100000) (hM : Rd w w.heap.size 3 Am nm (mtC ms)) (hk : ∀ m ∈ ms, m.1 < 256) :
    Calls Tryz.prog 30 #[.slice A n c, .slice Am nm cm] w fun e w' => FitPost es l ms w e w' := by
  have hlen : ms.length = nm := by have := hM.1; unfold mtC at this; rw [flat_len _ 3 (fun _ => rfl)] at this; omega
  have HB1 := Lib.hid (Below.alloc (Below.refl w.heap.size w) (Nat.le_refl _) (.cells #[.slice A n c] 81))
  have HK1 := Lib.hid (Blk.new w 81 #[.slice A n c])
  have HA := Lib.hid (fun W (hb : Below w.heap.size w W) => (hA.below hb).more hb.size)
  have HM := Lib.hid (fun W (hb : Below w.heap.size w W) => (hM.below hb).more hb.size)
  have HS := Lib.hid (fun W (hb : Below w.heap.size w W) => hS.below hb hB0)
  have HB0 := Lib.hid (fun W (hb : Below w.heap.size w W) => Nat.le_trans hB0 hb.size)
  have Hck := Lib.hid (lcheck_u A n c l _ (HS.out _ HB1.out).vl (HB0.out _ HB1.out) (HA.out _ HB1.out))
  have Hk := Lib.hid hk; have Hlen := Lib.hid hlen
  clear hA hM hS hB0 hk hlen
  have z0 := HK1.out.cell 0
  go_enter Tryz.func30, Tryz.ntmps30
  go_wp2_with fail
  refine Hck.out.mono ?_
  rintro e w2 ⟨v, rfl, hev, hb⟩
  have HB2 := Lib.hid (Below.call HB1.out hb HB1.out.size)
  have HK2 := Lib.hid (HK1.out.below hb HK1.out.lt)
  by_cases h0 : (lbF l).1 = 0
  case neg =>
    obtain ⟨t, p, rfl⟩ := hev.pos h0
    have HE := Lib.hid (show EV es w.heap.size w2 (.iface t p) (if (lbF l).1 ≠ 0 then lbF l else mtF ms) by
      rw [if_pos h0]
      exact hev.base HB1.out.size)
    have H0 := Lib.hid h0
    clear hev hb h0 Hck
    go_wp2
    go_ret2
    exact ⟨_, _, rfl, HE.out, fun _ => rfl, fun h => absurd h H0.out, HB2.out⟩
  obtain rfl := hev.zero h0
  have H0 := Lib.hid h0
  have Hmt := Lib.hid (matches_any Am nm cm ms w2 (HS.out _ HB2.out) (HB0.out _ HB2.out) (HM.out _ HB2.out) Hk.out)
  clear hev hb h0 Hck z0
  go_wp2_with fail
  refine Hmt.out.mono ?_
  rintro e w3 ⟨v, rfl, hev, hb⟩
  have HB3 := Lib.hid (Below.call HB2.out hb HB2.out.size)
  have HK3 := Lib.hid (HK2.out.below hb HK2.out.lt)
  by_cases h1 : (mtF ms).1 = 0
  case neg =>
    obtain ⟨t, p, rfl⟩ := hev.pos h1
    have HE := Lib.hid (show EV es w.heap.size w3 (.iface t p) (if (lbF l).1 ≠ 0 then lbF l else mtF ms) by
      rw [if_neg (by rw [H0.out]; exact fun h => h rfl)]
      exact hev.base HB2.out.size)
    have H1 := Lib.hid h1
    clear hev hb h1 Hmt
    go_wp2
    go_ret2
    exact ⟨_, _, rfl, HE.out, fun _ => rfl, fun _ h => absurd h H1.out, HB3.out⟩
  obtain rfl := hev.zero h1
  have H1 := Lib.hid h1
  obtain ⟨h6, hko⟩ := mtF_ok h1
  have Hcf := Lib.hid (containsM_any A Am n c nm cm l ms w.heap.size w3 (HA.out _ HB3.out) hn (HM.out _ HB3.out) (by rw [← Hlen.out]; omega) hko (HK3.out.cell 0) HK3.out.lt)
  have HE := Lib.hid (show ∀ W, EV es w.heap.size W .nilIface (if (lbF l).1 ≠ 0 then lbF l else mtF ms) from fun W => by
    rw [if_neg (by rw [H0.out]; exact fun h => h rfl)]
    rcases hev with ⟨h, _⟩ | ⟨j, _, _, h⟩ | ⟨j, pb, t, _, _, h, _⟩
    · exact .inl ⟨h, rfl⟩
    · cases h
    · cases h)
  have hbb : (!(!fitB l ms)) = fitB l ms := Bool.not_not _
  clear hev hb h1 h6 hko Hmt
  obtain ⟨r, hr⟩ : ∃ r, r = fitB l ms := ⟨_, rfl⟩
  rw [← hr] at Hcf hbb
  have HR := Lib.hid hr
  clear hr
  go_wp2_with fail
  refine Hcf.out.mono ?_
  rintro e w4 ⟨rfl, hb⟩
  have HB4 := Lib.hid (Below.call HB3.out hb HB3.out.size)
  clear hb Hcf
  go_wp2
  go_ret2
  exact ⟨_, _, rfl, HE.out _, fun h => by rcases h with h | h; exact absurd H0.out h; exact absurd H1.out h, fun _ _ => by first | exact HR.out | exact hbb.trans HR.out, HB4.out⟩
end Go.Proofs.YthgefobcohlegaaGreatDoor
