/- The reference's head in memory; its find. -/
import Derived.Test.YtfnjgminbjopeaaGreatDoorHeadChkQ
namespace Go.Proofs.YtfnjgminbjopeaaGreatDoor
open Go.RowKit
set_option linter.unusedVariables false

structure RLn where
  nm : Bs
  v : Value
  pts : List (Int × Int)
  last : Int
def rlL (x : RLn) : List Value := [.string (B8 x.nm), x.v, .int .i64 x.last]
def rlC (L : List RLn) : List Value := L.flatMap rlL
def absR (L : List RLn) : List HA := L.map fun x => (x.nm, x.pts, x.last)
structure RefAt (w : World) (G : Nat → Prop) (b : Nat) (lv : Value) (L : List RLn) : Prop where
  hd : Blk w b 29 #[lv]
  rows : w.ownsRow 0 72 3 lv L.length (rlC L)
  pts : ∀ x ∈ L, w.ownsRow 0 32 2 x.v x.pts.length (ptsC x.pts)
  gh : G b
  gl : ∀ k, lv.ownBlock = some k → G k
  gp : ∀ x ∈ L, ∀ k, x.v.ownBlock = some k → G k
theorem absR_len (L : List RLn) : (absR L).length = L.length := by unfold absR; rw [List.length_map]
theorem Rd.at3r {w : World} {B n : Nat} {A : Option Addr} {ys : List RLn} (h : Rd w B 3 A n (rlC ys)) {k : Nat} (hk : k < n) :
    ∃ b o y, A = some ⟨b, o, none⟩ ∧ b < B ∧ ys[k]? = some y ∧ w.cell? ⟨b, o + k * 3, none⟩ = some (.string (B8 y.nm)) ∧ w.cell? ⟨b, o + k * 3 + 1, none⟩ = some y.v ∧ w.cell? ⟨b, o + k * 3 + 2, none⟩ = some (.int .i64 y.last) := by
  obtain ⟨b, o, e, hb, hc⟩ := h.2 (by omega)
  have hl : k < ys.length := by have := h.1; unfold rlC at this; rw [flat_len _ 3 (fun _ => rfl)] at this; omega
  have hy : ys[k]? = some ys[k] := List.getElem?_eq_getElem hl
  refine ⟨b, o, ys[k], e, hb, hy, ?_, ?_, ?_⟩
  · exact hc (k * 3) _ (flat_get rlL 3 (fun _ => rfl) ys k 0 ys[k] hy (by omega))
  · rw [Nat.add_assoc]; exact hc (k * 3 + 1) _ (flat_get rlL 3 (fun _ => rfl) ys k 1 ys[k] hy (by omega))
  · rw [Nat.add_assoc]; exact hc (k * 3 + 2) _ (flat_get rlL 3 (fun _ => rfl) ys k 2 ys[k] hy (by omega))
theorem RefAt.fr {S G : Nat → Prop} {w w' : World} {b : Nat} {lv : Value} {L : List RLn} (h : RefAt w G b lv L) (hf : Fr S w w') (hn : ∀ k, G k → ¬ S k) : RefAt w' G b lv L :=
  ⟨hf.blk h.hd (hn _ h.gh), hf.own h.rows (fun k hk => hn k (h.gl k hk)), fun x hx => hf.own (h.pts x hx) (fun k hk => hn k (h.gp x hx k hk)), h.gh, h.gl, h.gp⟩
theorem RefAt.below {G : Nat → Prop} {w w' : World} {b : Nat} {lv : Value} {L : List RLn} (h : RefAt w G b lv L) (hf : Below w.heap.size w w') : RefAt w' G b lv L :=
  h.fr (Fr.ofBelow hf) (fun _ _ h => h)
theorem RefAt.mono {G G' : Nat → Prop} {w : World} {b : Nat} {lv : Value} {L : List RLn} (h : RefAt w G b lv L) (hG : ∀ k, G k → G' k) : RefAt w G' b lv L :=
  ⟨h.hd, h.rows, h.pts, hG _ h.gh, fun k hk => hG _ (h.gl k hk), fun x hx k hk => hG _ (h.gp x hx k hk)⟩
theorem RefAt.lt {G : Nat → Prop} {w : World} {b : Nat} {lv : Value} {L : List RLn} (h : RefAt w G b lv L) : RefAt w (fun k => G k ∧ k < w.heap.size) b lv L :=
  ⟨h.hd, h.rows, h.pts, ⟨h.gh, h.hd.lt⟩, fun k hk => ⟨h.gl k hk, (own_lt h.rows k hk).2⟩, fun x hx k hk => ⟨h.gp x hx k hk, (own_lt (h.pts x hx) k hk).2⟩⟩

/-- Where a name's line stands (behind the last: nowhere). -/
def rIx (L : List RLn) (s : Bs) : Nat := (L.takeWhile fun x => !(x.nm == s)).length
theorem rIx_le (L : List RLn) (s : Bs) : rIx L s ≤ L.length := by
  unfold rIx
  exact List.Sublist.length_le (List.takeWhile_sublist _)
theorem rIx_cons_eq {x : RLn} {L : List RLn} {s : Bs} (h : x.nm = s) : rIx (x :: L) s = 0 := by
  unfold rIx
  rw [List.takeWhile_cons]; simp [h]
theorem rIx_cons_ne {x : RLn} {L : List RLn} {s : Bs} (h : x.nm ≠ s) : rIx (x :: L) s = rIx L s + 1 := by
  unfold rIx
  rw [List.takeWhile_cons]; simp [h]
theorem rIx_lt {L : List RLn} {s : Bs} {k : Nat} {y : RLn} (hk : k < rIx L s) (hy : L[k]? = some y) : y.nm ≠ s := by
  induction L generalizing k with
  | nil => cases hy
  | cons x L ih =>
    by_cases h : x.nm = s
    · rw [rIx_cons_eq h] at hk; omega
    · rw [rIx_cons_ne h] at hk
      cases k with
      | zero => obtain rfl : x = y := by simpa using hy
                exact h
      | succ k => exact ih (k := k) (by omega) (by simpa using hy)
theorem rIx_at {L : List RLn} {s : Bs} {y : RLn} (hy : L[rIx L s]? = some y) : y.nm = s ∧ hFind (absR L) s = some (y.nm, y.pts, y.last) := by
  induction L with
  | nil => cases hy
  | cons x L ih =>
    unfold hFind absR
    rw [List.map_cons, List.find?_cons]
    by_cases h : x.nm = s
    · rw [rIx_cons_eq h] at hy
      obtain rfl : x = y := by simpa using hy
      simp [h]
    · rw [rIx_cons_ne h] at hy
      have := ih (by simpa using hy)
      have e : (x.nm == s) = false := by simpa using h
      simp only [e]
      exact this
theorem rIx_none {L : List RLn} {s : Bs} (h : ¬ rIx L s < L.length) : hFind (absR L) s = none := by
  induction L with
  | nil => rfl
  | cons x L ih =>
    unfold hFind absR
    rw [List.map_cons, List.find?_cons]
    by_cases e : x.nm = s
    · rw [rIx_cons_eq e] at h; simp at h
    · rw [rIx_cons_ne e] at h
      have e2 : (x.nm == s) = false := by simpa using e
      simp only [e2]
      exact ih (by simp at h; omega)
theorem B8_eqb (a b : Bs) : ((B8 a).toList == (B8 b).toList) = (a == b) := by rw [B8_toList, B8_toList]

set_option maxRecDepth 100000 in
theorem rfind_in {G : Nat → Prop} {b : Nat} {lv : Value} {L : List RLn} (s : Bs) (w : World) (hR : RefAt w G b lv L) (hL : L.length ≤ 1000) (h : rIx L s < L.length) :
    Calls Tryz.prog 23 #[.pointer (some ⟨b, 0, none⟩), .string (B8 s)] w fun e w' => e = .returned (.int .i64 (rIx L s : Nat)) ∧ w = w' := by
  obtain ⟨A, c, rfl, _, _, hrd⟩ := own_form hR.rows
  have z1 : w.cell? ⟨b, 0, none⟩ = some (.slice A L.length c) := hR.hd.cell 0
  have Hrd := Lib.hid hrd
  have Hlt := Lib.hid (fun k y (hk : k < rIx L s) (hy : L[k]? = some y) => rIx_lt hk hy)
  have Hat := Lib.hid (fun y (hy : L[rIx L s]? = some y) => rIx_at hy)
  clear hR hrd
  generalize rIx L s = ix at h Hlt Hat
  generalize hn : L.length = n at h z1 Hrd hL
  have Hn := Lib.hid hn
  clear hn
  go_enter Tryz.func23, Tryz.ntmps23
  go_wp2
  go_loopw [5] (fun iv wr => ∃ i : Nat, i ≤ ix ∧ iv = .int .i64 i ∧ w = wr) (fun iv _ => 1001 - (intOf iv).toNat)
  case atStart => exact ⟨0, Nat.zero_le _, rfl, rfl⟩
  case round =>
    obtain ⟨i, hi, rfl, rfl⟩ := hrel
    have hin : i < n := by omega
    obtain ⟨bl, o, y, hA, _, hy, e0, _⟩ := Hrd.out.at3r hin
    subst hA
    have heq := B8_eqb y.nm s
    by_cases hix : i < ix
    · have hne := Hlt.out i y hix hy
      have e2 : (y.nm == s) = false := by simpa using hne
      rw [e2] at heq
      generalize B8 y.nm = sy at heq e0
      clear hy hne e2
      go_wp2
      go_roundw
      case rel => exact ⟨i + 1, by omega, by go_num, by first | rfl | trivial⟩
      case measure => simp [intOf]; omega
    · obtain rfl : i = ix := by omega
      have e2 : (y.nm == s) = true := by have := (Hat.out y hy).1; simpa using this
      rw [e2] at heq
      generalize B8 y.nm = sy at heq e0
      clear hy e2
      go_wp2
      go_ret
      exact ⟨rfl, by first | rfl | trivial⟩
set_option maxRecDepth 100000 in
theorem rfind_out {G : Nat → Prop} {b : Nat} {lv : Value} {L : List RLn} (s : Bs) (w : World) (hR : RefAt w G b lv L) (hL : L.length ≤ 1000) (h : ¬ rIx L s < L.length) :
    Calls Tryz.prog 23 #[.pointer (some ⟨b, 0, none⟩), .string (B8 s)] w fun e w' => e = .returned (.int .i64 (-1)) ∧ w = w' := by
  obtain ⟨A, c, rfl, _, _, hrd⟩ := own_form hR.rows
  have z1 : w.cell? ⟨b, 0, none⟩ = some (.slice A L.length c) := hR.hd.cell 0
  have Hrd := Lib.hid hrd
  have Hlt := Lib.hid (fun k y (hk : k < L.length) (hy : L[k]? = some y) => rIx_lt (s := s) (by omega) hy)
  clear hR hrd h
  generalize hn : L.length = n at z1 Hrd hL Hlt
  clear hn
  go_enter Tryz.func23, Tryz.ntmps23
  go_wp2
  go_loopw [5] (fun iv wr => ∃ i : Nat, i ≤ n ∧ iv = .int .i64 i ∧ w = wr) (fun iv _ => 1001 - (intOf iv).toNat)
  case atStart => exact ⟨0, Nat.zero_le _, rfl, rfl⟩
  case round =>
    obtain ⟨i, hi, rfl, rfl⟩ := hrel
    by_cases hin : i < n
    · obtain ⟨bl, o, y, hA, _, hy, e0, _⟩ := Hrd.out.at3r hin
      subst hA
      have heq := B8_eqb y.nm s
      have hne := Hlt.out i y hin hy
      have e2 : (y.nm == s) = false := by simpa using hne
      rw [e2] at heq
      generalize B8 y.nm = sy at heq e0
      clear hy hne e2
      go_wp2
      go_roundw
      case rel => exact ⟨i + 1, by omega, by go_num, by first | rfl | trivial⟩
      case measure => simp [intOf]; omega
    · obtain rfl : i = n := by omega
      go_wp2
      go_ret
      exact ⟨rfl, by first | rfl | trivial⟩
end Go.Proofs.YtfnjgminbjopeaaGreatDoor
