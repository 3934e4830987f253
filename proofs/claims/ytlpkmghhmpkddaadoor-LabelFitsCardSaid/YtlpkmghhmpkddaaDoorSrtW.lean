/- Numbers in memory that are sorted by texts; how two are held against one another. -/
import Derived.Test.YtlpkmghhmpkddaaDoorSymN
import Derived.Test.YtlpkmghhmpkddaaDoorTx
import Derived.Deep.QuietTactic
import Derived.BigQuiet
namespace Go.Proofs.YtlpkmghhmpkddaaDoor
open Go.RowKit
set_option linter.unusedVariables false

/-- Numbers as cells. -/
def nC (xs : List Nat) : Array Value := (xs.map fun x : Nat => Value.int .i64 (x : Int)).toArray
theorem nC_get (xs : List Nat) (i : Nat) : (nC xs)[i]? = (xs[i]?).map fun x : Nat => Value.int .i64 (x : Int) := by unfold nC; simp
theorem nC_set (xs : List Nat) (i y : Nat) : (nC xs).setIfInBounds i (.int .i64 (y : Int)) = nC (xs.set i y) := by unfold nC; simp
theorem nC_cell {W : World} {g : Nat} {xs : List Nat} (h : Blk W g 3 (nC xs)) {i x : Nat} (hx : xs[i]? = some x) : W.cell? ⟨g, i, none⟩ = some (.int .i64 (x : Int)) := by rw [h.cell i, nC_get, hx]; rfl
theorem nC_put {W : World} {g : Nat} {xs : List Nat} (h : Blk W g 3 (nC xs)) (i y : Nat) : Blk (W.setCell ⟨g, i, none⟩ (.int .i64 (y : Int))) g 3 (nC (xs.set i y)) := by rw [← nC_set]; exact h.set_ i _
/-- The texts by which numbers are sorted: the variable that the comparison holds, and the texts. -/
structure SrtW (W : World) (pt tb : Nat) (T : List Bs) : Prop where
  p : Blk W pt 59 #[.slice (some ⟨tb, 0, none⟩) T.length T.length]
  b : Blk W tb 9 (txC T).toArray
theorem SrtW.fr {S : Nat → Prop} {w w' : World} {pt tb : Nat} {T : List Bs} (h : SrtW w pt tb T) (hf : Fr S w w') (h1 : ¬ S pt) (h2 : ¬ S tb) : SrtW w' pt tb T := ⟨hf.blk h.p h1, hf.blk h.b h2⟩
theorem SrtW.below {w w' : World} {pt tb : Nat} {T : List Bs} (h : SrtW w pt tb T) (hb : Below w.heap.size w w') : SrtW w' pt tb T := ⟨h.p.below hb h.p.lt, h.b.below hb h.b.lt⟩
/-- The text of a number. -/
def tOf (T : List Bs) (i : Nat) : Bs := T.getD i []
theorem isNaN_any (s : Bs) (w : World) : Calls Tryd.prog 37 #[.string (B8 s)] w fun e w' => e = .returned (.bool false) ∧ w = w' := by
  have e1 : ((B8 s).toList == (B8 s).toList) = true := beq_self_eq_true _
  generalize B8 s = st at e1 ⊢
  go_enter Tryd.func37, Tryd.ntmps37
  go_wp2
  go_ret
  exact ⟨rfl, rfl⟩
/-- What the comparison of two texts answers. -/
def cmpZ (a b : Bs) : Int := if a < b then -1 else if b < a then 1 else 0
theorem cmpZ_neg (a b : Bs) : cmpZ a b < 0 ↔ a < b := by
  unfold cmpZ
  split
  · exact ⟨fun _ => by assumption, fun _ => by decide⟩
  · split
    · exact ⟨fun h => absurd h (by decide), fun h => absurd h (by assumption)⟩
    · exact ⟨fun h => absurd h (by decide), fun h => absurd h (by assumption)⟩
theorem compare_any (a b : Bs) (w : World) : Calls Tryd.prog 27 #[.string (B8 a), .string (B8 b)] w fun e w' => e = .returned (.int .i64 (cmpZ a b)) ∧ w' = w := by
  have h1 : Op.bytesLess (B8 a).toList (B8 b).toList = decide (a < b) := by rw [B8_toList, B8_toList, bytesLess_lt]
  have h2 : Op.bytesLess (B8 b).toList (B8 a).toList = decide (b < a) := by rw [B8_toList, B8_toList, bytesLess_lt]
  have Ha := Lib.hid (fun W => isNaN_any a W); have Hb := Lib.hid (fun W => isNaN_any b W)
  have hZ : ∃ x y z : Bool, Op.bytesLess (B8 a).toList (B8 b).toList = x ∧ Op.bytesLess (B8 b).toList (B8 a).toList = y ∧ ((B8 a).toList == (B8 b).toList) = z ∧ ((x = true ∧ cmpZ a b = -1) ∨ (x = false ∧ y = true ∧ z = false ∧ cmpZ a b = 1) ∨ (x = false ∧ y = false ∧ z = true ∧ cmpZ a b = 0)) := by
    refine ⟨_, _, _, h1, h2, rfl, ?_⟩
    rw [B8_toList, B8_toList]
    unfold cmpZ
    rcases lt_or_bs a b with h | h | h
    · exact .inl ⟨decide_eq_true h, if_pos h⟩
    · subst h
      have hn : ¬ a < a := fun k => lt_asymm_bs k k
      exact .inr (.inr ⟨decide_eq_false hn, decide_eq_false hn, beq_self_eq_true _, by rw [if_neg hn, if_neg hn]⟩)
    · have hn : ¬ a < b := fun k => lt_asymm_bs k h
      exact .inr (.inl ⟨decide_eq_false hn, decide_eq_true h, by rw [beq_eq_false_iff_ne]; rintro rfl; exact hn h, by rw [if_neg hn, if_pos h]⟩)
  clear h1 h2
  obtain ⟨x, y, z, h1, h2, h3, hz⟩ := hZ
  generalize B8 a = sa at h1 h2 h3 Ha ⊢
  generalize B8 b = sb at h1 h2 h3 Hb ⊢
  rcases hz with ⟨rfl, hz⟩ | ⟨rfl, rfl, rfl, hz⟩ | ⟨rfl, rfl, rfl, hz⟩
  all_goals
    rw [hz]
    clear hz
    go_enter Tryd.func27, Tryd.ntmps27
    go_wp2_with fail
    refine (Ha.out _).mono ?_
    rintro e w2 ⟨rfl, rfl⟩
    go_wp2_with fail
    refine (Hb.out _).mono ?_
    rintro e w3 ⟨rfl, rfl⟩
    go_wp2
    go_ret
    exact ⟨rfl, rfl⟩
set_option maxRecDepth 100000 in
theorem order1_any {pt tb : Nat} {T : List Bs} (i j : Nat) (hi : i < T.length) (hj : j < T.length) (hT : T.length ≤ 100000) (w : World) (hW : SrtW w pt tb T) :
    Calls Tryd.prog 26 #[.int .i64 (i : Int), .int .i64 (j : Int), .pointer (some ⟨pt, 0, none⟩)] w fun e w' => e = .returned (.int .i64 (cmpZ (tOf T i) (tOf T j))) ∧ ∃ n, w' = w.drewN n := by
  have hti : T[i]? = some (tOf T i) := by unfold tOf; rw [List.getD_eq_getElem?_getD, List.getElem?_eq_getElem hi]; rfl
  have htj : T[j]? = some (tOf T j) := by unfold tOf; rw [List.getD_eq_getElem?_getD, List.getElem?_eq_getElem hj]; rfl
  have hx : w.cell? ⟨tb, i, none⟩ = some (.string (B8 (tOf T i))) := by rw [hW.b.cell i]; unfold txC; simp [hti]
  have hy : w.cell? ⟨tb, j, none⟩ = some (.string (B8 (tOf T j))) := by rw [hW.b.cell j]; unfold txC; simp [htj]
  have hp := hW.p.cell 0
  have Hc := Lib.hid (fun W => compare_any (tOf T i) (tOf T j) W)
  obtain ⟨n, hn⟩ : ∃ n, n = T.length := ⟨_, rfl⟩
  rw [← hn] at hi hj hT
  have hp2 : w.cell? ⟨pt, 0, none⟩ = some (.slice (some ⟨tb, 0, none⟩) n n) := by rw [hn]; exact hp
  generalize B8 (tOf T i) = si at hx Hc
  generalize B8 (tOf T j) = sj at hy Hc
  have hin : (i : Int) < n := by omega
  have hjn : (j : Int) < n := by omega
  clear hti htj hp hn hW
  go_enter Tryd.func26, Tryd.ntmps26
  go_wp2
  go_quiet ((go_at_call 27; exact Calls.quiet_of_same (Hc.out _)))
  go_wp2
  go_ret
  exact ⟨rfl, _, rfl⟩
end Go.Proofs.YtlpkmghhmpkddaaDoor
