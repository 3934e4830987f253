/- Pieces of bits: plain facts. -/
import Derived.Test.YtiohnehccmbplaaDoorBits
import Derived.Test.YtiohnehccmbplaaDoorBase
import Derived.Deep.RegionHeld3
namespace Go.Proofs.YtiohnehccmbplaaDoor
open Go.RowKit
set_option linter.unusedVariables false

abbrev pcC (ps : List (Int × Int)) : List Value := ps.flatMap fun p => [.int .u64 p.1, .int .i64 p.2]
/-- The bits of the pieces whose number of bits is one. -/
def okL (ps : List (Int × Int)) : List Bool := ps.flatMap fun p => if 0 ≤ p.2 ∧ p.2 ≤ 64 then bitsN p.1.toNat p.2.toNat else []
theorem okL_len (ps : List (Int × Int)) : (okL ps).length ≤ 64 * ps.length := by
  induction ps with
  | nil => simp [okL]
  | cons p ps ih =>
    have e : okL (p :: ps) = (if 0 ≤ p.2 ∧ p.2 ≤ 64 then bitsN p.1.toNat p.2.toNat else []) ++ okL ps := by simp [okL]
    rw [e, List.length_append, List.length_cons]
    split
    · rw [bitsN_len]; omega
    · simp; omega
theorem okL_bad {ps : List (Int × Int)} {k : Nat} {y : Int × Int} (h : ps[k]? = some y) (hb : ¬ (0 ≤ y.2 ∧ y.2 ≤ 64)) : okL (ps.take (k + 1)) = okL (ps.take k) := by
  rw [take_snoc h]; simp only [okL, List.flatMap_append, List.flatMap_cons, List.flatMap_nil, if_neg hb, List.append_nil]
theorem okL_good {ps : List (Int × Int)} {k : Nat} {y : Int × Int} (h : ps[k]? = some y) (hb : 0 ≤ y.2 ∧ y.2 ≤ 64) : okL (ps.take (k + 1)) = okL (ps.take k) ++ bitsN y.1.toNat y.2.toNat := by
  rw [take_snoc h]; simp only [okL, List.flatMap_append, List.flatMap_cons, List.flatMap_nil, if_pos hb, List.append_nil]
theorem keep2 {B : Nat} {w w' : World} {a1 a2 : Addr} {v1 v2 : Value} (hb : Below B w w') (h1 : a1.block < B) (h2 : a2.block < B) (h : w.cell? a1 = some v1 ∧ w.cell? a2 = some v2) : w'.cell? a1 = some v1 ∧ w'.cell? a2 = some v2 := by
  rw [hb.cell h1, hb.cell h2]; exact h
end Go.Proofs.YtiohnehccmbplaaDoor
