/- plain.Code and coded by contracts: nil, a sentinel, another error of errors.New's make, a fault that holds one. -/
import Derived.Test.YtfkklcmepcocoaaDoorErrs
namespace Go.Proofs.YtfkklcmepcocoaaDoor
open Go.RowKit
set_option linter.unusedVariables false

def gErr (k : Nat) : Nat := [4, 0, 1, 6, 5, 3999991, 3, 3999992, 3999993, 2, 3999994].getD k 0
section
variable {es : Nat → Addr} {B : Nat} {w w' : World}
end

/-- The variables of the sentinels that chunks' own code names. -/
structure SV (es : Nat → Addr) (B : Nat) (w : World) : Prop where
  var : ∀ k, k ∈ [0, 1, 2, 4, 6, 7, 8] → w.cell? ⟨gErr k, 0, none⟩ = some (sentV (es k))
  glt : ∀ k, k ∈ [0, 1, 2, 4, 6, 7, 8] → gErr k < B
section
variable {es : Nat → Addr} {B : Nat} {w w' : World}
theorem SV.below {C : Nat} (h : SV es B w) (hb : Below C w w') (hC : B ≤ C) : SV es B w' :=
  ⟨fun k hk => (hb.cell (p := ⟨gErr k, 0, none⟩) (Nat.lt_of_lt_of_le (h.glt k hk) hC)).trans (h.var k hk), h.glt⟩
theorem SV.alloc (h : SV es B w) (hB : B ≤ w.heap.size) (o : Obj) : SV es B (w.alloc o) := h.below (Below.alloc (Below.refl w.heap.size w) (Nat.le_refl _) o) hB
theorem sv_lt {k : Nat} (hk : k ∈ [0, 1, 2, 4, 6, 7, 8]) : k < 11 := by simp at hk; omega
end

theorem sent_table {es : Nat → Addr} {k : Nat} (hk : k < 11) :
    (#[sentV (es 0), sentV (es 1), sentV (es 2), sentV (es 3), sentV (es 4), sentV (es 5), sentV (es 6), sentV (es 7), sentV (es 8), sentV (es 9), sentV (es 10)] : Array Value)[k]? = some (sentV (es k)) := by
  match k, hk with
  | 0, _ => rfl
  | 1, _ => rfl
  | 2, _ => rfl
  | 3, _ => rfl
  | 4, _ => rfl
  | 5, _ => rfl
  | 6, _ => rfl
  | 7, _ => rfl
  | 8, _ => rfl
  | 9, _ => rfl
  | 10, _ => rfl

/-- The number of an error of errors.New's make that is the K-th sentinel (11: none of them). -/
def numOf (K : Nat) : Int := if K < 11 then (K : Int) + 1 else -1

/-- The error v has the number n, and the place t (-1: none). -/
def ErrIs (es : Nat → Addr) (w : World) (v : Value) (n t : Int) : Prop :=
  (v = .nilIface ∧ n = 0 ∧ t = -1) ∨
  (∃ a K, v = sentV a ∧ n = numOf K ∧ t = -1 ∧ K ≤ 11 ∧ (∃ c t, w.heap[a.block]? = some (.cells c t (0, 0))) ∧ (∀ j, j < K → j < 11 → a ≠ es j) ∧ (K < 11 → a = es K)) ∨
  (∃ pb a K, v = faultV ⟨pb, 0, none⟩ ∧ n = numOf K ∧ K ≤ 11 ∧ (∃ c t, w.heap[a.block]? = some (.cells c t (0, 0))) ∧ pb < w.heap.size ∧ w.cell? ⟨pb, 0, none⟩ = some (.int .i64 t) ∧ w.cell? ⟨pb, 1, none⟩ = some (sentV a) ∧ (∀ j, j < K → j < 11 → a ≠ es j) ∧ (K < 11 → a = es K))
section
variable {es : Nat → Addr} {B : Nat} {w w' : World} {v : Value} {n t : Int}
theorem ErrIs.nil : ErrIs es w .nilIface 0 (-1) := .inl ⟨rfl, rfl, rfl⟩
theorem ErrIs.below {C : Nat} (h : ErrIs es w v n t) (hb : Below C w w') (hC : w.heap.size ≤ C) : ErrIs es w' v n t := by
  have blk : ∀ a : Addr, (∃ c t, w.heap[a.block]? = some (.cells c t (0, 0))) → ∃ c t, w'.heap[a.block]? = some (.cells c t (0, 0)) := by
    rintro a ⟨c, t, e⟩
    exact ⟨c, t, (hb.block _ (Nat.lt_of_lt_of_le (Array.getElem?_eq_some_iff.1 e).1 hC)).trans e⟩
  rcases h with h | ⟨a, K, h1, h2, h3, h4, h5, h6⟩ | ⟨pb, a, K, h1, h2, h3, h4, h5, h6, h7, h8⟩
  · exact .inl h
  · exact .inr (.inl ⟨a, K, h1, h2, h3, h4, blk a h5, h6⟩)
  · exact .inr (.inr ⟨pb, a, K, h1, h2, h3, blk a h4, Nat.lt_of_lt_of_le h5 hb.size, (hb.cell (p := ⟨pb, 0, none⟩) (Nat.lt_of_lt_of_le h5 hC)).trans h6, (hb.cell (p := ⟨pb, 1, none⟩) (Nat.lt_of_lt_of_le h5 hC)).trans h7, h8⟩)
end

end Go.Proofs.YtfkklcmepcocoaaDoor
