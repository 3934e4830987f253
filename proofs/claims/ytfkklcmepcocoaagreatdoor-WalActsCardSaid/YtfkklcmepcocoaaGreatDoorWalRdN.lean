/- A log's records read one by one, in plain Lean. -/
import Derived.Test.YtfkklcmepcocoaaGreatDoorWalN
namespace Go.Proofs.YtfkklcmepcocoaaGreatDoor
open Go.RowKit
set_option linter.unusedVariables false

theorem rec_pre {e : En} (he : EnOk e) {r : Bs} (h : recL e <+: r) : 2 ≤ r.length ∧ (r.getD 0 0).toNat * 256 + (r.getD 1 0).toNat = (bodyL e).length ∧ (bodyL e).length + 6 ≤ r.length ∧
    (r.drop 2).take (bodyL e).length = bodyL e ∧ r.take ((bodyL e).length + 6) = recL e := by
  obtain ⟨t, ht⟩ := h
  have hl := body_len he
  have hr : (recL e).length = (bodyL e).length + 6 := recB_len _
  have hlen : r.length = (bodyL e).length + 6 + t.length := by rw [← ht, List.length_append, hr]
  refine ⟨by omega, ?_, by omega, ?_, ?_⟩
  · rw [← ht]
    unfold recL recB len2
    simp only [List.cons_append, List.nil_append, List.getD_cons_zero, List.getD_cons_succ]
    rw [UInt8.toNat_ofNat', UInt8.toNat_ofNat']
    omega
  · rw [← ht]
    unfold recL recB len2
    simp only [List.cons_append, List.nil_append, List.drop_succ_cons, List.drop_zero, List.append_assoc]
    rw [List.take_left']
    rfl
  · rw [← ht, ← hr, List.take_left]
/-- So far the log is read. -/
structure RdTo (b : Bs) (l : List En) (k : Nat) : Prop where
  ok : ∀ e ∈ l, EnOk e
  pre : b.take k = l.flatMap recL
  le : k ≤ b.length
theorem RdTo.start (b : Bs) : RdTo b [] 0 := ⟨fun e h => (by cases h), rfl, Nat.zero_le _⟩
theorem RdTo.stop {b : Bs} {l : List En} {k : Nat} (h : RdTo b l k) (hn : ∀ e, EnOk e → ¬ recL e <+: b.drop k) : IsRead b l k := ⟨h.ok, h.pre, h.le, hn⟩
theorem RdTo.step {b : Bs} {l : List En} {k n : Nat} (h : RdTo b l k) {e : En} (he : EnOk e) (hn : k + n ≤ b.length) (hr : (b.drop k).take n = recL e) : RdTo b (l ++ [e]) (k + n) := by
  refine ⟨fun x hx => ?_, ?_, hn⟩
  · rcases List.mem_append.1 hx with hx | hx
    · exact h.ok x hx
    · rw [List.mem_singleton.1 hx]; exact he
  · rw [List.flatMap_append, ← h.pre, List.flatMap_singleton, ← hr, List.take_add]
theorem RdTo.len {b : Bs} {l : List En} {k : Nat} (h : RdTo b l k) : l.length * 6 ≤ k := by
  have h1 : (l.flatMap recL).length = k := by rw [← h.pre, List.length_take]; exact Nat.min_eq_left h.le
  rw [← h1]
  clear h h1
  induction l with
  | nil => simp
  | cons e l ih =>
    rw [List.flatMap_cons, List.length_append, List.length_cons]
    have : (recL e).length = (bodyL e).length + 6 := recB_len _
    omega
/-- The number that two bytes tell. -/
def num2 (r : Bs) : Nat := (r.getD 0 0).toNat * 256 + (r.getD 1 0).toNat
theorem stop_short {r : Bs} (h : r.length < 2) : ∀ e, EnOk e → ¬ recL e <+: r := fun e he hp => by have := (rec_pre he hp).1; omega
theorem stop_long {r : Bs} (h : r.length < num2 r + 6) : ∀ e, EnOk e → ¬ recL e <+: r := fun e he hp => by
  obtain ⟨_, h2, h3, _⟩ := rec_pre he hp
  unfold num2 at h
  omega
theorem stop_body {r : Bs} (h : ∀ e, EnOk e → bodyL e = (r.drop 2).take (num2 r) → (r.take (num2 r + 6) = recL e → False)) : ∀ e, EnOk e → ¬ recL e <+: r := fun e he hp => by
  obtain ⟨_, h2, _, h4, h5⟩ := rec_pre he hp
  have e2 : num2 r = (bodyL e).length := h2
  exact h e he (by rw [e2, h4]) (by rw [e2, h5])
end Go.Proofs.YtfkklcmepcocoaaGreatDoor
