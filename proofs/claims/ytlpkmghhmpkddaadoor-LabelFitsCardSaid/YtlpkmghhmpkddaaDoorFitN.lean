/- Labels and matches: plain; strings.HasPrefix; label.one. -/
import Derived.Test.YtlpkmghhmpkddaaDoorLabF
import Derived.Test.YtlpkmghhmpkddaaDoorWord
import Derived.BigQuiet
namespace Go.Proofs.YtlpkmghhmpkddaaDoor
open Go.RowKit
set_option linter.unusedVariables false

/-- A match: its kind, a name, a value. -/
abbrev Mt := Nat × Bs × Bs
def mtC (ms : List Mt) : List Value := ms.flatMap fun m => [.int .u8 (m.1 : Int), .string (B8 m.2.1), .string (B8 m.2.2)]
def kindOk (k : Nat) : Prop := k = 61 ∨ k = 33 ∨ k = 126
instance (k : Nat) : Decidable (kindOk k) := by unfold kindOk; infer_instance
/-- What is wrong with a match. -/
def mtBad (m : Mt) : Option Nat := if ¬ kindOk m.1 then some 10 else if nameB m.2.1 = true then none else some 3
def frstM (ms : List Mt) : Nat → Nat × Int
  | 0 => (0, -1)
  | k + 1 => if (frstM ms k).1 ≠ 0 then frstM ms k else match mtBad (ms.getD k (0, [], [])) with | some c => (c + 1, (k : Int)) | none => (0, -1)
theorem frstM_stop {ms : List Mt} {k : Nat} (h : (frstM ms k).1 ≠ 0) : ∀ m, k ≤ m → frstM ms m = frstM ms k := by
  intro m hm
  obtain ⟨d, rfl⟩ : ∃ d, m = k + d := ⟨m - k, by omega⟩
  clear hm
  induction d with
  | zero => rfl
  | succ d ih =>
    show (if (frstM ms (k + d)).1 ≠ 0 then frstM ms (k + d) else _) = _
    rw [ih, if_pos h]
theorem frstM_hit {ms : List Mt} {k n c : Nat} {x : Mt} (h : (frstM ms k).1 = 0) (hx : ms[k]? = some x) (hf : mtBad x = some c) (hn : k < n) : frstM ms n = (c + 1, (k : Int)) := by
  have e : ms.getD k (0, [], []) = x := by rw [List.getD_eq_getElem?_getD, hx]; rfl
  have h1 : frstM ms (k + 1) = (c + 1, (k : Int)) := by
    unfold frstM
    rw [if_neg (by rw [h]; exact fun q => q rfl), e, hf]
  rw [frstM_stop (k := k + 1) (by rw [h1]; exact Nat.succ_ne_zero c) n hn, h1]
theorem frstM_next {ms : List Mt} {k : Nat} {x : Mt} (h : (frstM ms k).1 = 0) (hx : ms[k]? = some x) (hf : mtBad x = none) : frstM ms (k + 1) = (0, -1) := by
  have e : ms.getD k (0, [], []) = x := by rw [List.getD_eq_getElem?_getD, hx]; rfl
  unfold frstM
  rw [if_neg (by rw [h]; exact fun q => q rfl), e, hf]
/-- What is wrong with matches: number and place. -/
def mtF (ms : List Mt) : Nat × Int := if 6 < ms.length then (2, -1) else frstM ms ms.length
theorem mtF_ok {ms : List Mt} (h : (mtF ms).1 = 0) : ms.length ≤ 6 ∧ ∀ m ∈ ms, kindOk m.1 := by
  unfold mtF at h
  split at h
  · cases h
  rename_i h6
  refine ⟨by omega, fun m hm => ?_⟩
  obtain ⟨j, hj, rfl⟩ := List.getElem_of_mem hm
  have hx : ms[j]? = some ms[j] := List.getElem?_eq_getElem hj
  have h0 : (frstM ms j).1 = 0 := by
    apply Classical.byContradiction
    intro hne
    rw [frstM_stop hne ms.length (by omega)] at h
    exact hne h
  apply Classical.byContradiction
  intro hk
  have hb : mtBad ms[j] = some 10 := if_pos hk
  rw [frstM_hit h0 hx hb hj] at h
  cases h
/-- The value of a name, the last one. -/
def vOf (l : List Lb) (nm : Bs) : Bs := l.foldl (fun v p => if p.1 = nm then p.2 else v) []
theorem vOf_take {l : List Lb} {k : Nat} {p : Lb} (nm : Bs) (h : l[k]? = some p) : vOf (l.take (k + 1)) nm = if p.1 = nm then p.2 else vOf (l.take k) nm := by
  unfold vOf
  rw [take_snoc h, List.foldl_append]; rfl
def preB (a b : Bs) : Bool := decide (b.length ≤ a.length) && (a.take b.length == b)
/-- Do labels fit a match? -/
def oneB (l : List Lb) (m : Mt) : Bool := if m.1 = 61 then vOf l m.2.1 == m.2.2 else if m.1 = 33 then vOf l m.2.1 != m.2.2 else preB (vOf l m.2.1) m.2.2
def fitB (l : List Lb) (ms : List Mt) : Bool := ms.all (oneB l)
theorem Rd.at3 {w : World} {B n : Nat} {A : Option Addr} {ms : List Mt} (h : Rd w B 3 A n (mtC ms)) {k : Nat} (hk : k < n) :
    ∃ b o m, A = some ⟨b, o, none⟩ ∧ b < B ∧ ms[k]? = some m ∧ w.cell? ⟨b, o + k * 3, none⟩ = some (.int .u8 (m.1 : Int)) ∧ w.cell? ⟨b, o + k * 3 + 1, none⟩ = some (.string (B8 m.2.1)) ∧ w.cell? ⟨b, o + k * 3 + 2, none⟩ = some (.string (B8 m.2.2)) := by
  have hl : ms.length = n := by have := h.1; unfold mtC at this; rw [flat_len _ 3 (fun _ => rfl)] at this; omega
  obtain ⟨b, o, e, hb, hc⟩ := h.2 (by omega)
  have hx : ms[k]? = some ms[k] := List.getElem?_eq_getElem (by omega)
  refine ⟨b, o, ms[k], e, hb, hx, ?_, ?_, ?_⟩
  · exact hc (k * 3 + 0) _ (by unfold mtC; rw [flat_get (fun m : Mt => [Value.int .u8 (m.1 : Int), .string (B8 m.2.1), .string (B8 m.2.2)]) 3 (fun _ => rfl) ms k 0 _ hx (by decide)]; rfl)
  · rw [Nat.add_assoc]; exact hc (k * 3 + 1) _ (by unfold mtC; rw [flat_get (fun m : Mt => [Value.int .u8 (m.1 : Int), .string (B8 m.2.1), .string (B8 m.2.2)]) 3 (fun _ => rfl) ms k 1 _ hx (by decide)]; rfl)
  · rw [Nat.add_assoc]; exact hc (k * 3 + 2) _ (by unfold mtC; rw [flat_get (fun m : Mt => [Value.int .u8 (m.1 : Int), .string (B8 m.2.1), .string (B8 m.2.2)]) 3 (fun _ => rfl) ms k 2 _ hx (by decide)]; rfl)
set_option maxHeartbeats 1000000 in
theorem hasPre_any (a b : Bs) (w : World) : Calls Tryd.prog 33 #[.string (B8 a), .string (B8 b)] w fun e w' => e = .returned (.bool (preB a b)) ∧ w' = w := by
  have s1 := B8_size a; have s2 := B8_size b
  have hex : ((B8 a).extract 0 b.length).toList = a.take b.length := by rw [B8_extract, List.drop_zero, B8_toList]
  have hbl : (B8 b).toList = b := B8_toList b
  have hin : Calls Tryd.prog 44 #[.string (B8 a), .string (B8 b)] w fun e w' => e = .returned (.bool (preB a b)) ∧ w' = w := by
    obtain ⟨v, hv⟩ : ∃ v, v = (a.take b.length == b) := ⟨_, rfl⟩
    have he : (((B8 a).extract 0 b.length).toList == (B8 b).toList) = v := by rw [hex, hbl, hv]
    obtain ⟨n, hn⟩ : ∃ n, n = a.length := ⟨_, rfl⟩
    obtain ⟨m, hm⟩ : ∃ m, m = b.length := ⟨_, rfl⟩
    have Hr := Lib.hid (show preB a b = (decide (m ≤ n) && v) by unfold preB; rw [hn, hm, hv])
    rw [Hr.out]
    rw [← hn] at s1
    rw [← hm] at s2 he
    clear hex hbl hv hn hm Hr
    generalize B8 a = sa at s1 he ⊢
    generalize B8 b = sb at s2 he ⊢
    by_cases hmn : m ≤ n
    · have h1 : (sb.size : Int) ≤ (sa.size : Int) := by omega
      have h2 : (m : Int) ≤ (n : Int) := by omega
      have hd : decide (m ≤ n) = true := decide_eq_true hmn
      rw [hd, Bool.true_and]
      clear hd
      go_enter Tryd.func44, Tryd.ntmps44
      go_wp2
      go_ret
      exact ⟨rfl, rfl⟩
    · have h1 : ¬ (sb.size : Int) ≤ (sa.size : Int) := by omega
      have h2 : ¬ (m : Int) ≤ (n : Int) := by omega
      have hd : decide (m ≤ n) = false := decide_eq_false hmn
      rw [hd, Bool.false_and]
      clear hd he
      go_enter Tryd.func44, Tryd.ntmps44
      go_wp2
      go_ret
      exact ⟨rfl, rfl⟩
  have Hin := Lib.hid hin
  clear s1 s2 hex hbl hin
  generalize preB a b = v at Hin ⊢
  generalize B8 a = sa at Hin ⊢
  generalize B8 b = sb at Hin ⊢
  go_enter Tryd.func33, Tryd.ntmps33
  go_wp2_with fail
  refine Hin.out.mono ?_
  rintro e w2 ⟨rfl, rfl⟩
  go_wp2
  go_ret
  exact ⟨rfl, rfl⟩
end Go.Proofs.YtlpkmghhmpkddaaDoor
