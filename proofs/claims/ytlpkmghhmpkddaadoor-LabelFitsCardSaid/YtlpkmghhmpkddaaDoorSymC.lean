/- symMerge's calls of rotate and of itself, by contracts. -/
import Derived.Test.YtlpkmghhmpkddaaDoorSym2
namespace Go.Proofs.YtlpkmghhmpkddaaDoor
open Go.RowKit
set_option linter.unusedVariables false

section
variable {w W W' : World} {g pt tb : Nat} {T : List Bs} {F F' : List Nat}
theorem SymW.self (h : SymW w W g pt tb T F) : SymW W W g pt tb T F := ⟨⟨h.s.bk, Fr.refl _ _, h.s.bk.lt⟩, h.t, h.np, h.nb, h.lt⟩
theorem SymW.next (h : SymW w W g pt tb T F) (k : Srt W W' g F') (hp : F'.Perm F) : SymW w W' g pt tb T F' :=
  ⟨h.s.trans k, h.t.fr k.fr (fun e => h.np e.symm) (fun e => h.nb e.symm), h.np, h.nb, fun x hx => h.lt x (hp.mem_iff.1 hx)⟩
end
/-- symMerge's contract at a world. -/
def SymC (g N c pt tb : Nat) (T : List Bs) (a m b : Nat) (P L R S : List Nat) (w : World) : Prop :=
  Calls Tryd.prog 52 #[.slice (some ⟨g, 0, none⟩) N c, .int .i64 (a : Int), .int .i64 (m : Int), .int .i64 (b : Int), cmpV pt] w fun e w' => e = .returned (.tuple #[]) ∧ ∃ M, SymOut (tOf T) L R M ∧ SrtTo w w' g (P ++ M ++ S)
/-- What must hold ahead of it. -/
structure SymH (g N pt tb : Nat) (T : List Bs) (a m b : Nat) (P L R S : List Nat) (w : World) : Prop where
  hW : SymW w w g pt tb T (P ++ L ++ R ++ S)
  hN : (P ++ L ++ R ++ S).length = N
  ha : P.length = a
  hm : a + L.length = m
  hb : m + R.length = b
  hL : 0 < L.length
  hR : 0 < R.length
  hin : SymIn (tOf T) L R
/-- symMerge where a part is one number. -/
theorem sym_small {g N c pt tb a m b : Nat} {T : List Bs} {P L R S : List Nat} {w : World} (h : SymH g N pt tb T a m b P L R S w) (hT : T.length ≤ 100000) (hN2 : N ≤ 100000) (h1 : L.length = 1 ∨ R.length = 1) : SymC g N c pt tb T a m b P L R S w := by
  rcases Nat.decEq L.length 1 with hl | hl
  · have hr : R.length = 1 := h1.resolve_left hl
    obtain ⟨x, rfl⟩ := List.length_eq_one_iff.1 hr
    have e : P ++ L ++ [x] ++ S = P ++ L ++ x :: S := by simp
    have hW := h.hW; have hN := h.hN
    rw [e] at hW hN
    exact sym2_any g N c pt tb a m b T P L S x w hW hT hN hN2 h.ha h.hm h.hb hl h.hin
  · obtain ⟨x, rfl⟩ := List.length_eq_one_iff.1 hl
    have e : P ++ [x] ++ R ++ S = P ++ x :: R ++ S := by simp
    have hW := h.hW; have hN := h.hN
    rw [e] at hW hN
    exact sym1_any g N c pt tb a m b T P R S x w hW hT hN hN2 h.ha h.hm h.hb h.hin
theorem sym_rec {g N c pt tb : Nat} {T : List Bs}
    (step : ∀ (a m b : Nat) (P L R S : List Nat) (w : World), (∀ (a' m' b' : Nat) (P' L' R' S' : List Nat) (w' : World), b' - a' < b - a → SymH g N pt tb T a' m' b' P' L' R' S' w' → SymC g N c pt tb T a' m' b' P' L' R' S' w') → SymH g N pt tb T a m b P L R S w → L.length ≠ 1 → R.length ≠ 1 → SymC g N c pt tb T a m b P L R S w)
    (hT : T.length ≤ 100000) (hN2 : N ≤ 100000) : ∀ (d a m b : Nat) (P L R S : List Nat) (w : World), b - a ≤ d → SymH g N pt tb T a m b P L R S w → SymC g N c pt tb T a m b P L R S w
  | 0, a, m, b, P, L, R, S, w, hd, h => by have := h.hL; have := h.hm; have := h.hb; omega
  | d + 1, a, m, b, P, L, R, S, w, hd, h => by
    by_cases h1 : L.length = 1
    · exact sym_small h hT hN2 (.inl h1)
    by_cases h2 : R.length = 1
    · exact sym_small h hT hN2 (.inr h2)
    exact step a m b P L R S w (fun a' m' b' P' L' R' S' w' hlt hh => sym_rec step hT hN2 d a' m' b' P' L' R' S' w' (by omega) hh) h h1 h2
/-- The numbers behind the rotation, behind the first and behind the second of its own calls. -/
def St1 (w W : World) (g pt tb : Nat) (T : List Bs) (P L R S : List Nat) (s e : Nat) : Prop := SymW w W g pt tb T (P ++ L.take s ++ R.take e ++ (L.drop s ++ R.drop e ++ S))
def St2 (w W : World) (g pt tb : Nat) (T : List Bs) (P L R S : List Nat) (s e : Nat) : Prop := ∃ M1, SymOut (tOf T) (L.take s) (R.take e) M1 ∧ SymW w W g pt tb T (P ++ M1 ++ L.drop s ++ R.drop e ++ S)
def St3 (w W : World) (g : Nat) (T : List Bs) (P L R S : List Nat) (s e : Nat) : Prop := ∃ M1 M2, SymOut (tOf T) (L.take s) (R.take e) M1 ∧ SymOut (tOf T) (L.drop s) (R.drop e) M2 ∧ SrtTo w W g (P ++ (M1 ++ M2) ++ S)
theorem parts_eq (P L R S : List Nat) (s e : Nat) : P ++ L ++ R ++ S = (P ++ L.take s) ++ L.drop s ++ R.take e ++ (R.drop e ++ S) := by
  conv => lhs; rw [← List.take_append_drop s L, ← List.take_append_drop e R]
  simp only [List.append_assoc]
theorem parts_perm (P L R S : List Nat) (s e : Nat) : ((P ++ L.take s) ++ R.take e ++ L.drop s ++ (R.drop e ++ S)).Perm (P ++ L ++ R ++ S) := by
  rw [parts_eq P L R S s e]
  refine List.Perm.append_right _ ?_
  rw [List.append_assoc (P ++ _), List.append_assoc (P ++ _)]
  exact List.Perm.append_left _ List.perm_append_comm
end Go.Proofs.YtlpkmghhmpkddaaDoor
