/- strings.Cut at one byte, by its contract. -/
import Derived.Test.YtfkklcmepcocoaaGreatDoorSplit
namespace Go.Proofs.YtfkklcmepcocoaaGreatDoor
open Go.RowKit Go.Shelf
set_option linter.unusedVariables false

def cutG (c : UInt8) : Bs → Option Lb
  | [] => none
  | x :: xs => if x = c then some ([], xs) else (cutG c xs).map fun q => (x :: q.1, q.2)
theorem cutG_some {c : UInt8} : ∀ {p : Bs} {q : Lb}, cutG c p = some q → p = q.1 ++ c :: q.2 ∧ c ∉ q.1
  | [], _, h => by cases h
  | x :: xs, q, h => by
    unfold cutG at h
    split at h
    · rename_i hx
      injection h with h
      subst h; subst hx
      exact ⟨rfl, fun h => by cases h⟩
    · rename_i hx
      cases hc : cutG c xs with
      | none => rw [hc] at h; cases h
      | some r =>
        rw [hc] at h
        injection h with h
        subst h
        obtain ⟨h1, h2⟩ := cutG_some hc
        refine ⟨by rw [List.cons_append, ← h1], fun hm => ?_⟩
        rcases List.mem_cons.1 hm with e | hm
        · exact hx e.symm
        · exact h2 hm
theorem cutG_mk {c : UInt8} : ∀ (a b : Bs), c ∉ a → cutG c (a ++ c :: b) = some (a, b)
  | [], b, _ => by unfold cutG; rw [List.nil_append]; simp
  | x :: a, b, h => by
    have hx : x ≠ c := fun e => h (by rw [e]; exact List.mem_cons_self)
    rw [List.cons_append]
    unfold cutG
    rw [if_neg hx, cutG_mk a b (fun m => h (List.mem_cons_of_mem _ m))]; rfl
theorem indexG_none {c : UInt8} : ∀ {p : Bs}, cutG c p = none → Lib.indexByte p c = -1
  | [], _ => rfl
  | x :: xs, h => by
    unfold cutG at h
    split at h
    · cases h
    · rename_i hx
      have h2 : cutG c xs = none := by
        cases hc : cutG c xs with
        | none => rfl
        | some r => rw [hc] at h; cases h
      unfold Lib.indexByte
      rw [indexG_none h2]
      have : (x == c) = false := by rw [beq_eq_false_iff_ne]; exact hx
      rw [this]; rfl
theorem indexG_some {c : UInt8} : ∀ {p : Bs} {q : Lb}, cutG c p = some q → Lib.indexByte p c = q.1.length
  | [], _, h => by cases h
  | x :: xs, q, h => by
    unfold cutG at h
    split at h
    · rename_i hx
      injection h with h
      subst h; subst hx
      unfold Lib.indexByte
      simp
    · rename_i hx
      cases hc : cutG c xs with
      | none => rw [hc] at h; cases h
      | some r =>
        rw [hc] at h
        injection h with h
        subst h
        unfold Lib.indexByte
        rw [indexG_some hc]
        have h1 : (x == c) = false := by rw [beq_eq_false_iff_ne]; exact hx
        have h2 : (((r.1.length : Nat) : Int) == -1) = false := by rw [beq_eq_false_iff_ne]; omega
        rw [h1, h2]; simp
theorem cutg_none (c : UInt8) (p : Bs) (h : cutG c p = none) (w : World) :
    Calls Tryz.prog 71 #[.string (B8 p), .string ⟨#[c]⟩] w fun e w' => e = .returned (.tuple #[.string (B8 p), .string ⟨#[]⟩, .bool false]) ∧ Below w.heap.size w w' := by
  have Hi := Lib.hid (fun W => Tryz.stringslite_Index_one (B8 p) c W)
  rw [B8_data, indexG_none h] at Hi
  generalize B8 p = st at Hi ⊢
  generalize (⟨#[c]⟩ : ByteArray) = sc at Hi ⊢
  clear h
  go_enter Tryz.func71, Tryz.ntmps71
  go_wp2_with (first | (go_at_call 156; refine (Hi.out _).mono ?_; rintro e w' ⟨rfl, rfl⟩) | go_in)
  go_ret3
  exact ⟨rfl, Below.refl _ _⟩
theorem cutg_in (c : UInt8) (p : Bs) (q : Lb) (h : cutG c p = some q) (hl : p.length ≤ 1000000) (w : World) :
    Calls Tryz.prog 108 #[.string (B8 p), .string ⟨#[c]⟩] w fun e w' => e = .returned (.tuple #[.string (B8 q.1), .string (B8 q.2), .bool true]) ∧ Below w.heap.size w w' := by
  have Hi := Lib.hid (fun W => Tryz.stringslite_Index_one (B8 p) c W)
  rw [B8_data, indexG_some h] at Hi
  have hp := (cutG_some h).1
  have hlen : p.length = q.1.length + (q.2.length + 1) := by rw [hp, List.length_append, List.length_cons]
  have x1 : (B8 p).extract 0 q.1.length = B8 q.1 := by rw [B8_extract, hp, List.drop_zero, List.take_left]
  have x2 : (B8 p).extract (q.1.length + 1) p.length = B8 q.2 := by
    rw [B8_extract, List.take_length, hp]
    congr 1
    rw [show q.1 ++ c :: q.2 = (q.1 ++ [c]) ++ q.2 by simp, show q.1.length + 1 = (q.1 ++ [c]).length by simp, List.drop_left]
  have hsz : (B8 p).size = p.length := B8_size p
  obtain ⟨m, hm⟩ : ∃ m, m = q.1.length := ⟨_, rfl⟩
  obtain ⟨n, hn⟩ : ∃ n, n = p.length := ⟨_, rfl⟩
  rw [← hm] at Hi x1 x2 hlen
  rw [← hn] at x2 hsz hl hlen
  have hmn : m + 1 ≤ n := by omega
  have hmn' : (m : Int) + 1 ≤ n := by omega
  have X1 := Lib.hid x1; have X2 := Lib.hid x2
  have hs1 : (⟨#[c]⟩ : ByteArray).size = 1 := rfl
  generalize B8 p = st at Hi X1 X2 hsz ⊢
  generalize B8 q.1 = s1 at X1 ⊢
  generalize B8 q.2 = s2 at X2 ⊢
  generalize (⟨#[c]⟩ : ByteArray) = sc at Hi hs1 ⊢
  have n1 : IntKind.i64.wrap ((m : Int) + 1) = (m : Int) + 1 := by rw [IntKind.wrap_i64]; omega
  clear h hp x1 x2 hlen hm hn
  go_enter Tryz.func108, Tryz.ntmps108
  go_wp2_with fail
  refine (Hi.out _).mono ?_
  rintro e w' ⟨rfl, rfl⟩
  have E1 := X1.out; have E2 := X2.out
  go_wp2
  go_quiet (fail)
  go_wp2
  go_ret3
  exact ⟨rfl, Below.drewN (Below.refl _ _) _⟩
theorem cutg_some (c : UInt8) (p : Bs) (q : Lb) (h : cutG c p = some q) (hl : p.length ≤ 1000000) (w : World) :
    Calls Tryz.prog 71 #[.string (B8 p), .string ⟨#[c]⟩] w fun e w' => e = .returned (.tuple #[.string (B8 q.1), .string (B8 q.2), .bool true]) ∧ Below w.heap.size w w' := by
  have Hi := Lib.hid (cutg_in c p q h hl w)
  clear h hl
  generalize (⟨#[c]⟩ : ByteArray) = sc at Hi ⊢
  go_enter Tryz.func71, Tryz.ntmps71
  go_wp2_with fail
  refine Hi.out.mono ?_
  rintro e w' ⟨rfl, hb⟩
  have HB := Lib.hid hb; clear hb
  go_wp2
  go_ret3
  exact ⟨rfl, HB.out⟩
/-- The three answers of Cut. -/
def cutA3 (c : UInt8) (p : Bs) : Bs × Bs × Bool := match cutG c p with
  | none => (p, [], false)
  | some q => (q.1, q.2, true)
theorem cutg_any (c : UInt8) (p : Bs) (hl : p.length ≤ 1000000) (w : World) :
    Calls Tryz.prog 71 #[.string (B8 p), .string ⟨#[c]⟩] w fun e w' => e = .returned (.tuple #[.string (B8 (cutA3 c p).1), .string (B8 (cutA3 c p).2.1), .bool (cutA3 c p).2.2]) ∧ Below w.heap.size w w' := by
  unfold cutA3
  cases h : cutG c p with
  | none => exact cutg_none c p h w
  | some q => exact cutg_some c p q h hl w
theorem cutA3_len (c : UInt8) (p : Bs) : (cutA3 c p).1.length ≤ p.length ∧ (cutA3 c p).2.1.length ≤ p.length := by
  unfold cutA3
  cases h : cutG c p with
  | none => exact ⟨Nat.le_refl _, Nat.zero_le _⟩
  | some q =>
    have := (cutG_some h).1
    have e := congrArg List.length this
    rw [List.length_append, List.length_cons] at e
    dsimp only
    omega
theorem cutA3_mk {c : UInt8} {a b : Bs} (h : c ∉ a) : cutA3 c (a ++ c :: b) = (a, b, true) := by
  unfold cutA3
  rw [cutG_mk a b h]
end Go.Proofs.YtfkklcmepcocoaaGreatDoor
