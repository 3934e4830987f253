/- chunk.Between, the reference's BetweenOf and OwnPoints by contracts, for up to a hundred thousand points. -/
import Derived.Test.YthgefobcohlegaaGreatDoorChecked
import Derived.Test.YthgefobcohlegaaGreatDoorBaseX
import Derived.Test.YthgefobcohlegaaGreatDoorMkbX
import Derived.Lib.Join
import Derived.Lib.Bytealg
import Derived.Laws.IdiomStrings
import Derived.Laws.DeepStrings4
namespace Go.Proofs.YthgefobcohlegaaGreatDoor
open Go.RowKit
set_option linter.unusedVariables false

abbrev ptsC (ps : List (Int × Int)) : List Value := ps.flatMap fun p => [.int .i64 p.1, .int .u64 p.2]
theorem infoPt : (Tryz.prog.info? 39).map (fun i => (i.zero, i.size, i.bytes)) = some (some (.agg #[.int .i64 0, .int .u64 0]), 2, 16) := by kernel_rfl
theorem ptsC_one (ps : List (Int × Int)) : ∀ u ∈ ptsC ps, u.oneCell' = true := by
  intro u hu
  obtain ⟨p, _, hp⟩ := List.mem_flatMap.1 hu
  simp at hp
  rcases hp with rfl | rfl <;> rfl
/-- One point laid in a block of its own reads as that point. -/
theorem Rd.one2 (w : World) (t : TypeId) (y : Int × Int) : Rd (w.alloc (.cells #[.int .i64 y.1, .int .u64 y.2] t)) (w.alloc (.cells #[.int .i64 y.1, .int .u64 y.2] t)).heap.size 2 (some ⟨w.heap.size, 0, none⟩) 1 (ptsC [y]) :=
  ⟨rfl, fun _ => ⟨_, _, rfl, by simp, fun j v hv => by rw [Nat.zero_add, (Blk.new w _ _).cell]; simpa [ptsC] using hv⟩⟩
def betL (f t : Int) (ps : List (Int × Int)) : List (Int × Int) := ps.filter fun p => decide (f ≤ p.1) && decide (p.1 ≤ t)
theorem betL_in {f t : Int} {ps : List (Int × Int)} {k : Nat} {y : Int × Int} (h : ps[k]? = some y) (h1 : f ≤ y.1) (h2 : y.1 ≤ t) : betL f t (ps.take (k + 1)) = betL f t (ps.take k) ++ [y] := by
  rw [take_snoc h, betL, List.filter_append]; simp [betL, h1, h2]
theorem betL_out {f t : Int} {ps : List (Int × Int)} {k : Nat} {y : Int × Int} (h : ps[k]? = some y) (h1 : ¬ (f ≤ y.1 ∧ y.1 ≤ t)) : betL f t (ps.take (k + 1)) = betL f t (ps.take k) := by
  have h2 : (decide (f ≤ y.1) && decide (y.1 ≤ t)) = false := by
    rw [← Bool.decide_and]; exact decide_eq_false h1
  rw [take_snoc h, betL, List.filter_append]
  simp only [betL, List.filter_cons, h2, List.filter_nil]
  simp
theorem betL_mem {f t : Int} {ps : List (Int × Int)} {p : Int × Int} (h : p ∈ betL f t ps) : p ∈ ps := (List.mem_filter.1 h).1

/-- A round that appends the point y: what it leaves. -/
theorem bet_append {w wr wx wa : World} {v v' : Value} {m : Nat} {l : List (Int × Int)} {y : Int × Int} (hown : wr.ownsRow w.heap.size 39 2 v m (ptsC l)) (hbel : Below w.heap.size w wx) (hx : wr.heap.size ≤ wx.heap.size)
    (hown' : wa.ownsRow w.heap.size 39 2 v' (m + 1) (ptsC l ++ ptsC [y])) (hgr : wx.grownBy wa v.ownBlock) (hw : w.heap.size ≤ wr.heap.size) : wa.ownsRow w.heap.size 39 2 v' (m + 1) (ptsC (l ++ [y])) ∧ Below w.heap.size w wa :=
  ⟨by rw [ptsC, List.flatMap_append]; exact hown', Below.grown hbel hgr (by omega) (fun g hg => (own_lt hown g hg).1)⟩

set_option maxRecDepth 100000 in
set_option maxHeartbeats 4000000 in
theorem between_any (A : Option Addr) (n c : Nat) (ps : List (Int × Int)) (f t : Int) (w : World) (hA : Rd w w.heap.size 2 A n (ptsC ps)) (hn : n ≤ 100000) :
    Calls Tryz.prog 87 #[.slice A n c, .int .i64 f, .int .i64 t] w fun e w' => ∃ v, e = .returned v ∧ w'.ownsRow w.heap.size 39 2 v (betL f t ps).length (ptsC (betL f t ps)) ∧ Below w.heap.size w w' := by
  obtain ⟨i0, hi, hz0, hz1, hz2⟩ := info_parts infoPt
  have hlen : ps.length = n := by have := hA.1; rw [flat_len _ 2 (fun _ => rfl)] at this; omega
  have Hi := Lib.hid hi; have Hz0 := Lib.hid hz0; have Hz1 := Lib.hid hz1; have Hz2 := Lib.hid hz2; have Hlen := Lib.hid hlen
  clear hi hz0 hz1 hz2 hlen
  go_enter Tryz.func87, Tryz.ntmps87
  go_wp2
  go_loopw [7, 12] (fun v i wr => ∃ (k m : Nat) (l : List (Int × Int)), k ≤ n ∧ m ≤ k ∧ i = .int .i64 k ∧ l = betL f t (ps.take k) ∧ m = l.length ∧ wr.ownsRow w.heap.size 39 2 v m (ptsC l) ∧ Below w.heap.size w wr) (fun _ i _ => n - (intOf i).toNat)
  case atStart => exact ⟨0, 0, [], Nat.zero_le _, Nat.zero_le _, rfl, rfl, rfl, World.ownsRow_nil _ _ _ _, Below.refl _ _⟩
  case round =>
    obtain ⟨k, m, l, hk, hmk, rfl, hl, hm, hown, hbel⟩ := hrel
    obtain ⟨va, ca, rfl, hca, _, _⟩ := own_form hown
    have hws : w.heap.size ≤ wr.heap.size := hbel.size
    have Hown := Lib.hid hown; have Hbel := Lib.hid hbel; have Hl := Lib.hid hl; have Hm := Lib.hid hm
    clear hown hbel hl hm
    by_cases hkn : k < n
    · obtain ⟨bb, off, y, rfl, had, hy, e0, e1⟩ := hA.at2 hkn
      have e0' := (Hbel.out.cell (p := ⟨bb, off + k * 2, none⟩) had).trans e0
      have e1' := (Hbel.out.cell (p := ⟨bb, off + k * 2 + 1, none⟩) had).trans e1
      have Hy := Lib.hid hy
      clear e0 e1 hy hA
      have hk63 : m + 1 ≤ maxLen := by unfold maxLen; omega
      have hk8 : (m + 1) * 16 ≤ 140737488355328 := by omega
      have hbx : Below w.heap.size w (wr.alloc (.cells #[.int .i64 y.1, .int .u64 y.2] 39)) := Below.alloc Hbel.out hws _
      have hby : Below w.heap.size w ((wr.alloc (.cells #[.int .i64 y.1, .int .u64 y.2] 39)).alloc (.cells #[.int .i64 y.1, .int .u64 y.2] 39)) := Below.alloc hbx (by simp; omega) _
      have hsz : w.heap.size ≤ ((wr.alloc (.cells #[.int .i64 y.1, .int .u64 y.2] 39)).alloc (.cells #[.int .i64 y.1, .int .u64 y.2] 39)).heap.size := by simp; omega
      have hrd2 := Rd.one2 (wr.alloc (.cells #[.int .i64 y.1, .int .u64 y.2] 39)) 39 y
      simp only [World.size_alloc] at hrd2
      have hsz2 : w.heap.size ≤ wr.heap.size + 1 + 1 := by omega
      have Hrd2 := Lib.hid hrd2
      clear hrd2
      have Hbx := Lib.hid hbx; have Hby := Lib.hid hby; have Hsz := Lib.hid hsz
      clear hbx hby hsz
      by_cases h1 : f ≤ y.1
      · by_cases h2 : y.1 ≤ t
        · have hbl := betL_in (f := f) (t := t) Hy.out h1 h2
          rw [← Hl.out] at hbl
          have Hbl := Lib.hid hbl
          clear hbl
          go_wp2_with (at_builtin; refine wpList_append_rd _ rfl (.tmp 26) (.tmp 28) _ rfl w.heap.size 39 i0 (.agg #[.int .i64 0, .int .u64 0]) 2 16 Tryz.underlying54 Hi.out Hz0.out Hz1.out Hz2.out rfl (by decide) _ m _ rfl ((Hown.out.alloc _).alloc _) _ _ 1 1 (ptsC [y]) rfl Hrd2.out (ptsC_one [y]) hk63 hk8 Hsz.out ?_; intro v' wa hown' hgr hat; have HR := Lib.hid (bet_append Hown.out Hby.out (by simp <;> omega) hown' hgr hws); clear hown' hgr hat)
          go_roundw
          case rel => exact ⟨k + 1, m + 1, l ++ [y], by omega, by omega, by go_num, Hbl.out.symm, by rw [List.length_append, ← Hm.out]; rfl, HR.out.1, HR.out.2⟩
          case measure => simp [intOf]; omega
        · have hbl := betL_out (f := f) (t := t) Hy.out (fun h => h2 h.2)
          rw [← Hl.out] at hbl
          have Hbl := Lib.hid hbl
          clear hbl
          have h2' : t < y.1 := by omega
          clear h2
          go_wp2
          go_roundw
          case rel => exact ⟨k + 1, m, l, by omega, by omega, by go_num, Hbl.out.symm, Hm.out, Hown.out.alloc _, Hbx.out⟩
          case measure => simp [intOf]; omega
      · have hbl := betL_out (f := f) (t := t) Hy.out (fun h => h1 h.1)
        rw [← Hl.out] at hbl
        have Hbl := Lib.hid hbl
        clear hbl
        have h1' : y.1 < f := by omega
        clear h1
        go_wp2
        go_roundw
        case rel => exact ⟨k + 1, m, l, by omega, by omega, by go_num, Hbl.out.symm, Hm.out, Hown.out.alloc _, Hbx.out⟩
        case measure => simp [intOf]; omega
    · obtain rfl : k = n := by omega
      have e : betL f t ps = l := by rw [Hl.out, List.take_of_length_le (by rw [Hlen.out]; exact Nat.le_refl _)]
      have He := Lib.hid e
      clear e hA
      go_wp2
      go_ret
      exact ⟨_, rfl, by rw [He.out, ← Hm.out]; exact Hown.out, Hbel.out⟩

end Go.Proofs.YthgefobcohlegaaGreatDoor

namespace Go.Proofs.YthgefobcohlegaaGreatDoor
open Go.RowKit
set_option linter.unusedVariables false

abbrev Bs := List UInt8
/-- A byte of a label's word. -/
def okB (b : UInt8) : Bool := (97 ≤ b && b ≤ 122) || (48 ≤ b && b ≤ 57) || b == 45
def wordB (s : Bs) : Bool := decide (1 ≤ s.length ∧ s.length ≤ 12) && s.all okB
def nameB (s : Bs) : Bool := wordB s && decide (97 ≤ s.getD 0 0)
abbrev Lb := Bs × Bs
def lbAt (l : List Lb) (i : Nat) : Lb := l.getD i ([], [])
/-- String order, as the model has it: at most. -/
def leS (a b : Bs) : Bool := Op.bytesLess a b || a == b
def lbOk (l : List Lb) (i : Nat) : Prop := nameB (lbAt l i).1 = true ∧ wordB (lbAt l i).2 = true ∧ (0 < i → leS (lbAt l i).1 (lbAt l (i - 1)).1 = false)
instance (l : List Lb) (i : Nat) : Decidable (lbOk l i) := by unfold lbOk; infer_instance
def lbCode (l : List Lb) (i : Nat) : Nat := if nameB (lbAt l i).1 = true ∧ wordB (lbAt l i).2 = true then 2 else 3
theorem first_lb (l : List Lb) : ∀ n, ∃ i, i ≤ n ∧ (∀ j, j < i → lbOk l j) ∧ (i < n → ¬ lbOk l i)
  | 0 => ⟨0, Nat.le_refl _, fun j h => absurd h (Nat.not_lt_zero _), fun h => absurd h (Nat.not_lt_zero _)⟩
  | n + 1 => by
    obtain ⟨i, h1, h2, h3⟩ := first_lb l n
    by_cases hi : i < n
    · exact ⟨i, by omega, h2, fun _ => h3 hi⟩
    · obtain rfl : i = n := by omega
      by_cases ho : lbOk l i
      · exact ⟨i + 1, Nat.le_refl _, fun j hj => by
          rcases Nat.lt_or_ge j i with h | h
          · exact h2 j h
          · obtain rfl : j = i := by omega
            exact ho, fun h => absurd h (Nat.lt_irrefl _)⟩
      · exact ⟨i, by omega, h2, fun _ => ho⟩

/-- The pieces of a text between the bytes c. -/
def splitC (c : UInt8) : Bs → List Bs
  | [] => [[]]
  | x :: xs => if x = c then [] :: splitC c xs else match splitC c xs with
    | [] => [[x]]
    | p :: ps => (x :: p) :: ps
theorem splitC_cons (c x : UInt8) (xs : Bs) : splitC c (x :: xs) = if x = c then [] :: splitC c xs else match splitC c xs with
    | [] => [[x]]
    | p :: ps => (x :: p) :: ps := rfl
theorem splitC_ne (c : UInt8) : ∀ l : Bs, splitC c l ≠ []
  | [] => by simp [splitC]
  | x :: xs => by
    rw [splitC_cons]
    split
    · simp
    · split <;> simp
theorem splitC_append (c : UInt8) : ∀ l r : Bs, splitC c (l ++ c :: r) = splitC c l ++ splitC c r
  | [], r => by simp [splitC]
  | x :: xs, r => by
    rw [List.cons_append, splitC_cons, splitC_cons, splitC_append c xs r]
    split
    · rfl
    · cases hs : splitC c xs with
      | nil => exact absurd hs (splitC_ne c xs)
      | cons p ps => rfl
/-- One byte more, which is no c: it goes to the last piece. -/
theorem splitC_snoc (c a : UInt8) (h : a ≠ c) : ∀ (l : Bs) (d : List Bs) (p : Bs), splitC c l = d ++ [p] → splitC c (l ++ [a]) = d ++ [p ++ [a]]
  | [], d, p, e => by
    have e' : ([[]] : List Bs) = d ++ [p] := e
    have : d = [] := by
      cases d with
      | nil => rfl
      | cons x d => have := congrArg List.length e'; simp at this
    subst this
    injection e' with e1 e2
    subst e1
    show splitC c [a] = _
    rw [splitC_cons, if_neg h]; rfl
  | x :: xs, d, p, e => by
    rw [List.cons_append]
    rw [splitC_cons] at e ⊢
    by_cases hx : x = c
    · rw [if_pos hx] at e ⊢
      cases d with
      | nil => injection e with e1 e2; exact absurd e2 (splitC_ne c xs)
      | cons q d =>
        injection e with e1 e2
        subst e1
        rw [splitC_snoc c a h xs d p e2]; rfl
    · rw [if_neg hx] at e ⊢
      cases hs : splitC c xs with
      | nil => exact absurd hs (splitC_ne c xs)
      | cons q ps =>
        rw [hs] at e
        cases d with
        | nil =>
          injection e with e1 e2
          subst e2
          rw [splitC_snoc c a h xs [] q (by rw [hs]; rfl)]
          subst e1; rfl
        | cons q' d =>
          injection e with e1 e2
          subst e1
          rw [splitC_snoc c a h xs (q :: d) p (by rw [hs, e2]; rfl)]
          rfl
/-- A piece at its first '='. -/
def cutE : Bs → Option Lb
  | [] => none
  | x :: xs => if x = 61 then some ([], xs) else (cutE xs).map fun q => (x :: q.1, q.2)
theorem cutE_snoc (a : UInt8) : ∀ p : Bs, cutE (p ++ [a]) = match cutE p with
    | some q => some (q.1, q.2 ++ [a])
    | none => if a = 61 then some (p, []) else none
  | [] => by
    show cutE [a] = _
    unfold cutE
    by_cases h : a = 61
    · simp [h]
    · simp [h, cutE]
  | x :: xs => by
    rw [List.cons_append]
    unfold cutE
    by_cases hx : x = 61
    · simp [hx]
    · rw [if_neg hx, if_neg hx, cutE_snoc a xs]
      cases hq : cutE xs with
      | some q => simp
      | none => by_cases h : a = 61 <;> simp [h]
theorem cutE_some : ∀ {p : Bs} {q : Lb}, cutE p = some q → p = q.1 ++ 61 :: q.2
  | [], _, h => by cases h
  | x :: xs, q, h => by
    unfold cutE at h
    split at h
    · rename_i hx
      injection h with h
      subst h; subst hx; rfl
    · cases hc : cutE xs with
      | none => rw [hc] at h; cases h
      | some r =>
        rw [hc] at h
        injection h with h
        subst h
        rw [List.cons_append, ← cutE_some hc]
theorem indexE_none : ∀ {p : Bs}, cutE p = none → Lib.indexByte p 61 = -1
  | [], _ => rfl
  | x :: xs, h => by
    unfold cutE at h
    split at h
    · cases h
    · rename_i hx
      have h2 : cutE xs = none := by
        cases hc : cutE xs with
        | none => rfl
        | some r => rw [hc] at h; cases h
      unfold Lib.indexByte
      rw [indexE_none h2]
      have : (x == 61) = false := by rw [beq_eq_false_iff_ne]; exact hx
      rw [this]; rfl
theorem indexE_some : ∀ {p : Bs} {q : Lb}, cutE p = some q → Lib.indexByte p 61 = q.1.length
  | [], _, h => by cases h
  | x :: xs, q, h => by
    unfold cutE at h
    split at h
    · rename_i hx
      injection h with h
      subst h; subst hx; rfl
    · rename_i hx
      cases hc : cutE xs with
      | none => rw [hc] at h; cases h
      | some r =>
        rw [hc] at h
        injection h with h
        subst h
        unfold Lib.indexByte
        rw [indexE_some hc]
        have h1 : (x == 61) = false := by rw [beq_eq_false_iff_ne]; exact hx
        have h2 : (((r.1.length : Nat) : Int) == -1) = false := by rw [beq_eq_false_iff_ne]; omega
        rw [h1, h2]; simp
/-- The rest of a text at its first c. -/
theorem index_split (c : UInt8) : ∀ (r : Bs), (Lib.indexByte r c = -1 ∧ splitC c r = [r]) ∨ (∃ i : Nat, Lib.indexByte r c = i ∧ i < r.length ∧ splitC c r = r.take i :: splitC c (r.drop (i + 1)))
  | [] => .inl ⟨rfl, rfl⟩
  | x :: xs => by
    by_cases hx : x = c
    · refine .inr ⟨0, ?_, by simp, ?_⟩
      · unfold Lib.indexByte; simp [hx]
      · show splitC c (x :: xs) = _
        rw [splitC_cons, if_pos hx]; rfl
    · have h1 : (x == c) = false := by rw [beq_eq_false_iff_ne]; exact hx
      rcases index_split c xs with ⟨h2, h3⟩ | ⟨i, h2, h3, h4⟩
      · refine .inl ⟨?_, ?_⟩
        · unfold Lib.indexByte; rw [h1, h2]; rfl
        · rw [splitC_cons, if_neg hx, h3]
      · refine .inr ⟨i + 1, ?_, by simp; omega, ?_⟩
        · unfold Lib.indexByte
          have h5 : (((i : Nat) : Int) == -1) = false := by rw [beq_eq_false_iff_ne]; omega
          rw [h1, h2, h5]; simp
        · rw [splitC_cons, if_neg hx, h4]; rfl
/-- Labels of a text. -/
def parseL (s : Bs) : Option (List Lb) := (splitC 44 s).mapM cutE
/-- A label as a text; labels as a text. -/
def lbT (p : Lb) : Bs := p.1 ++ 61 :: p.2
def textL (l : List Lb) : Bs := Lib.join (l.map lbT) [44]
theorem join_split (c : UInt8) : ∀ s : Bs, Lib.join (splitC c s) [c] = s
  | [] => Lib.join_one _ _
  | x :: xs => by
    have ih := join_split c xs
    rw [splitC_cons]
    split
    · rename_i hx
      cases hs : splitC c xs with
      | nil => exact absurd hs (splitC_ne c xs)
      | cons p ps =>
        rw [hs] at ih
        rw [Lib.join_cons] at ih ⊢
        rw [hx]
        simp only [Lib.joinTail, List.map_cons, List.flatten_cons, List.nil_append] at ih ⊢
        rw [List.append_assoc, ih]; rfl
    · cases hs : splitC c xs with
      | nil => exact absurd hs (splitC_ne c xs)
      | cons p ps =>
        rw [hs] at ih
        rw [Lib.join_cons] at ih ⊢
        rw [List.cons_append, ih]
theorem mapM_cut {ps : List Bs} {l : List Lb} (h : ps.mapM cutE = some l) : ps = l.map lbT := by
  induction ps generalizing l with
  | nil => simp at h; subst h; rfl
  | cons p ps ih =>
    rw [List.mapM_cons] at h
    cases hp : cutE p with
    | none => rw [hp] at h; cases h
    | some q =>
      rw [hp] at h
      cases hr : ps.mapM cutE with
      | none => rw [hr] at h; cases h
      | some r =>
        rw [hr] at h
        have h' : some (q :: r) = some l := h
        injection h' with h'
        subst h'
        rw [List.map_cons, ← ih hr]
        show p :: ps = (q.1 ++ 61 :: q.2) :: ps
        rw [← cutE_some hp]
theorem text_parse {s : Bs} {l : List Lb} (h : parseL s = some l) : textL l = s := by
  unfold textL; rw [← mapM_cut h, join_split]
theorem nameB_word {s : Bs} (h : nameB s = true) : wordB s = true := by
  unfold nameB at h; rw [Bool.and_eq_true] at h; exact h.1
theorem mapM_app : ∀ (a b : List Bs), (a ++ b).mapM cutE = (a.mapM cutE).bind fun x => (b.mapM cutE).map fun y => x ++ y
  | [], b => by simp
  | p :: a, b => by
    rw [List.cons_append, List.mapM_cons, List.mapM_cons, mapM_app a b]
    cases cutE p with
    | none => rfl
    | some q =>
      cases a.mapM cutE with
      | none => rfl
      | some x => cases b.mapM cutE <;> rfl
theorem mapM_one (p : Bs) : [p].mapM cutE = (cutE p).map fun q => [q] := by
  rw [List.mapM_cons]
  cases cutE p <;> rfl
/-- What the reference's LabelsOf holds behind the bytes t: labels, one in the making, and has it a value yet? -/
def RefSt (t : Bs) (out : List Lb) (x : Lb) (v : Bool) : Prop :=
  ∃ d p, splitC 44 t = d ++ [p] ∧ d.mapM cutE = some out ∧ ((cutE p = some x ∧ v = true) ∨ (cutE p = none ∧ x = (p, []) ∧ v = false))
theorem RefSt.start : RefSt [] [] ([], []) false := ⟨[], [], rfl, rfl, .inr ⟨rfl, rfl, rfl⟩⟩
theorem RefSt.fail {t : Bs} {out : List Lb} {x : Lb} (h : RefSt t out x false) (r : Bs) : parseL (t ++ 44 :: r) = none ∧ parseL t = none := by
  obtain ⟨d, p, h1, h2, h3⟩ := h
  rcases h3 with ⟨_, h3⟩ | ⟨h3, _, _⟩
  · cases h3
  · have e : (d ++ [p]).mapM cutE = none := by rw [mapM_app, h2, mapM_one, h3]; rfl
    refine ⟨?_, ?_⟩
    · unfold parseL; rw [splitC_append, h1, mapM_app, e]; rfl
    · unfold parseL; rw [h1, e]
theorem RefSt.done {t : Bs} {out : List Lb} {x : Lb} (h : RefSt t out x true) : parseL t = some (out ++ [x]) := by
  obtain ⟨d, p, h1, h2, h3⟩ := h
  rcases h3 with ⟨h3, _⟩ | ⟨_, _, h3⟩
  · unfold parseL; rw [h1, mapM_app, h2, mapM_one, h3]; rfl
  · cases h3
theorem RefSt.value {t : Bs} {out : List Lb} {x : Lb} (h : RefSt t out x true) {a : UInt8} (ha : a ≠ 44) : RefSt (t ++ [a]) out (x.1, x.2 ++ [a]) true := by
  obtain ⟨d, p, h1, h2, h3⟩ := h
  rcases h3 with ⟨h3, _⟩ | ⟨_, _, h3⟩
  · exact ⟨d, p ++ [a], splitC_snoc 44 a ha t d p h1, h2, .inl ⟨by rw [cutE_snoc, h3], rfl⟩⟩
  · cases h3
theorem RefSt.eq {t : Bs} {out : List Lb} {x : Lb} (h : RefSt t out x false) : RefSt (t ++ [61]) out x true := by
  obtain ⟨d, p, h1, h2, h3⟩ := h
  rcases h3 with ⟨_, h3⟩ | ⟨h3, hx, _⟩
  · cases h3
  · exact ⟨d, p ++ [61], splitC_snoc 44 61 (by decide) t d p h1, h2, .inl ⟨by rw [cutE_snoc, h3, hx]; rfl, rfl⟩⟩
theorem RefSt.name {t : Bs} {out : List Lb} {x : Lb} (h : RefSt t out x false) {a : UInt8} (ha : a ≠ 44) (ha2 : a ≠ 61) : RefSt (t ++ [a]) out (x.1 ++ [a], []) false := by
  obtain ⟨d, p, h1, h2, h3⟩ := h
  rcases h3 with ⟨_, h3⟩ | ⟨h3, hx, _⟩
  · cases h3
  · exact ⟨d, p ++ [a], splitC_snoc 44 a ha t d p h1, h2, .inr ⟨by rw [cutE_snoc, h3]; simp [ha2], by rw [hx], rfl⟩⟩
theorem cutE_len {p : Bs} {q : Lb} (h : cutE p = some q) : q.1.length ≤ p.length ∧ q.2.length ≤ p.length := by
  have := cutE_some h
  rw [this, List.length_append, List.length_cons]; omega
/-- Sizes: what is held is no longer than what was read. -/
theorem split_len (s : Bs) : (splitC 44 s).length ≤ s.length + 1 ∧ ∀ q ∈ splitC 44 s, q.length ≤ s.length := by
    induction s with
    | nil => exact ⟨Nat.le_refl _, fun q hq => by simp [splitC] at hq; subst hq; simp⟩
    | cons x xs ih =>
      obtain ⟨i1, i2⟩ := ih
      rw [splitC_cons]
      split
      · refine ⟨by simp; omega, fun q hq => ?_⟩
        rcases List.mem_cons.1 hq with rfl | hq
        · simp
        · have := i2 q hq; simp; omega
      · cases hs : splitC 44 xs with
        | nil => exact absurd hs (splitC_ne 44 xs)
        | cons p ps =>
          rw [hs] at i1 i2
          refine ⟨by simp at i1 ⊢; omega, fun q hq => ?_⟩
          rcases List.mem_cons.1 hq with rfl | hq
          · have := i2 p List.mem_cons_self; simp; omega
          · have := i2 q (List.mem_cons_of_mem _ hq); simp; omega
theorem RefSt.len {t : Bs} {out : List Lb} {x : Lb} {v : Bool} (h : RefSt t out x v) : x.1.length ≤ t.length ∧ x.2.length ≤ t.length ∧ out.length ≤ t.length + 1 ∧ ∀ p ∈ out, p.1.length ≤ t.length ∧ p.2.length ≤ t.length := by
  obtain ⟨d, p, h1, h2, h3⟩ := h
  obtain ⟨k1, k2⟩ := split_len t
  rw [h1] at k1 k2
  have hp := k2 p (by simp)
  have e := mapM_cut h2
  have hl : d.length = out.length := by rw [e, List.length_map]
  rw [List.length_append] at k1
  refine ⟨?_, ?_, by omega, fun q hq => ?_⟩
  · rcases h3 with ⟨h3, _⟩ | ⟨_, h3, _⟩
    · have := (cutE_len h3).1; omega
    · rw [h3]; exact hp
  · rcases h3 with ⟨h3, _⟩ | ⟨_, h3, _⟩
    · have := (cutE_len h3).2; omega
    · rw [h3]; simp
  · have := k2 (lbT q) (by rw [e]; simp; exact .inl ⟨q.1, q.2, hq, rfl⟩)
    unfold lbT at this
    rw [List.length_append, List.length_cons] at this
    omega
theorem parse_len {s : Bs} {l : List Lb} (h : parseL s = some l) : l.length ≤ s.length + 1 ∧ ∀ p ∈ l, p.1.length ≤ s.length ∧ p.2.length ≤ s.length := by
  have e := mapM_cut h
  obtain ⟨k1, k2⟩ := split_len s
  rw [e] at k1 k2
  refine ⟨by simpa using k1, fun p hp => ?_⟩
  have := k2 (lbT p) (List.mem_map_of_mem hp)
  unfold lbT at this
  rw [List.length_append, List.length_cons] at this
  omega
end Go.Proofs.YthgefobcohlegaaGreatDoor

namespace Go.Proofs.YthgefobcohlegaaGreatDoor
open Go.RowKit
set_option linter.unusedVariables false

/-- Texts as cells. -/
def txC (l : List Bs) : List Value := l.map fun s => .string (B8 s)
theorem infoTx : (Tryz.prog.info? 9).map (fun i => (i.zero, i.size, i.bytes)) = some (some (.string ⟨#[]⟩), 1, 16) := by kernel_rfl
theorem one_cell (W : World) (t : TypeId) (u : Value) : Rd (W.alloc (.cells #[u] t)) (W.alloc (.cells #[u] t)).heap.size 1 (some ⟨W.heap.size, 0, none⟩) 1 [u] := by
  refine ⟨rfl, fun _ => ⟨W.heap.size, 0, rfl, by simp, fun j v hv => ?_⟩⟩
  rw [Nat.zero_add, (Blk.new W t #[u]).cell j]
  simpa using hv

theorem own_typed {w : World} {base k : Nat} {e : TypeId} {size n : Nat} {v : Value} {xs : List Value} (h : w.ownsRow base e size v n xs) (hk : v.ownBlock = some k) : ∃ cs, Blk w k e cs := by
  rcases h.2 with ⟨rfl, _⟩ | ⟨g, cap, cur, rfl, _, hg, _⟩
  · cases hk
  · injection hk with hk
    have hk : g = k := hk
    rw [← hk]
    exact ⟨cur, hg⟩
theorem blk_type {w : World} {k : Nat} {t t' : TypeId} {cs cs' : Array Value} (h : Blk w k t cs) (h' : Blk w k t' cs') : t = t' := by
  have e := Option.some.inj (h.symm.trans h')
  injection e
theorem Fr.ofBelow {w w' : World} (h : Below w.heap.size w w') : Fr (fun _ => False) w w' := ⟨h.os, h.tape, h.output, h.size, fun k hk _ => h.block k hk⟩
end Go.Proofs.YthgefobcohlegaaGreatDoor

namespace Go.Proofs.YthgefobcohlegaaGreatDoor
open Go.RowKit
set_option linter.unusedVariables false

end Go.Proofs.YthgefobcohlegaaGreatDoor
