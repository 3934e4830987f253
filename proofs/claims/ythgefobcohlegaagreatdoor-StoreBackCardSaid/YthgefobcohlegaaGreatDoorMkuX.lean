/- What holds of every head: plain facts. -/
import Derived.Test.YthgefobcohlegaaGreatDoorMkgX
import Derived.Test.YthgefobcohlegaaGreatDoorMktX
import Derived.Test.YthgefobcohlegaaGreatDoorMkhX
import Derived.Test.YthgefobcohlegaaGreatDoorMkiX
import Derived.Test.YthgefobcohlegaaGreatDoorMkrX
namespace Go.Proofs.YthgefobcohlegaaGreatDoor
open Go.RowKit
set_option linter.unusedVariables false

theorem hFind_of_mem {A : List HA} (hs : hSrt A) {x : HA} (hx : x ∈ A) : hFind A x.1 = some x := by
  induction A with
  | nil => cases hx
  | cons a A ih =>
    have hs' := List.pairwise_cons.1 hs
    unfold hFind
    rw [List.find?_cons]
    rcases List.mem_cons.1 hx with rfl | hx
    · simp
    · have : a.1 ≠ x.1 := fun e => by have := hs'.1 x hx; rw [e] at this; exact lt_irrefl_bs _ this
      have e : (a.1 == x.1) = false := by simpa using this
      rw [e]
      exact ih hs'.2 hx
theorem hPut_other {A : List HA} {s : Bs} (h : ∀ x ∈ A, x.1 ≠ s) (p : Int × Int) : hPut A s p = A := by
  unfold hPut
  conv => rhs; rw [← List.map_id A]
  apply List.map_congr_left
  intro y hy
  rw [if_neg (by simpa using h y hy)]; rfl
theorem hCount_cons (x : HA) (A : List HA) : hCount (x :: A) = x.2.1.length + hCount A := by unfold hCount; rw [List.map_cons, List.sum_cons]
theorem hCount_app (A B : List HA) : hCount (A ++ B) = hCount A + hCount B := by unfold hCount; rw [List.map_append, List.sum_append]
theorem hCount_put {A : List HA} (hs : hSrt A) {s : Bs} {x : HA} (hx : x ∈ A) (hn : x.1 = s) (p : Int × Int) : hCount (hPut A s p) = hCount A + 1 := by
  induction A with
  | nil => cases hx
  | cons a A ih =>
    have hs' := List.pairwise_cons.1 hs
    by_cases e : a.1 = s
    · have hA : hPut A s p = A := hPut_other (fun y hy e2 => by have := hs'.1 y hy; rw [e, e2] at this; exact lt_irrefl_bs _ this) p
      unfold hPut at hA ⊢
      rw [List.map_cons, hA, if_pos (by simpa using e), hCount_cons, hCount_cons]
      simp
      omega
    · have hx' : x ∈ A := by
        rcases List.mem_cons.1 hx with rfl | h
        · exact absurd hn e
        · exact h
      have := ih hs'.2 hx'
      unfold hPut at this ⊢
      rw [List.map_cons, if_neg (by simpa using e), hCount_cons, hCount_cons, this]
      omega
theorem hCount_ins (A : List HA) (x : HA) : hCount (hIns A x) = hCount A + x.2.1.length := by
  unfold hIns
  rw [hCount_app, hCount_cons]
  have e := hCount_app (A.takeWhile fun y => decide (y.1 < x.1)) (A.dropWhile fun y => decide (y.1 < x.1))
  rw [List.takeWhile_append_dropWhile] at e
  omega
theorem hCount_add {A : List HA} (hs : hSrt A) (s : Bs) (p : Int × Int) : hCount (hAdd A s p) = hCount A + 1 := by
  unfold hAdd
  cases hf : hFind A s with
  | some x => exact hCount_put hs (hFind_mem hf).1 (hFind_mem hf).2 p
  | none => exact hCount_ins A _
theorem hPut_len (A : List HA) (s : Bs) (p : Int × Int) : (hPut A s p).length = A.length := by unfold hPut; rw [List.length_map]
theorem hAdd_len {A : List HA} {s : Bs} {p : Int × Int} (h : (hFault A s p).1 = 0) (hl : A.length ≤ 60) : (hAdd A s p).length ≤ 60 := by
  obtain ⟨_, _, h | h⟩ := hFault_ok h
  · obtain ⟨x, hx, _⟩ := h
    unfold hAdd
    rw [hx]
    show (hPut A s p).length ≤ 60
    rw [hPut_len]; exact hl
  · unfold hAdd
    rw [h.1]
    show (hIns A (s, [p], p.1)).length ≤ 60
    rw [hIns_len]; omega
theorem hAdd_mem {A : List HA} {s : Bs} {p : Int × Int} {y : HA} (hs : hSrt A) (h : y ∈ hAdd A s p) : y ∈ A ∨ (∃ x ∈ A, hFind A s = some x ∧ y = (s, x.2.1 ++ [p], p.1)) ∨ (hFind A s = none ∧ y = (s, [p], p.1)) := by
  unfold hAdd at h
  cases hf : hFind A s with
  | some x =>
    rw [hf] at h
    obtain ⟨z, hz, e⟩ := List.mem_map.1 (show y ∈ hPut A s p from h)
    by_cases e2 : z.1 = s
    · rw [if_pos (by simpa using e2)] at e
      have := hFind_of_mem hs hz
      rw [e2, hf] at this
      exact .inr (.inl ⟨z, hz, this, e.symm⟩)
    · rw [if_neg (by simpa using e2)] at e
      exact .inl (by rw [← e]; exact hz)
  | none =>
    rw [hf] at h
    rcases hIns_mem.1 (show y ∈ hIns A (s, [p], p.1) from h) with h | h
    · exact .inr (.inr ⟨rfl, h⟩)
    · exact .inl h
/-- Points rise, and end at the last tick at the latest. -/
def HInv (A : List HA) : Prop := ∀ x ∈ A, x.2.1.Pairwise (fun p q => p.1 < q.1) ∧ ∀ p ∈ x.2.1, p.1 ≤ x.2.2 ∧ tickB p.1 = true
theorem HInv.nil : HInv [] := fun x h => by cases h
theorem HInv.add {A : List HA} (h : HInv A) (hs : hSrt A) {s : Bs} {p : Int × Int} (hf : (hFault A s p).1 = 0) : HInv (hAdd A s p) := by
  obtain ⟨_, htk, hw⟩ := hFault_ok hf
  intro y hy
  rcases hAdd_mem hs hy with hy | ⟨x, hx, hfx, rfl⟩ | ⟨hn, rfl⟩
  · exact h y hy
  · obtain ⟨h1, h2⟩ := h x hx
    have hlt : x.2.2 < p.1 := by
      rcases hw with ⟨z, hz, hlt⟩ | ⟨hz, _⟩
      · rw [hfx] at hz; injection hz with hz; rw [hz]; exact hlt
      · rw [hfx] at hz; cases hz
    refine ⟨?_, fun q hq => ?_⟩
    · rw [List.pairwise_append]
      refine ⟨h1, List.pairwise_singleton _ _, fun a ha b hb => ?_⟩
      obtain rfl := List.mem_singleton.1 hb
      have := (h2 a ha).1
      omega
    · rcases List.mem_append.1 hq with hq | hq
      · exact ⟨by have := (h2 q hq).1; show q.1 ≤ p.1; omega, (h2 q hq).2⟩
      · obtain rfl := List.mem_singleton.1 hq
        exact ⟨Int.le_refl _, htk⟩
  · refine ⟨List.pairwise_singleton _ _, fun q hq => ?_⟩
    obtain rfl := List.mem_singleton.1 hq
    exact ⟨Int.le_refl _, htk⟩
theorem HInv.cut {A : List HA} (h : HInv A) (b : Int) : HInv (hCut A b) := by
  intro y hy
  obtain ⟨x, hx, rfl⟩ := List.mem_map.1 hy
  obtain ⟨h1, h2⟩ := h x hx
  exact ⟨h1.sublist (List.dropWhile_sublist _), fun p hp => h2 p ((List.dropWhile_sublist _).subset hp)⟩
theorem gone_left_len (b : Int) (l : List (Int × Int)) : (hGone b l).length + (hLeft b l).length = l.length := by
  have e := List.takeWhile_append_dropWhile (p := fun p : Int × Int => decide (p.1 < b)) (l := l)
  have e2 := congrArg List.length e
  rw [List.length_append] at e2
  exact e2
/-- How many points the rows have. -/
def rowsCnt (R : List (Bs × List (Int × Int))) : Nat := (R.map fun r => r.2.length).sum
theorem cut_count (A : List HA) (b : Int) : hCount A = hCount (hCut A b) + rowsCnt (hCutR A b) := by
  induction A with
  | nil => rfl
  | cons x A ih =>
    have e1 : hCut (x :: A) b = (x.1, hLeft b x.2.1, x.2.2) :: hCut A b := rfl
    have e2 : rowsCnt (hCutR (x :: A) b) = (hGone b x.2.1).length + rowsCnt (hCutR A b) := by
      unfold hCutR rowsCnt
      rw [List.filter_cons]
      by_cases h : hGone b x.2.1 = []
      · simp [h]
      · simp [h]
    rw [e1, hCount_cons, hCount_cons, e2, ih]
    have := gone_left_len b x.2.1
    show _ = (hLeft b x.2.1).length + _ + _
    omega
/-- Lines that have points, counted. -/
theorem count_series (A : List HA) : hCount A = ((A.filter fun x => decide (x.2.1 ≠ [])).map fun x => x.2.1.length).sum := by
  induction A with
  | nil => rfl
  | cons x A ih =>
    rw [hCount_cons, List.filter_cons, ih]
    by_cases h : x.2.1 = []
    · simp [h]
    · simp [h]
end Go.Proofs.YthgefobcohlegaaGreatDoor

namespace Go.Proofs.YthgefobcohlegaaGreatDoor
open Go.RowKit Go.Sort
set_option linter.unusedVariables false

abbrev Rise (X : List Rw) : Prop := (X.map Prod.fst).Pairwise (· < ·)
theorem Rise.tail {x : Rw} {X : List Rw} (h : Rise (x :: X)) : Rise X := (List.pairwise_cons.1 h).2
theorem Rise.head {x : Rw} {X : List Rw} (h : Rise (x :: X)) {r : Rw} (hr : r ∈ X) : x.1 < r.1 := (List.pairwise_cons.1 h).1 _ (List.mem_map_of_mem hr)
theorem Rise.cons {x : Rw} {X : List Rw} (h : Rise X) (hx : ∀ r ∈ X, x.1 < r.1) : Rise (x :: X) := by
  refine List.pairwise_cons.2 ⟨fun s hs => ?_, h⟩
  obtain ⟨r, hr, rfl⟩ := List.mem_map.1 hs
  exact hx r hr
end Go.Proofs.YthgefobcohlegaaGreatDoor

namespace Go.Proofs.YthgefobcohlegaaGreatDoor
open Go.RowKit
set_option linter.unusedVariables false

/-- A block: from, span, its rows (in memory: their names and chunks, encR). -/
abbrev Bk := (Int × Int) × List Rw
structure StM where
  A : List HA
  d : Dk
  sp : Int
  kp : Int
  B : List Bk
/-- What a head is given when a log is read again: an entry that may be added. -/
def hTry (A : List HA) (e : En) : List HA := if e.tick < 0 then A else if (hFault A e.nm (e.tick, (e.bit : Int))).1 = 0 then hAdd A e.nm (e.tick, (e.bit : Int)) else A
def hAll (l : List En) : List HA := l.foldl hTry []
/-- A store made anew. -/
def newF (sp kp : Int) : Nat × Int := if sp < 1 ∨ 100000 < sp ∨ kp < 1 ∨ 40 < kp then (2, -1) else (0, -1)
def newS (l : List En) (k : Nat) (d : Dk) (sp kp : Int) : StM := ⟨hAll l, ⟨d.b.take k, false, -1⟩, sp, kp, []⟩
/-- Is a tick before the end of the last block? -/
def oldB (B : List Bk) (t : Int) : Bool := match B.getLast? with
  | some b => decide (t < b.1.1 + b.1.2)
  | none => false
/-- What is wrong with a point that is to be added, ahead of the log. -/
def preF (S : StM) (s : Bs) (p : Int × Int) : Nat × Int :=
  if (rdF s).1 ≠ 0 then rdF s else if p.1 < 0 then (2, -1) else if (hFault S.A s p).1 ≠ 0 then hFault S.A s p else if oldB S.B p.1 = true then (8, -1) else (0, -1)
def enOf (s : Bs) (p : Int × Int) : En := ⟨s, p.1, p.2.toNat⟩
def sAddF (S : StM) (s : Bs) (p : Int × Int) : Nat × Int := if (preF S s p).1 ≠ 0 then preF S s p else apF S.d (enOf s p)
def sAdd (S : StM) (s : Bs) (p : Int × Int) : StM :=
  if (preF S s p).1 ≠ 0 then S else ⟨if (apF S.d (enOf s p)).1 = 0 then hAdd S.A s p else S.A, apD S.d (enOf s p), S.sp, S.kp, S.B⟩
/-- The least of some ticks. -/
def leastL : List Int → Option Int
  | [] => none
  | a :: l => match leastL l with
    | none => some a
    | some b => some (if a ≤ b then a else b)
theorem leastL_some : ∀ {l : List Int} {m : Int}, leastL l = some m → m ∈ l ∧ ∀ b ∈ l, m ≤ b
  | [], m, h => by cases h
  | a :: l, m, h => by
    unfold leastL at h
    cases hl : leastL l with
    | none =>
      rw [hl] at h
      obtain rfl := Option.some.inj h
      cases l with
      | nil => exact ⟨List.mem_cons_self, fun b hb => by rw [List.mem_singleton.1 hb]; exact Int.le_refl _⟩
      | cons c l => unfold leastL at hl; split at hl <;> cases hl
    | some b =>
      rw [hl] at h
      obtain ⟨h1, h2⟩ := leastL_some hl
      obtain rfl := Option.some.inj h
      split
      · rename_i hab
        exact ⟨List.mem_cons_self, fun c hc => by
          rcases List.mem_cons.1 hc with rfl | hc
          · exact Int.le_refl _
          · exact Int.le_trans hab (h2 c hc)⟩
      · rename_i hab
        exact ⟨List.mem_cons_of_mem _ h1, fun c hc => by
          rcases List.mem_cons.1 hc with rfl | hc
          · omega
          · exact h2 c hc⟩
/-- The first tick of a head. -/
def firstH (A : List HA) : Option Int := leastL (A.filterMap fun x => x.2.1.head?.map Prod.fst)
theorem firstH_le {A : List HA} {m : Int} (h : firstH A = some m) (hi : ∀ x ∈ A, x.2.1.Pairwise (fun p q => p.1 < q.1)) : (∃ x ∈ A, ∃ p ∈ x.2.1, p.1 = m) ∧ ∀ x ∈ A, ∀ p ∈ x.2.1, m ≤ p.1 := by
  obtain ⟨h1, h2⟩ := leastL_some h
  refine ⟨?_, fun x hx p hp => ?_⟩
  · obtain ⟨x, hx, e⟩ := List.mem_filterMap.1 h1
    cases hl : x.2.1 with
    | nil => rw [hl] at e; cases e
    | cons p l =>
      rw [hl] at e
      exact ⟨x, hx, p, by rw [hl]; exact List.mem_cons_self, Option.some.inj e⟩
  · cases hl : x.2.1 with
    | nil => rw [hl] at hp; cases hp
    | cons a l =>
      have ha := h2 a.1 (List.mem_filterMap.2 ⟨x, hx, by rw [hl]; rfl⟩)
      rw [hl] at hp
      rcases List.mem_cons.1 hp with rfl | hp
      · exact ha
      · have := hi x hx
        rw [hl] at this
        have := (List.pairwise_cons.1 this).1 p hp
        omega
/-- A stretch: its rows. -/
def stretchR (A : List HA) (f t : Int) : List Rw := (A.map fun x => (x.1, betL f t x.2.1)).filter fun r => decide (r.2 ≠ [])
/-- The names of all series. -/
def namesS (S : StM) : List Bs := srtN ((hSeries S.A ++ S.B.flatMap fun b => b.2.map Prod.fst).map fun s => (s, []))
/-- Points of a series in blocks and head. -/
def ptsS (S : StM) (s : Bs) (f t : Int) : List (Int × Int) :=
  mergeP ((S.B.foldl (fun acc b => mergeP acc (betL f t (ptsOf b.2 s))) [])) (hPoints S.A s f t)
/-- All that is selected with no matches. -/
def selR (S : StM) (f t : Int) : List Rw := ((namesS S).map fun s => (s, ptsS S s f t)).filter fun r => decide (r.2 ≠ [])
/-- The log of a head that is written anew. -/
def logOf (A : List HA) : List En := A.flatMap fun x => (betL 0 1099511627776 x.2.1).map fun p => ⟨x.1, p.1, p.2.toNat⟩

/- While points are added to a store with no blocks, and power may fail. -/
structure BackInv (S : StM) (done : List En) : Prop where
  cut : LogInv S.d done
  hd : S.A = hAll done
  bl : S.B = []
  cnt : hCount S.A = done.length
  srt : hSrt S.A
theorem BackInv.start (c sp kp : Int) : BackInv ⟨[], ⟨[], false, c⟩, sp, kp, []⟩ [] := ⟨LogInv.start c, rfl, rfl, rfl, List.Pairwise.nil⟩
theorem preF_zero {S : StM} {s : Bs} {p : Int × Int} (h : (preF S s p).1 = 0) : (rdF s).1 = 0 ∧ 0 ≤ p.1 ∧ (hFault S.A s p).1 = 0 ∧ oldB S.B p.1 = false := by
  unfold preF at h
  by_cases h1 : (rdF s).1 ≠ 0
  · rw [if_pos h1] at h; exact absurd h h1
  rw [if_neg h1] at h
  by_cases h2 : p.1 < 0
  · rw [if_pos h2] at h; cases h
  rw [if_neg h2] at h
  by_cases h3 : (hFault S.A s p).1 ≠ 0
  · rw [if_pos h3] at h; exact absurd h h3
  rw [if_neg h3] at h
  by_cases h4 : oldB S.B p.1 = true
  · rw [if_pos h4] at h; cases h
  · exact ⟨by omega, by omega, by omega, by simpa using h4⟩
theorem BackInv.step {S : StM} {done : List En} (h : BackInv S done) (s : Bs) (p : Int × Int) (hp : 0 ≤ p.2 ∧ p.2 < 18446744073709551616) :
    ((sAddF S s p).1 = 0 → BackInv (sAdd S s p) (done ++ [enOf s p])) ∧ ((sAddF S s p).1 ≠ 0 → BackInv (sAdd S s p) done) := by
  have hb : (enOf s p).bit < 18446744073709551616 := by show p.2.toNat < _; omega
  by_cases h1 : (preF S s p).1 = 0
  · obtain ⟨_, h2, h3, _⟩ := preF_zero h1
    have hs := h.cut.step (enOf s p) hb
    have hF : sAddF S s p = apF S.d (enOf s p) := by unfold sAddF; rw [if_neg (fun e => e h1)]
    have hA : sAdd S s p = ⟨if (apF S.d (enOf s p)).1 = 0 then hAdd S.A s p else S.A, apD S.d (enOf s p), S.sp, S.kp, S.B⟩ := by unfold sAdd; rw [if_neg (fun e => e h1)]
    rw [hF, hA]
    refine ⟨fun h0 => ⟨hs.1 h0, ?_, h.bl, ?_, ?_⟩, fun h0 => ⟨hs.2 h0, ?_, h.bl, ?_, ?_⟩⟩
    · show (if (apF S.d (enOf s p)).1 = 0 then hAdd S.A s p else S.A) = hAll (done ++ [enOf s p])
      rw [if_pos h0]
      unfold hAll
      rw [List.foldl_append]
      show hAdd S.A s p = hTry (hAll done) (enOf s p)
      rw [← h.hd]
      have hpe : ((enOf s p).tick, ((enOf s p).bit : Int)) = p := by
        show (p.1, ((p.2.toNat : Nat) : Int)) = p
        rw [Int.toNat_of_nonneg hp.1]
      unfold hTry
      rw [hpe, if_neg (by show ¬ p.1 < 0; omega), if_pos (by show (hFault S.A s p).1 = 0; exact h3)]
      rfl
    · show hCount (if (apF S.d (enOf s p)).1 = 0 then hAdd S.A s p else S.A) = _
      rw [if_pos h0, hCount_add h.srt, h.cnt, List.length_append, List.length_singleton]
    · show hSrt (if (apF S.d (enOf s p)).1 = 0 then hAdd S.A s p else S.A)
      rw [if_pos h0]
      exact hAdd_srt h.srt
    · show (if (apF S.d (enOf s p)).1 = 0 then hAdd S.A s p else S.A) = _
      rw [if_neg h0]; exact h.hd
    · show hCount (if (apF S.d (enOf s p)).1 = 0 then hAdd S.A s p else S.A) = _
      rw [if_neg h0]; exact h.cnt
    · show hSrt (if (apF S.d (enOf s p)).1 = 0 then hAdd S.A s p else S.A)
      rw [if_neg h0]; exact h.srt
  · have hF : sAddF S s p = preF S s p := by unfold sAddF; rw [if_pos h1]
    have hA : sAdd S s p = S := by unfold sAdd; rw [if_pos h1]
    rw [hF, hA]
    exact ⟨fun h0 => absurd h0 h1, fun _ => h⟩
/-- What is recovered is what was added. -/
theorem BackInv.anew {S : StM} {done : List En} (h : BackInv S done) {l : List En} {k : Nat} (hr : IsRead S.d.b l k) (sp kp : Int) : (newS l k S.d sp kp).A = S.A ∧ (newS l k S.d sp kp).B = S.B := by
  obtain ⟨rfl, _⟩ := h.cut.read hr
  exact ⟨h.hd.symm, h.bl.symm⟩
end Go.Proofs.YthgefobcohlegaaGreatDoor

namespace Go.Proofs.YthgefobcohlegaaGreatDoor
open Go.RowKit Go.Maps
set_option linter.unusedVariables false

/-- The blocks of a head. -/
def HdS (hb mb : Nat) (L : List HLn) (k : Nat) : Prop := k = hb ∨ k = mb ∨ ∃ x ∈ L, k = x.bk ∨ ownZB x.v = some k
theorem HeadAt.tight {w : World} {F : Nat → Prop} {hb mb : Nat} {D : DataW Unit} {L : List HLn} (h : HeadAt w F hb mb D L) : HeadAt w (HdS hb mb L) hb mb D L :=
  ⟨h.hd, h.mp, h.dof, fun x hx => by
    obtain ⟨a, b, _, _⟩ := h.ln x hx
    exact ⟨a, b, .inr (.inr ⟨x, hx, .inl rfl⟩), fun g hg => .inr (.inr ⟨x, hx, .inr hg⟩)⟩, h.ap, .inl rfl, .inr (.inl rfl), h.srt⟩
theorem HeadAt.noBlk {w : World} {F : Nat → Prop} {hb mb : Nat} {D : DataW Unit} {L : List HLn} (h : HeadAt w F hb mb D L) {t : TypeId} {cs : Array Value} : ¬ Blk w mb t cs := by
  intro hb'
  obtain ⟨es, clock, h1, _⟩ := h.mp
  have h2 : w.heap[mb]? = some (.cells cs t (0, 0)) := hb'
  rw [h2] at h1
  cases h1
theorem HeadAt.odd {w : World} {F : Nat → Prop} {hb mb : Nat} {D : DataW Unit} {L : List HLn} (h : HeadAt w F hb mb D L) {T : List TypeId} (h1 : 110 ∉ T) (h2 : 114 ∉ T) (h3 : 39 ∉ T) : Odd (HdS hb mb L) w T := by
  intro k t cs hk hb'
  rcases hk with rfl | rfl | ⟨x, hx, rfl | hk⟩
  · obtain rfl := blk_type hb' h.hd
    exact h1
  · exact absurd hb' h.noBlk
  · obtain rfl := blk_type hb' (h.ln x hx).1
    exact h2
  · rcases (h.ln x hx).2.1 with ⟨_, _, A, e⟩ | ⟨_, ho⟩
    · rw [e] at hk
      simp [ownZB, capOf] at hk
    · obtain ⟨cs', hc⟩ := own_typed ho (ownZB_le hk)
      obtain rfl := blk_type hb' hc
      exact h3
theorem DiskAt.odd {w : World} {q : Nat} {v : Value} {d : Dk} (h : DiskAt w q v d) {T : List TypeId} (h1 : 71 ∉ T) (h2 : 5 ∉ T) : Odd (DkS q v) w T := by
  intro k t cs hk hb'
  rcases hk with rfl | hk
  · obtain rfl := blk_type hb' h.hd
    exact h1
  · obtain ⟨cs', fz, h3⟩ := h.buf.row k hk
    have h4 : w.heap[k]? = some (.cells cs t (0, 0)) := hb'
    rw [h4] at h3
    injection h3 with h3
    injection h3 with _ h3 _
    rw [h3]
    exact h2
/-- A head's blocks are none of a disk's. -/
theorem head_disk {w : World} {F : Nat → Prop} {hb mb : Nat} {D : DataW Unit} {L : List HLn} {q : Nat} {v : Value} {d : Dk} (h : HeadAt w F hb mb D L) (hd : DiskAt w q v d) : ∀ k, DkS q v k → ¬ HdS hb mb L k := by
  intro k hk hh
  have ho : Odd (HdS hb mb L) w [71, 5] := h.odd (by decide) (by decide) (by decide)
  rcases hk with rfl | hk
  · exact ho.not hd.hd (by simp) hh
  · have hu := hd.buf.row k hk
    rcases hh with rfl | rfl | ⟨x, hx, rfl | hk2⟩
    · exact hu.ne_blk h.hd (by decide) rfl
    · obtain ⟨es, clock, h1, _⟩ := h.mp
      obtain ⟨cs', fz, h3⟩ := hu
      rw [h3] at h1
      cases h1
    · exact hu.ne_blk (h.ln x hx).1 (by decide) rfl
    · rcases (h.ln x hx).2.1 with ⟨_, _, A, e⟩ | ⟨_, ho2⟩
      · rw [e] at hk2
        simp [ownZB, capOf] at hk2
      · obtain ⟨cs', hc⟩ := own_typed ho2 (ownZB_le hk2)
        exact hu.ne_blk hc (by decide) rfl
/-- A store in memory: its own block, its head, its disk, its blocks. -/
structure StAt (w : World) (q hb mb : Nat) (D : DataW Unit) (L : List HLn) (dq : Nat) (dv bv : Value) (Bl : List BkV) (S : StM) : Prop where
  hd : Blk w q 78 #[.pointer (some ⟨hb, 0, none⟩), .pointer (some ⟨dq, 0, none⟩), .int .i64 S.sp, .int .i64 S.kp, bv]
  he : HeadAt w (HdS hb mb L) hb mb D L
  ab : absL L = S.A
  dk : DiskAt w dq dv S.d
  bl : BksAt w bv Bl
  bm : Bl.map (fun b => ((b.fr, b.sp), b.rows)) = S.B
/-- The blocks of memory that a store lies in. -/
def StS (q hb mb : Nat) (L : List HLn) (dq : Nat) (dv bv : Value) (Bl : List BkV) (k : Nat) : Prop := k = q ∨ HdS hb mb L k ∨ DkS dq dv k ∨ BksS bv Bl k
/-- A step of a store: only its own blocks are written; what it lies in then was its own, or is new. -/
structure StStep (w w' : World) (G G' : Nat → Prop) : Prop where
  fr : Fr G w w'
  mv : ∀ k, G' k → G k ∨ w.heap.size ≤ k
theorem StStep.trans {w w1 w2 : World} {G G1 G2 : Nat → Prop} (h1 : StStep w w1 G G1) (h2 : StStep w1 w2 G1 G2) : StStep w w2 G G2 :=
  ⟨Fr.trans h1.fr h2.fr (fun i hi hk => (h1.mv i hk).elim id (fun h => by omega)), fun k hk => (h2.mv k hk).elim (fun h => h1.mv k h) (fun h => .inr (Nat.le_trans h1.fr.size h))⟩
theorem StStep.below {w w' : World} {G : Nat → Prop} (hb : Below w.heap.size w w') : StStep w w' G G := ⟨(Fr.ofBel hb).mono (fun _ _ h => h.elim), fun k hk => .inl hk⟩
section
variable {w w' : World} {q hb mb : Nat} {D : DataW Unit} {L : List HLn} {dq : Nat} {dv bv : Value} {Bl : List BkV} {S : StM}
theorem StAt.below (h : StAt w q hb mb D L dq dv bv Bl S) (hb' : Below w.heap.size w w') : StAt w' q hb mb D L dq dv bv Bl S :=
  ⟨h.hd.below hb' h.hd.lt, h.he.fr (Fr.ofBel hb') (fun _ _ h => h), h.ab, h.dk.below hb' (Nat.le_refl _), h.bl.below hb', h.bm⟩
/-- What other stores do. -/
theorem StAt.fr (h : StAt w q hb mb D L dq dv bv Bl S) {F : Nat → Prop} (hf : Fr F w w') (hn : ∀ k, StS q hb mb L dq dv bv Bl k → ¬ F k) : StAt w' q hb mb D L dq dv bv Bl S :=
  ⟨hf.blk h.hd (hn q (.inl rfl)), h.he.fr hf (fun k hk => hn k (.inr (.inl hk))), h.ab, h.dk.fr hf (fun k hk => hn k (.inr (.inr (.inl hk)))), h.bl.frS hf (fun k hk => hn k (.inr (.inr (.inr hk)))), h.bm⟩
/-- The head has turned. -/
theorem StAt.head (h : StAt w q hb mb D L dq dv bv Bl S) {F : Nat → Prop} {D' : DataW Unit} {L' : List HLn} (hh : HeadAt w' F hb mb D' L') (hf : Fr (HdS hb mb L) w w') : StAt w' q hb mb D' L' dq dv bv Bl ⟨absL L', S.d, S.sp, S.kp, S.B⟩ :=
  have ho : Odd (HdS hb mb L) w [78, 85, 9] := h.he.odd (by decide) (by decide) (by decide)
  ⟨hf.blk h.hd (ho.not h.hd (by simp)), hh.tight, rfl, h.dk.fr hf (head_disk h.he h.dk), h.bl.fr hf (ho.sub (by simp)), h.bm⟩
/-- The disk has turned. -/
theorem StAt.disk (h : StAt w q hb mb D L dq dv bv Bl S) {dv' : Value} {d' : Dk} (hd : DStep w w' dq dv dv' d') : StAt w' q hb mb D L dq dv' bv Bl ⟨S.A, d', S.sp, S.kp, S.B⟩ :=
  have ho : Odd (DkS dq dv) w [78, 85, 9] := h.dk.odd (by decide) (by decide)
  ⟨hd.fr.blk h.hd (ho.not h.hd (by simp)), h.he.fr hd.fr (fun k hk hk2 => head_disk h.he h.dk k hk2 hk), h.ab, hd.at_, h.bl.fr hd.fr (ho.sub (by simp)), h.bm⟩
end
end Go.Proofs.YthgefobcohlegaaGreatDoor

namespace Go.Proofs.YthgefobcohlegaaGreatDoor
open Go.RowKit
set_option linter.unusedVariables false

theorem merge_app : ∀ (a b : List (Int × Int)), (∀ p ∈ a, ∀ q ∈ b, p.1 < q.1) → mergeP a b = a ++ b
  | [], b, _ => by rw [mergeP]; rfl
  | a :: l1, [], _ => by rw [mergeP]; simp
  | a :: l1, b :: l2, h => by
    rw [merge_lt (h a List.mem_cons_self b List.mem_cons_self), merge_app l1 (b :: l2) fun p hp q hq => h p (List.mem_cons_of_mem _ hp) q hq]
    rfl
theorem ptsOf_sub {rows : List Rw} {s : Bs} {p : Int × Int} (h : p ∈ ptsOf rows s) : ∃ r ∈ rows, p ∈ r.2 := by
  unfold ptsOf at h
  split at h
  · rename_i r hr
    exact ⟨r, List.mem_of_find?_eq_some hr, h⟩
  · cases h
theorem allIn_mem {f e : Int} {l : List (Int × Int)} (h : allIn f e l = true) {p : Int × Int} (hp : p ∈ l) : f ≤ p.1 ∧ p.1 < e := by
  have := (List.all_eq_true.1 h) p hp
  unfold outB at this
  simp at this
  omega
/-- A block that Make gave, as an argument. -/
theorem Back.rows {fr sp : Int} {L : List Rw} (h : Back fr sp L) : (rowsR fr sp (nmsOf (encR L)) (chsOf (encR L))) = ((0, -1), L) := h.rd
end Go.Proofs.YthgefobcohlegaaGreatDoor

namespace Go.Proofs.YthgefobcohlegaaGreatDoor
open Go.RowKit
set_option linter.unusedVariables false

/-- One block is made of what has passed, or none: then why. -/
def mkStep (S : StM) (now : Int) : Option StM × (Nat × Int) :=
  match firstH S.A with
  | none => (none, (0, -1))
  | some at_ =>
    if now < at_ - at_ % S.sp + S.sp then (none, (0, -1)) else
    if (stretchR S.A (at_ - at_ % S.sp) (at_ - at_ % S.sp + S.sp - 1)).any (fun r => decide (120 < r.2.length)) = true then (none, (7, -1)) else
    if (makeR (at_ - at_ % S.sp) S.sp (stretchR S.A (at_ - at_ % S.sp) (at_ - at_ % S.sp + S.sp - 1))).1.1 ≠ 0 then (none, (makeR (at_ - at_ % S.sp) S.sp (stretchR S.A (at_ - at_ % S.sp) (at_ - at_ % S.sp + S.sp - 1))).1) else
    if hCutR S.A (at_ - at_ % S.sp + S.sp) = [] then (none, (5, -1)) else
    (some ⟨hCut S.A (at_ - at_ % S.sp + S.sp), S.d, S.sp, S.kp, S.B ++ [((at_ - at_ % S.sp, S.sp), stretchR S.A (at_ - at_ % S.sp) (at_ - at_ % S.sp + S.sp - 1))]⟩, (0, -1))
def makeL : Nat → StM → Int → Nat → StM × Nat × (Nat × Int)
  | 0, S, _, n => (S, n, (0, -1))
  | k + 1, S, now, n => match mkStep S now with
    | (some S', _) => makeL k S' now (n + 1)
    | (none, f) => (S, n, f)
/-- The log of these entries, one behind the other, until one falls. -/
def anewL : Dk → List En → Dk × (Nat × Int)
  | d, [] => (d, (0, -1))
  | d, e :: l => if (apF d e).1 ≠ 0 then (apD d e, apF d e) else anewL (apD d e) l
def anewD (d : Dk) (A : List HA) : Dk × (Nat × Int) := if d.off = true then (d, (10, -1)) else anewL ⟨[], false, d.cut⟩ (logOf A)
def hPts (A : List HA) (s : Bs) : List (Int × Int) := match hFind A s with
  | some x => x.2.1
  | none => []
theorem hPts_of {A : List HA} (hs : hSrt A) {x : HA} (hx : x ∈ A) : hPts A x.1 = x.2.1 := by
  unfold hPts
  rw [hFind_of_mem hs hx]
theorem hPts_no {A : List HA} {s : Bs} (h : ∀ x ∈ A, x.1 ≠ s) : hPts A s = [] := by
  unfold hPts
  cases hf : hFind A s with
  | none => rfl
  | some x => exact absurd (hFind_mem hf).2 (h x (hFind_mem hf).1)
theorem hPts_add {A : List HA} (hs : hSrt A) (s : Bs) (p : Int × Int) (s' : Bs) : hPts (hAdd A s p) s' = if s' = s then hPts A s ++ [p] else hPts A s' := by
  have hs2 : hSrt (hAdd A s p) := hAdd_srt hs
  cases hf : hFind A s with
  | some x =>
    obtain ⟨hx, hxs⟩ := hFind_mem hf
    have hA : hAdd A s p = hPut A s p := by unfold hAdd; rw [hf]
    rw [hA] at hs2 ⊢
    by_cases e : s' = s
    · rw [if_pos e, e]
      have hm : (s, x.2.1 ++ [p], p.1) ∈ hPut A s p := List.mem_map.2 ⟨x, hx, by rw [if_pos (by simpa using hxs)]⟩
      have h1 := hPts_of hs2 hm
      rw [show hPts A s = x.2.1 by unfold hPts; rw [hf]]
      exact h1
    · rw [if_neg e]
      by_cases hex : ∃ y ∈ A, y.1 = s'
      · obtain ⟨y, hy, rfl⟩ := hex
        have hm : y ∈ hPut A s p := List.mem_map.2 ⟨y, hy, by rw [if_neg (by simpa using e)]⟩
        rw [hPts_of hs2 hm, hPts_of hs hy]
      · have hno : ∀ y ∈ A, y.1 ≠ s' := fun y hy h => hex ⟨y, hy, h⟩
        rw [hPts_no hno, hPts_no fun y hy => ?_]
        obtain ⟨z, hz, rfl⟩ := List.mem_map.1 hy
        split
        · exact fun h => e h.symm
        · exact hno z hz
  | none =>
    have hno := hFind_none hf
    have hA : hAdd A s p = hIns A (s, [p], p.1) := by unfold hAdd; rw [hf]
    rw [hA] at hs2 ⊢
    by_cases e : s' = s
    · rw [if_pos e, e, hPts_no hno]
      exact hPts_of hs2 (x := (s, [p], p.1)) (hIns_mem.2 (.inl rfl))
    · rw [if_neg e]
      by_cases hex : ∃ y ∈ A, y.1 = s'
      · obtain ⟨y, hy, rfl⟩ := hex
        rw [hPts_of hs2 (hIns_mem.2 (.inr hy)), hPts_of hs hy]
      · have hno' : ∀ y ∈ A, y.1 ≠ s' := fun y hy h => hex ⟨y, hy, h⟩
        rw [hPts_no hno', hPts_no fun y hy => ?_]
        rcases hIns_mem.1 hy with rfl | hy
        · exact fun h => e h.symm
        · exact hno' y hy
theorem hPts_cut {A : List HA} (hs : hSrt A) (b : Int) (s : Bs) : hPts (hCut A b) s = hLeft b (hPts A s) := by
  have hs2 : hSrt (hCut A b) := hCut_srt hs
  by_cases hex : ∃ y ∈ A, y.1 = s
  · obtain ⟨y, hy, rfl⟩ := hex
    have hm : (y.1, hLeft b y.2.1, y.2.2) ∈ hCut A b := List.mem_map.2 ⟨y, hy, rfl⟩
    rw [hPts_of hs hy]
    exact hPts_of hs2 hm
  · have hno : ∀ y ∈ A, y.1 ≠ s := fun y hy h => hex ⟨y, hy, h⟩
    rw [hPts_no hno, hPts_no fun y hy => ?_]
    · rfl
    · obtain ⟨z, hz, rfl⟩ := List.mem_map.1 hy
      exact hno z hz
theorem gone_bet {f b : Int} : ∀ {l : List (Int × Int)}, l.Pairwise (fun p q => p.1 < q.1) → (∀ p ∈ l, f ≤ p.1) → betL f (b - 1) l = hGone b l
  | [], _, _ => rfl
  | a :: l, h, hf => by
    have ih := gone_bet (f := f) (b := b) (List.pairwise_cons.1 h).2 (fun p hp => hf p (List.mem_cons_of_mem _ hp))
    have ha := hf a List.mem_cons_self
    unfold betL hGone at ih ⊢
    rw [List.filter_cons, List.takeWhile_cons]
    by_cases h1 : a.1 < b
    · rw [if_pos (by simp; omega), if_pos (by simpa using h1), ih]
    · rw [if_neg (by simp; omega), if_neg (by simpa using h1)]
      refine List.filter_eq_nil_iff.2 fun p hp => ?_
      have := (List.pairwise_cons.1 h).1 p hp
      simp; omega
theorem left_ge {b : Int} : ∀ {l : List (Int × Int)}, l.Pairwise (fun p q => p.1 < q.1) → ∀ p ∈ hLeft b l, b ≤ p.1
  | [], _, p, hp => by cases hp
  | a :: l, h, p, hp => by
    unfold hLeft at hp
    rw [List.dropWhile_cons] at hp
    by_cases h1 : a.1 < b
    · rw [if_pos (by simpa using h1)] at hp
      exact left_ge (List.pairwise_cons.1 h).2 p hp
    · rw [if_neg (by simpa using h1)] at hp
      rcases List.mem_cons.1 hp with rfl | hp
      · omega
      · have := (List.pairwise_cons.1 h).1 p hp
        omega
/-- A stretch's points of a series. -/
theorem stretch_pts {A : List HA} (hs : hSrt A) (f t : Int) (s : Bs) : ptsOf (stretchR A f t) s = betL f t (hPts A s) := by
  by_cases hex : ∃ y ∈ A, y.1 = s
  · obtain ⟨y, hy, rfl⟩ := hex
    rw [hPts_of hs hy]
    by_cases hc : betL f t y.2.1 = []
    · rw [hc]
      refine ptsOf_none fun r hr => ?_
      obtain ⟨h1, h2⟩ := List.mem_filter.1 hr
      obtain ⟨z, hz, rfl⟩ := List.mem_map.1 h1
      intro e
      have := hFind_of_mem hs hz
      rw [show z.1 = y.1 from e, hFind_of_mem hs hy] at this
      injection this with this
      subst this
      simp [hc] at h2
    · have hm : (y.1, betL f t y.2.1) ∈ stretchR A f t := List.mem_filter.2 ⟨List.mem_map.2 ⟨y, hy, rfl⟩, by simpa using hc⟩
      obtain ⟨k, hk, e⟩ := List.getElem_of_mem hm
      unfold ptsOf
      cases hf : (stretchR A f t).find? fun r => decide (r.1 = y.1) with
      | none => exact absurd hm (fun hm => by have := List.find?_eq_none.1 hf _ hm; simp at this)
      | some r =>
        have h1 : r.1 = y.1 := by simpa using List.find?_some hf
        obtain ⟨h2, _⟩ := List.mem_filter.1 (List.mem_of_find?_eq_some hf)
        obtain ⟨z, hz, rfl⟩ := List.mem_map.1 h2
        have := hFind_of_mem hs hz
        rw [show z.1 = y.1 from h1, hFind_of_mem hs hy] at this
        injection this with this
        subst this
        rfl
  · have hno : ∀ y ∈ A, y.1 ≠ s := fun y hy h => hex ⟨y, hy, h⟩
    rw [hPts_no hno]
    refine ptsOf_none fun r hr => ?_
    obtain ⟨z, hz, rfl⟩ := List.mem_map.1 (List.mem_filter.1 hr).1
    exact hno z hz
end Go.Proofs.YthgefobcohlegaaGreatDoor
