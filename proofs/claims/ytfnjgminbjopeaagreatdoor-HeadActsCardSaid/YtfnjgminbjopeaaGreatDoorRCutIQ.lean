/- The reference's set of points in memory; what a round of Cut does with it. -/
import Derived.Test.YtfnjgminbjopeaaGreatDoorRHead2Q
import Derived.Test.YtfnjgminbjopeaaGreatDoorRAdd2Q
namespace Go.Proofs.YtfnjgminbjopeaaGreatDoor
open Go.RowKit
set_option linter.unusedVariables false

/-- Points in memory. -/
structure PtV where
  v : Value
  pts : List (Int × Int)
structure SetAt (w : World) (G : Nat → Prop) (sb : Nat) (sv lv : Value) (N : List Bs) (R : List PtV) : Prop where
  hd : Blk w sb 50 #[sv, lv]
  nms : w.ownsRow 0 9 1 sv N.length (txC N)
  rows : w.ownsRow 0 52 1 lv R.length (R.map fun r => r.v)
  pts : ∀ r ∈ R, w.ownsRow 0 32 2 r.v r.pts.length (ptsC r.pts)
  gh : G sb
  gs : ∀ k, sv.ownBlock = some k → G k
  gl : ∀ k, lv.ownBlock = some k → G k
  gp : ∀ r ∈ R, ∀ k, r.v.ownBlock = some k → G k
theorem SetAt.fr {S G : Nat → Prop} {w w' : World} {sb : Nat} {sv lv : Value} {N : List Bs} {R : List PtV} (h : SetAt w G sb sv lv N R) (hf : Fr S w w') (hn : ∀ k, G k → ¬ S k) : SetAt w' G sb sv lv N R :=
  ⟨hf.blk h.hd (hn _ h.gh), hf.own h.nms (fun k hk => hn k (h.gs k hk)), hf.own h.rows (fun k hk => hn k (h.gl k hk)), fun x hx => hf.own (h.pts x hx) (fun k hk => hn k (h.gp x hx k hk)), h.gh, h.gs, h.gl, h.gp⟩
theorem SetAt.below {G : Nat → Prop} {w w' : World} {sb : Nat} {sv lv : Value} {N : List Bs} {R : List PtV} (h : SetAt w G sb sv lv N R) (hf : Below w.heap.size w w') : SetAt w' G sb sv lv N R :=
  h.fr (Fr.ofBelow hf) (fun _ _ h => h)
theorem SetAt.mono {G G' : Nat → Prop} {w : World} {sb : Nat} {sv lv : Value} {N : List Bs} {R : List PtV} (h : SetAt w G sb sv lv N R) (hG : ∀ k, G k → G' k) : SetAt w G' sb sv lv N R :=
  ⟨h.hd, h.nms, h.rows, h.pts, hG _ h.gh, fun k hk => hG _ (h.gs k hk), fun k hk => hG _ (h.gl k hk), fun x hx k hk => hG _ (h.gp x hx k hk)⟩
/-- The blocks of S that were there have other types than these. -/
def Strange (S : Nat → Prop) (w : World) (T : List TypeId) : Prop := ∀ k, S k → k < w.heap.size → ∃ t cs, Blk w k t cs ∧ t ∉ T
theorem Strange.not {S : Nat → Prop} {w : World} {T : List TypeId} (h : Strange S w T) {k : Nat} {t : TypeId} {cs : Array Value} (hb : Blk w k t cs) (ht : t ∈ T) : ¬ S k := by
  intro hk
  obtain ⟨t', cs', hb', hn⟩ := h k hk hb.lt
  obtain rfl := blk_type hb hb'
  exact hn ht
theorem Strange.notOwn {S : Nat → Prop} {w : World} {T : List TypeId} (h : Strange S w T) {base : Nat} {e : TypeId} {size n : Nat} {v : Value} {xs : List Value} (ho : w.ownsRow base e size v n xs) (ht : e ∈ T) : ∀ k, v.ownBlock = some k → ¬ S k := by
  intro k hk
  obtain ⟨cs, hc⟩ := own_typed ho hk
  exact h.not hc ht
theorem Strange.own {w : World} {base : Nat} {e : TypeId} {size n : Nat} {v : Value} {xs : List Value} {T : List TypeId} (ho : w.ownsRow base e size v n xs) (ht : e ∉ T) : Strange (fun k => v.ownBlock = some k) w T := by
  intro k hk _
  obtain ⟨cs, hc⟩ := own_typed ho hk
  exact ⟨e, cs, hc, ht⟩
theorem Strange.blk {w : World} {g : Nat} {e : TypeId} {cs : Array Value} {T : List TypeId} (hb : Blk w g e cs) (ht : e ∉ T) : Strange (fun k => k = g) w T := by
  intro k hk _
  subst hk
  exact ⟨e, cs, hb, ht⟩
theorem SetAt.frT {S G : Nat → Prop} {w w' : World} {sb : Nat} {sv lv : Value} {N : List Bs} {R : List PtV} (h : SetAt w G sb sv lv N R) (hf : Fr S w w') (hS : Strange S w [50, 9, 52, 32]) : SetAt w' G sb sv lv N R :=
  ⟨hf.blk h.hd (hS.not h.hd (by simp)), hf.own h.nms (hS.notOwn h.nms (by simp)), hf.own h.rows (hS.notOwn h.rows (by simp)), fun x hx => hf.own (h.pts x hx) (hS.notOwn (h.pts x hx) (by simp)), h.gh, h.gs, h.gl, h.gp⟩
theorem RefAt.frT {S G : Nat → Prop} {w w' : World} {b : Nat} {lv : Value} {L : List RLn} (h : RefAt w G b lv L) (hf : Fr S w w') (hS : Strange S w [29, 72, 32]) : RefAt w' G b lv L :=
  ⟨hf.blk h.hd (hS.not h.hd (by simp)), hf.own h.rows (hS.notOwn h.rows (by simp)), fun x hx => hf.own (h.pts x hx) (hS.notOwn (h.pts x hx) (by simp)), h.gh, h.gl, h.gp⟩
/-- A name more. -/
theorem SetAt.name {G : Nat → Prop} {w w' : World} {sb : Nat} {sv sv' lv : Value} {N : List Bs} {R : List PtV} (h : SetAt w G sb sv lv N R) {s : Bs} (hf : Fr (fun k => sv.ownBlock = some k) w w') {base : Nat} (ho : w'.ownsRow base 9 1 sv' (N.length + 1) (txC N ++ [.string (B8 s)])) (hG : ∀ k, sv'.ownBlock = some k → G k) :
    SetAt (w'.setCell ⟨sb, 0, none⟩ sv') G sb sv' lv (N ++ [s]) R ∧ Fr (fun k => k = sb) w' (w'.setCell ⟨sb, 0, none⟩ sv') := by
  have hz : Fr (fun k => k = sb) w' (w'.setCell ⟨sb, 0, none⟩ sv') := Fr.setCell (S := fun k => k = sb) (Fr.refl _ _) (p := ⟨sb, 0, none⟩) (.inr rfl) sv'
  have hst : Strange (fun k => sv.ownBlock = some k) w [50, 52, 32] := Strange.own h.nms (by decide)
  have hb' := hf.blk h.hd (hst.not h.hd (by simp))
  have hsb : Strange (fun k => k = sb) w' [9, 52, 32] := Strange.blk hb' (by decide)
  have hr' := hf.own h.rows (hst.notOwn h.rows (by simp))
  refine ⟨⟨hb'.set_ 0 sv', ?_, hz.own hr' (hsb.notOwn hr' (by simp)), fun x hx => ?_, h.gh, hG, h.gl, h.gp⟩, hz⟩
  · rw [List.length_append, List.length_singleton, txC_snoc]
    have ho0 := own_base ho (Nat.zero_le _)
    exact hz.own ho0 (hsb.notOwn ho0 (by simp))
  · have hp' := hf.own (h.pts x hx) (hst.notOwn (h.pts x hx) (by simp))
    exact hz.own hp' (hsb.notOwn hp' (by simp))
/-- Points more. -/
theorem SetAt.row {G : Nat → Prop} {w w' : World} {sb : Nat} {sv lv lv' : Value} {N : List Bs} {R : List PtV} (h : SetAt w G sb sv lv N R) {r : PtV} (hf : Fr (fun k => lv.ownBlock = some k) w w') {base : Nat} (ho : w'.ownsRow base 52 1 lv' (R.length + 1) ((R.map fun r => r.v) ++ [r.v])) (hG : ∀ k, lv'.ownBlock = some k → G k)
    {base' : Nat} (hp : w.ownsRow base' 32 2 r.v r.pts.length (ptsC r.pts)) (hgp : ∀ k, r.v.ownBlock = some k → G k) :
    SetAt (w'.setCell ⟨sb, 1, none⟩ lv') G sb sv lv' N (R ++ [r]) ∧ Fr (fun k => k = sb) w' (w'.setCell ⟨sb, 1, none⟩ lv') := by
  have hz : Fr (fun k => k = sb) w' (w'.setCell ⟨sb, 1, none⟩ lv') := Fr.setCell (S := fun k => k = sb) (Fr.refl _ _) (p := ⟨sb, 1, none⟩) (.inr rfl) lv'
  have hst : Strange (fun k => lv.ownBlock = some k) w [50, 9, 32] := Strange.own h.rows (by decide)
  have hb' := hf.blk h.hd (hst.not h.hd (by simp))
  have hsb : Strange (fun k => k = sb) w' [9, 52, 32] := Strange.blk hb' (by decide)
  have hn' := hf.own h.nms (hst.notOwn h.nms (by simp))
  refine ⟨⟨hb'.set_ 1 lv', hz.own hn' (hsb.notOwn hn' (by simp)), ?_, fun x hx => ?_, h.gh, h.gs, hG, fun x hx => ?_⟩, hz⟩
  · rw [List.length_append, List.length_singleton, List.map_append]
    have ho0 := own_base ho (Nat.zero_le _)
    exact hz.own ho0 (hsb.notOwn ho0 (by simp))
  · rcases List.mem_append.1 hx with hx | hx
    · have hp' := hf.own (h.pts x hx) (hst.notOwn (h.pts x hx) (by simp))
      exact hz.own hp' (hsb.notOwn hp' (by simp))
    · obtain rfl := List.mem_singleton.1 hx
      have hp0 := own_base hp (Nat.zero_le _)
      have hp' := hf.own hp0 (hst.notOwn hp0 (by simp))
      exact hz.own hp' (hsb.notOwn hp' (by simp))
  · rcases List.mem_append.1 hx with hx | hx
    · exact h.gp x hx
    · obtain rfl := List.mem_singleton.1 hx
      exact hgp
theorem SetAt.new {w : World} : SetAt (w.alloc (.cells #[.slice none 0 0, .slice none 0 0] 50)) (fun k => w.heap.size ≤ k) w.heap.size (.slice none 0 0) (.slice none 0 0) [] [] :=
  ⟨Blk.new _ _ _, World.ownsRow_nil _ _ _ _, World.ownsRow_nil _ _ _ _, fun r h => (by cases h), Nat.le_refl _, fun k h => (by cases h), fun k h => (by cases h), fun r h => (by cases h)⟩

/- plain -/
theorem filt_gone {b : Int} {l : List (Int × Int)} (h : l.Pairwise fun p q => p.1 < q.1) : l.filter (fun p => decide (p.1 < b)) = hGone b l ∧ l.filter (fun p => !decide (p.1 < b)) = hLeft b l := by
  induction l with
  | nil => exact ⟨rfl, rfl⟩
  | cons x l ih =>
    have h' := List.pairwise_cons.1 h
    obtain ⟨i1, i2⟩ := ih h'.2
    unfold hGone at i1 ⊢
    unfold hLeft at i2 ⊢
    rw [List.filter_cons, List.filter_cons, List.takeWhile_cons, List.dropWhile_cons]
    by_cases hx : x.1 < b
    · have d1 : decide (x.1 < b) = true := decide_eq_true hx
      rw [d1]
      exact ⟨congrArg (x :: ·) i1, i2⟩
    · have d1 : decide (x.1 < b) = false := decide_eq_false hx
      rw [d1]
      refine ⟨?_, ?_⟩
      · show l.filter (fun p => decide (p.1 < b)) = []
        apply List.filter_eq_nil_iff.2
        intro y hy
        have := h'.1 y hy
        simp; omega
      · show x :: l.filter (fun p => !decide (p.1 < b)) = x :: l
        congr 1
        apply List.filter_eq_self.2
        intro y hy
        have := h'.1 y hy
        simp; omega
theorem cutR_snoc {A : List HA} {b : Int} {k : Nat} {x : HA} (h : A[k]? = some x) : hCutR (A.take (k + 1)) b = hCutR (A.take k) b ++ if hGone b x.2.1 = [] then [] else [(x.1, hGone b x.2.1)] := by
  unfold hCutR
  rw [List.take_add_one, h, List.filter_append, List.map_append]
  congr 1
  by_cases h : hGone b x.2.1 = []
  · simp [h]
  · simp [h]
theorem absR_set (L : List RLn) (k : Nat) (y : RLn) : absR (L.set k y) = (absR L).set k (y.nm, y.pts, y.last) := by unfold absR; rw [List.map_set]
/-- As far as Cut has come. -/
def cutTo (A : List HA) (b : Int) (k : Nat) : List HA := (hCut A b).take k ++ A.drop k
theorem cutTo_zero (A : List HA) (b : Int) : cutTo A b 0 = A := rfl
theorem cutTo_all (A : List HA) (b : Int) {k : Nat} (h : A.length ≤ k) : cutTo A b k = hCut A b := by
  unfold cutTo
  rw [List.take_of_length_le (by unfold hCut; rw [List.length_map]; exact h), List.drop_of_length_le h, List.append_nil]
theorem cutTo_get {A : List HA} {b : Int} {k : Nat} {x : HA} (h : A[k]? = some x) : (cutTo A b k)[k]? = some x := by
  have hk := (List.getElem?_eq_some_iff.1 h).1
  unfold cutTo
  have hl : ((hCut A b).take k).length = k := by rw [List.length_take]; unfold hCut; rw [List.length_map]; omega
  rw [List.getElem?_append_right (by omega), hl, Nat.sub_self, List.getElem?_drop]
  exact h
theorem cutTo_set {A : List HA} {b : Int} {k : Nat} {x : HA} (h : A[k]? = some x) : (cutTo A b k).set k (x.1, hLeft b x.2.1, x.2.2) = cutTo A b (k + 1) := by
  have hk := (List.getElem?_eq_some_iff.1 h).1
  unfold cutTo
  have hl : ((hCut A b).take k).length = k := by rw [List.length_take]; unfold hCut; rw [List.length_map]; omega
  have hc : (hCut A b)[k]? = some (x.1, hLeft b x.2.1, x.2.2) := by unfold hCut; rw [List.getElem?_map, h]; rfl
  rw [List.set_append_right _ _ (by omega), hl, Nat.sub_self, take_snoc hc, List.append_assoc]
  congr 1
  rw [List.drop_eq_getElem_cons hk]
  rfl
/-- Names and points stand for these rows. -/
def SetIs (N : List Bs) (R : List PtV) (S : List (Bs × List (Int × Int))) : Prop := N = S.map (·.1) ∧ R.map (·.pts) = S.map (·.2)
theorem SetIs.len {N : List Bs} {R : List PtV} {S : List (Bs × List (Int × Int))} (h : SetIs N R S) : N.length = S.length ∧ R.length = S.length := by
  have h2 := congrArg List.length h.2
  rw [List.length_map, List.length_map] at h2
  exact ⟨by rw [h.1, List.length_map], h2⟩
theorem SetIs.snoc {N : List Bs} {R : List PtV} {S : List (Bs × List (Int × Int))} (h : SetIs N R S) (s : Bs) (r : PtV) : SetIs (N ++ [s]) (R ++ [r]) (S ++ [(s, r.pts)]) := by
  refine ⟨?_, ?_⟩
  · rw [List.map_append, ← h.1]; rfl
  · rw [List.map_append, List.map_append, h.2]; rfl
theorem cutR_le (A : List HA) (b : Int) (k : Nat) : (hCutR (A.take k) b).length ≤ k := by
  unfold hCutR
  rw [List.length_map]
  exact Nat.le_trans (List.length_filter_le _ _) (List.length_take_le _ _)
theorem infoSl : (Tryz.prog.info? 52).map (fun i => (i.zero, i.size, i.bytes)) = some (some (.slice none 0 0), 1, 24) := by kernel_rfl
theorem filt_one {b : Int} {l : List (Int × Int)} {k : Nat} {p : Int × Int} (h : l[k]? = some p) (f : (Int × Int) → Bool) : (l.take (k + 1)).filter f = (l.take k).filter f ++ if f p = true then [p] else [] := by
  rw [take_snoc h, List.filter_append]
  congr 1
  by_cases hf : f p = true
  · simp [hf]
  · simp [hf]
theorem ptsC_snoc (l : List (Int × Int)) (p : Int × Int) : ptsC (l ++ [p]) = ptsC l ++ [.int .i64 p.1, .int .u64 p.2] := by simp [ptsC]
/-- A line is stored: what that does to a set beside it. -/
theorem SetAt.store {G : Nat → Prop} {w : World} {sb g k : Nat} {sv lv : Value} {N : List Bs} {R : List PtV} (h : SetAt w G sb sv lv N R) {cs : Array Value} (hg : Blk w g 72 cs) (u0 u1 u2 : Value) :
    SetAt (((w.setCell ⟨g, k, none⟩ u0).setCell ⟨g, k + 1, none⟩ u1).setCell ⟨g, k + 2, none⟩ u2) G sb sv lv N R :=
  h.frT (Fr.setCell (S := fun j => j = g) (Fr.setCell (S := fun j => j = g) (Fr.setCell (S := fun j => j = g) (Fr.refl _ _) (p := ⟨g, k, none⟩) (.inr rfl) u0) (p := ⟨g, k + 1, none⟩) (.inr rfl) u1) (p := ⟨g, k + 2, none⟩) (.inr rfl) u2) (Strange.blk hg (by decide))
end Go.Proofs.YtfnjgminbjopeaaGreatDoor
