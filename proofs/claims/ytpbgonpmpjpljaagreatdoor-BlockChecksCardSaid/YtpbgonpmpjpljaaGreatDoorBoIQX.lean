/- What stands between the rounds of the functions that make a block of the reference's: two results' blocks, the block that grows. -/
import Derived.Test.YtpbgonpmpjpljaaGreatDoorMkeX
import Derived.Test.YtpbgonpmpjpljaaGreatDoorMkrX
import Derived.Test.YtpbgonpmpjpljaaGreatDoorMkvX
import Derived.Test.YtpbgonpmpjpljaaGreatDoorBlkMakeQX
namespace Go.Proofs.YtpbgonpmpjpljaaGreatDoor
open Go.RowKit
set_option linter.unusedVariables false

/-- BlockOf's answer. -/
def RBPost (R : RdB) (w : World) (e : Ending) (w' : World) : Prop :=
  ∃ u1 u2, e = .returned (.tuple #[.agg #[.int .i64 R.2.1.1, .int .i64 R.2.1.2, u1, u2], fV R.1]) ∧
    Pair w' w.heap.size 9 u1 R.2.2.length (txS R.2.2) u2 R.2.2.length (chS R.2.2) ∧ Below w.heap.size w w'
theorem RB.bad {R : RdB} {w w' : World} {e : Ending} (h : R = ((1, -1), (0, 0), [])) (he : e = .returned (.tuple #[.agg #[.int .i64 0, .int .i64 0, .slice none 0 0, .slice none 0 0], .agg #[.int .i64 1, .int .i64 (-1)]])) (hb : Below w.heap.size w w') : RBPost R w e w' := by
  subst h
  exact ⟨_, _, he, Pair.nil _ _ _, hb⟩
/-- The two results' blocks. -/
structure BoI (w W : World) : Prop where
  bq : Blk W w.heap.size 24 #[.int .i64 0, .int .i64 0, .slice none 0 0, .slice none 0 0]
  bf : Blk W (w.heap.size + 1) 29 #[.int .i64 0, .int .i64 0]
  bl : Below w.heap.size w W
theorem BoI.below {w W W' : World} (h : BoI w W) (hb : Below W.heap.size W W') : BoI w W' := ⟨h.bq.below hb h.bq.lt, h.bf.below hb h.bf.lt, Below.call h.bl hb h.bl.size⟩
theorem bo_set {w W W' : World} (h : BoI w W) (hb : Below W.heap.size W W') (u0 u1 u2 u3 c0 c1 : Value) :
    Blk ((((((W'.setCell ⟨w.heap.size, 0, none⟩ u0).setCell ⟨w.heap.size, 1, none⟩ u1).setCell ⟨w.heap.size, 2, none⟩ u2).setCell ⟨w.heap.size, 3, none⟩ u3).setCell ⟨w.heap.size + 1, 0, none⟩ c0).setCell ⟨w.heap.size + 1, 1, none⟩ c1) w.heap.size 24 #[u0, u1, u2, u3] ∧
    Blk ((((((W'.setCell ⟨w.heap.size, 0, none⟩ u0).setCell ⟨w.heap.size, 1, none⟩ u1).setCell ⟨w.heap.size, 2, none⟩ u2).setCell ⟨w.heap.size, 3, none⟩ u3).setCell ⟨w.heap.size + 1, 0, none⟩ c0).setCell ⟨w.heap.size + 1, 1, none⟩ c1) (w.heap.size + 1) 29 #[c0, c1] ∧
    Below w.heap.size w ((((((W'.setCell ⟨w.heap.size, 0, none⟩ u0).setCell ⟨w.heap.size, 1, none⟩ u1).setCell ⟨w.heap.size, 2, none⟩ u2).setCell ⟨w.heap.size, 3, none⟩ u3).setCell ⟨w.heap.size + 1, 0, none⟩ c0).setCell ⟨w.heap.size + 1, 1, none⟩ c1) := by
  have h' := h.below hb
  obtain ⟨h1, h2⟩ := set4 (Nat.le_refl _) h'.bl h'.bq u0 u1 u2 u3
  have hf := (((h'.bf.far (p := ⟨w.heap.size, 0, none⟩) (Nat.succ_ne_self _) u0).far (p := ⟨w.heap.size, 1, none⟩) (Nat.succ_ne_self _) u1).far (p := ⟨w.heap.size, 2, none⟩) (Nat.succ_ne_self _) u2).far (p := ⟨w.heap.size, 3, none⟩) (Nat.succ_ne_self _) u3
  obtain ⟨h3, h4⟩ := set2 (Nat.le_succ _) h2 hf c0 c1
  exact ⟨(h1.far (p := ⟨w.heap.size + 1, 0, none⟩) (fun e => Nat.succ_ne_self _ e.symm) c0).far (p := ⟨w.heap.size + 1, 1, none⟩) (fun e => Nat.succ_ne_self _ e.symm) c1, h3, h4⟩
theorem Rd.str {W : World} {B n : Nat} {A : Option Addr} {l : List Bs} (h : Rd W B 1 A n (strL l)) {i : Nat} (hi : i < n) : ∃ b o p, A = some ⟨b, o, none⟩ ∧ b < B ∧ l[i]? = some p ∧ W.cell? ⟨b, o + i, none⟩ = some (.string (B8 p)) := Rd.at1 (f := fun x : Bs => Value.string (B8 x)) h hi
theorem rowsR_zero {f sp : Int} {N : List Bs} {K : List (List Nat)} (h : (rowsR f sp N K).1.1 = 0) : (rowsR f sp N K).1 = (0, -1) := by
  unfold rowsR at h ⊢
  split at h
  · cases h
  rename_i h1
  split at h
  · cases h
  rename_i h2
  split at h
  · cases h
  rename_i h3
  rw [if_neg h1, if_neg h2, if_neg h3]
  split at h
  · exact absurd h (Nat.succ_ne_zero _)
  · rfl
theorem txS_snoc (L : List (Bs × List Nat)) (x : Bs × List Nat) : txS (L ++ [x]) = txS L ++ [.string (B8 x.1)] := by unfold txS; rw [List.map_append]; rfl
theorem chS_snoc (L : List (Bs × List Nat)) (x : Bs × List Nat) : chS (L ++ [x]) = chS L ++ [.string (bytesOf x.2)] := by unfold chS; rw [List.map_append]; rfl
theorem bo_setB {w W : World} (h : BoI w W) (u0 u1 u2 u3 c0 c1 : Value) :
    Blk ((((((W.setCell ⟨w.heap.size + 1, 0, none⟩ c0).setCell ⟨w.heap.size + 1, 1, none⟩ c1).setCell ⟨w.heap.size, 0, none⟩ u0).setCell ⟨w.heap.size, 1, none⟩ u1).setCell ⟨w.heap.size, 2, none⟩ u2).setCell ⟨w.heap.size, 3, none⟩ u3) w.heap.size 24 #[u0, u1, u2, u3] ∧
    Blk ((((((W.setCell ⟨w.heap.size + 1, 0, none⟩ c0).setCell ⟨w.heap.size + 1, 1, none⟩ c1).setCell ⟨w.heap.size, 0, none⟩ u0).setCell ⟨w.heap.size, 1, none⟩ u1).setCell ⟨w.heap.size, 2, none⟩ u2).setCell ⟨w.heap.size, 3, none⟩ u3) (w.heap.size + 1) 29 #[c0, c1] ∧
    Below w.heap.size w ((((((W.setCell ⟨w.heap.size + 1, 0, none⟩ c0).setCell ⟨w.heap.size + 1, 1, none⟩ c1).setCell ⟨w.heap.size, 0, none⟩ u0).setCell ⟨w.heap.size, 1, none⟩ u1).setCell ⟨w.heap.size, 2, none⟩ u2).setCell ⟨w.heap.size, 3, none⟩ u3) := by
  obtain ⟨h3, h4⟩ := set2 (Nat.le_succ _) h.bl h.bf c0 c1
  have hq := (h.bq.far (p := ⟨w.heap.size + 1, 0, none⟩) (fun e => Nat.succ_ne_self _ e.symm) c0).far (p := ⟨w.heap.size + 1, 1, none⟩) (fun e => Nat.succ_ne_self _ e.symm) c1
  obtain ⟨h1, h2⟩ := set4 (Nat.le_refl _) h4 hq u0 u1 u2 u3
  exact ⟨h1, (((h3.far (p := ⟨w.heap.size, 0, none⟩) (Nat.succ_ne_self _) u0).far (p := ⟨w.heap.size, 1, none⟩) (Nat.succ_ne_self _) u1).far (p := ⟨w.heap.size, 2, none⟩) (Nat.succ_ne_self _) u2).far (p := ⟨w.heap.size, 3, none⟩) (Nat.succ_ne_self _) u3, h2⟩
/-- A block that is neither of the results' stands behind the stores too. -/
theorem bo_far {w W : World} {f : Nat} {t : TypeId} {v0 v1 : Value} (h : Blk W f t #[v0, v1]) (hf : f ≠ w.heap.size) (u0 u1 u2 u3 : Value) :
    ((((((W.setCell ⟨w.heap.size, 0, none⟩ u0).setCell ⟨w.heap.size, 1, none⟩ u1).setCell ⟨w.heap.size, 2, none⟩ u2).setCell ⟨w.heap.size, 3, none⟩ u3).cell? ⟨f, 0, none⟩ = some v0 ∧
      ((((W.setCell ⟨w.heap.size, 0, none⟩ u0).setCell ⟨w.heap.size, 1, none⟩ u1).setCell ⟨w.heap.size, 2, none⟩ u2).setCell ⟨w.heap.size, 3, none⟩ u3).cell? ⟨f, 1, none⟩ = some v1)) ∧
    (((((W.setCell ⟨w.heap.size, 0, none⟩ u0).setCell ⟨w.heap.size, 1, none⟩ u1).setCell ⟨w.heap.size, 2, none⟩ u2).setCell ⟨w.heap.size, 3, none⟩ u3).drew.cell? ⟨f, 0, none⟩ = some v0 ∧
      ((((W.setCell ⟨w.heap.size, 0, none⟩ u0).setCell ⟨w.heap.size, 1, none⟩ u1).setCell ⟨w.heap.size, 2, none⟩ u2).setCell ⟨w.heap.size, 3, none⟩ u3).drew.cell? ⟨f, 1, none⟩ = some v1) := by
  have hx := (((h.far (p := ⟨w.heap.size, 0, none⟩) hf u0).far (p := ⟨w.heap.size, 1, none⟩) hf u1).far (p := ⟨w.heap.size, 2, none⟩) hf u2).far (p := ⟨w.heap.size, 3, none⟩) hf u3
  exact ⟨(cells2 hx).1, (cells2 hx.drew).1⟩
theorem bo_far4 {w W : World} {f : Nat} {t : TypeId} {v0 v1 v2 v3 : Value} (h : Blk W f t #[v0, v1, v2, v3]) (hf : f ≠ w.heap.size + 1) (c0 c1 : Value) :
    (((W.setCell ⟨w.heap.size + 1, 0, none⟩ c0).setCell ⟨w.heap.size + 1, 1, none⟩ c1).cell? ⟨f, 0, none⟩ = some v0 ∧ ((W.setCell ⟨w.heap.size + 1, 0, none⟩ c0).setCell ⟨w.heap.size + 1, 1, none⟩ c1).cell? ⟨f, 1, none⟩ = some v1 ∧ ((W.setCell ⟨w.heap.size + 1, 0, none⟩ c0).setCell ⟨w.heap.size + 1, 1, none⟩ c1).cell? ⟨f, 2, none⟩ = some v2 ∧ ((W.setCell ⟨w.heap.size + 1, 0, none⟩ c0).setCell ⟨w.heap.size + 1, 1, none⟩ c1).cell? ⟨f, 3, none⟩ = some v3) ∧
    (((W.setCell ⟨w.heap.size + 1, 0, none⟩ c0).setCell ⟨w.heap.size + 1, 1, none⟩ c1).drew.cell? ⟨f, 0, none⟩ = some v0 ∧ ((W.setCell ⟨w.heap.size + 1, 0, none⟩ c0).setCell ⟨w.heap.size + 1, 1, none⟩ c1).drew.cell? ⟨f, 1, none⟩ = some v1 ∧ ((W.setCell ⟨w.heap.size + 1, 0, none⟩ c0).setCell ⟨w.heap.size + 1, 1, none⟩ c1).drew.cell? ⟨f, 2, none⟩ = some v2 ∧ ((W.setCell ⟨w.heap.size + 1, 0, none⟩ c0).setCell ⟨w.heap.size + 1, 1, none⟩ c1).drew.cell? ⟨f, 3, none⟩ = some v3) := by
  have hx := (h.far (p := ⟨w.heap.size + 1, 0, none⟩) hf c0).far (p := ⟨w.heap.size + 1, 1, none⟩) hf c1
  exact ⟨(cells4 hx).1, (cells4 hx.drew).1⟩
/-- What stands between two rounds: the results' blocks, the block that grows, the pieces. -/
structure RM (w W : World) (g : Nat) (o4 : Array Value) (pv : Value) (n : Nat) (ps : List Bs) (v1 : Value) (n1 : Nat) (xs1 : List Value) (v2 : Value) (n2 : Nat) (xs2 : List Value) : Prop where
  iv : BoI w W
  ob : Blk W g 24 o4
  pr : Pair W w.heap.size 9 v1 n1 xs1 v2 n2 xs2
  pc : W.ownsRow w.heap.size 9 1 pv n (strL ps)
  p1 : ∀ k, v1.ownBlock = some k → pv.ownBlock ≠ some k
  p2 : ∀ k, v2.ownBlock = some k → pv.ownBlock ≠ some k
  g0 : w.heap.size ≤ g
  g1 : w.heap.size + 1 < g
section
variable {w W W' Wm wa : World} {g n n1 n2 m : Nat} {o4 : Array Value} {u0 u1 y1 y2 pv v1 v2 v' : Value} {xs1 xs2 ys : List Value} {ps : List Bs}
theorem RM.below (h : RM w W g o4 pv n ps v1 n1 xs1 v2 n2 xs2) (hb : Below W.heap.size W W') : RM w W' g o4 pv n ps v1 n1 xs1 v2 n2 xs2 :=
  ⟨h.iv.below hb, h.ob.below hb h.ob.lt, h.pr.fr (Fr.ofBel hb), own_below h.pc hb (Nat.le_refl _), h.p1, h.p2, h.g0, h.g1⟩
theorem RM.cell {bp op c i : Nat} {p : Bs} (h : RM w W g o4 (.slice (some ⟨bp, op, none⟩) n c) n ps v1 n1 xs1 v2 n2 xs2) (hp : ps[i]? = some p) : W.cell? ⟨bp, op + i, none⟩ = some (.string (B8 p)) := by
  have hl : ps.length = n := by have := h.pc.1; unfold strL at this; simpa using this
  have hi : i < n := by rw [← hl]; exact (List.getElem?_eq_some_iff.1 hp).1
  obtain ⟨b, o, q, e, _, hq, hx⟩ := (Rd.of_own h.pc).str hi
  injection e with e
  injection e with e e2
  subst e; subst e2
  rw [hp] at hq
  obtain rfl := Option.some.inj hq
  exact hx
theorem RM.set6 (h : RM w W g o4 pv n ps v1 n1 xs1 v2 n2 xs2) (t0 t1 t2 t3 c0 c1 : Value) : Pair ((((((W.setCell ⟨w.heap.size, 0, none⟩ t0).setCell ⟨w.heap.size, 1, none⟩ t1).setCell ⟨w.heap.size, 2, none⟩ t2).setCell ⟨w.heap.size, 3, none⟩ t3).setCell ⟨w.heap.size + 1, 0, none⟩ c0).setCell ⟨w.heap.size + 1, 1, none⟩ c1) w.heap.size 9 v1 n1 xs1 v2 n2 xs2 := by
  have a1 := own_ne_blk h.pr.l h.iv.bq (by decide)
  have a2 := own_ne_blk h.pr.r h.iv.bq (by decide)
  have b1 := own_ne_blk h.pr.l h.iv.bf (by decide)
  have b2 := own_ne_blk h.pr.r h.iv.bf (by decide)
  exact (((((h.pr.set (p := ⟨w.heap.size, 0, none⟩) a1 a2 t0).set (p := ⟨w.heap.size, 1, none⟩) a1 a2 t1).set (p := ⟨w.heap.size, 2, none⟩) a1 a2 t2).set (p := ⟨w.heap.size, 3, none⟩) a1 a2 t3).set (p := ⟨w.heap.size + 1, 0, none⟩) b1 b2 c0).set (p := ⟨w.heap.size + 1, 1, none⟩) b1 b2 c1
/-- The left slice grows, and is stored. -/
theorem RM.left (h : RM w W g #[u0, u1, v1, v2] pv n ps v1 n1 xs1 v2 n2 xs2) (hf : Fr (fun _ => False) W Wm) (hg : Wm.grownBy wa v1.ownBlock) (ho : wa.ownsRow w.heap.size 9 1 v' m ys) (hat : v'.ownBlock = v1.ownBlock ∨ v'.ownBlock = some Wm.heap.size) :
    (wa.cell? ⟨g, 2, none⟩ = some v1 ∧ wa.frozen? ⟨g, 2, none⟩ = false) ∧ RM w (wa.setCell ⟨g, 2, none⟩ v') g #[u0, u1, v', v2] pv n ps v' m ys v2 n2 xs2 := by
  have hb : Below W.heap.size W Wm := hf.below (Nat.le_refl _) (fun _ _ h => h)
  have hm := h.below hb
  have hne := own_ne_blk hm.pr.l hm.ob (by decide)
  have hgo := hm.ob.grown hg hne
  have hq := hm.iv.bq.grown hg (own_ne_blk hm.pr.l hm.iv.bq (by decide))
  have hfb := hm.iv.bf.grown hg (own_ne_blk hm.pr.l hm.iv.bf (by decide))
  have hpr := hm.pr.left (Fr.refl _ _) hg ho hat
  have hpc : wa.ownsRow w.heap.size 9 1 pv n (strL ps) := by
    have hfr : Fr (fun k => v1.ownBlock = some k) Wm wa := (Fr.refl _ Wm).grown hg (fun k hk => .inr hk)
    exact hfr.own hm.pc (fun k hk e => hm.p1 k e hk)
  have hbl : Below w.heap.size w wa := Below.grown hm.iv.bl hg hm.iv.bl.size (fun k e => (own_lt hm.pr.l k e).1)
  have hp1 : ∀ k, v'.ownBlock = some k → pv.ownBlock ≠ some k := fun k hk e => by
    rcases hat with h1 | h1
    · rw [h1] at hk; exact hm.p1 k hk e
    · rw [h1] at hk; injection hk with hk; have := (own_lt hm.pc k e).2; omega
  have e1 := own_ne_blk hpr.l hgo (by decide)
  have e2 := own_ne_blk hpr.r hgo (by decide)
  have e3 := own_ne_blk hpc hgo (by decide)
  refine ⟨⟨hgo.cell 2, hgo.frozen 2⟩, ⟨⟨hq.far (p := ⟨g, 2, none⟩) (by have := h.g1; simp only; omega) v', hfb.far (p := ⟨g, 2, none⟩) (by have := h.g1; simp only; omega) v', Below.setCell hbl (p := ⟨g, 2, none⟩) h.g0 v'⟩, hgo.set_ 2 v', hpr.set (p := ⟨g, 2, none⟩) e1 e2 v', own_set hpc (p := ⟨g, 2, none⟩) e3 v', hp1, h.p2, h.g0, h.g1⟩⟩
/-- The right slice grows, and is stored. -/
theorem RM.right (h : RM w W g #[u0, u1, v1, v2] pv n ps v1 n1 xs1 v2 n2 xs2) (hf : Fr (fun _ => False) W Wm) (hg : Wm.grownBy wa v2.ownBlock) (ho : wa.ownsRow w.heap.size 9 1 v' m ys) (hat : v'.ownBlock = v2.ownBlock ∨ v'.ownBlock = some Wm.heap.size) :
    (wa.cell? ⟨g, 3, none⟩ = some v2 ∧ wa.frozen? ⟨g, 3, none⟩ = false) ∧ RM w (wa.setCell ⟨g, 3, none⟩ v') g #[u0, u1, v1, v'] pv n ps v1 n1 xs1 v' m ys := by
  have hb : Below W.heap.size W Wm := hf.below (Nat.le_refl _) (fun _ _ h => h)
  have hm := h.below hb
  have hne := own_ne_blk hm.pr.r hm.ob (by decide)
  have hgo := hm.ob.grown hg hne
  have hq := hm.iv.bq.grown hg (own_ne_blk hm.pr.r hm.iv.bq (by decide))
  have hfb := hm.iv.bf.grown hg (own_ne_blk hm.pr.r hm.iv.bf (by decide))
  have hpr := hm.pr.right (Fr.refl _ _) hg ho hat
  have hpc : wa.ownsRow w.heap.size 9 1 pv n (strL ps) := by
    have hfr : Fr (fun k => v2.ownBlock = some k) Wm wa := (Fr.refl _ Wm).grown hg (fun k hk => .inr hk)
    exact hfr.own hm.pc (fun k hk e => hm.p2 k e hk)
  have hbl : Below w.heap.size w wa := Below.grown hm.iv.bl hg hm.iv.bl.size (fun k e => (own_lt hm.pr.r k e).1)
  have hp2 : ∀ k, v'.ownBlock = some k → pv.ownBlock ≠ some k := fun k hk e => by
    rcases hat with h1 | h1
    · rw [h1] at hk; exact hm.p2 k hk e
    · rw [h1] at hk; injection hk with hk; have := (own_lt hm.pc k e).2; omega
  have e1 := own_ne_blk hpr.l hgo (by decide)
  have e2 := own_ne_blk hpr.r hgo (by decide)
  have e3 := own_ne_blk hpc hgo (by decide)
  refine ⟨⟨hgo.cell 3, hgo.frozen 3⟩, ⟨⟨hq.far (p := ⟨g, 3, none⟩) (by have := h.g1; simp only; omega) v', hfb.far (p := ⟨g, 3, none⟩) (by have := h.g1; simp only; omega) v', Below.setCell hbl (p := ⟨g, 3, none⟩) h.g0 v'⟩, hgo.set_ 3 v', hpr.set (p := ⟨g, 3, none⟩) e1 e2 v', own_set hpc (p := ⟨g, 3, none⟩) e3 v', h.p1, hp2, h.g0, h.g1⟩⟩
end
end Go.Proofs.YtpbgonpmpjpljaaGreatDoor
