/- label.Order by its contract. -/
import Derived.Test.YtlpkmghhmpkddaaDoorStab
import Derived.Test.YtlpkmghhmpkddaaDoorLabSum
import Derived.Test.YtlpkmghhmpkddaaDoorCBare
import Derived.Deep.DeepCutAuto
import Derived.Deep.Light
import Derived.BigRegion
import Derived.BigQuiet
import Derived.Laws.OwnMore
namespace Go.Proofs.YtlpkmghhmpkddaaDoor
open Go.RowKit
set_option linter.unusedVariables false

/-- Labels in memory. -/
structure LabV where
  v : Value
  l : List Lb
def LabsRd (w : World) (B : Nat) (A : Option Addr) (n : Nat) (ls : List LabV) : Prop :=
  Rd w B 1 A n (ls.map fun r => r.v) ∧ ∀ r ∈ ls, ∃ A' c', r.v = .slice A' r.l.length c' ∧ Rd w B 2 A' r.l.length (lbC r.l)
theorem LabsRd.below {w w' : World} {B C : Nat} {A : Option Addr} {n : Nat} {ls : List LabV} (h : LabsRd w B A n ls) (hb : Below C w w') (hC : B ≤ C) : LabsRd w' B A n ls :=
  ⟨h.1.belowOf hb hC, fun r hr => by obtain ⟨A', c', h1, h2⟩ := h.2 r hr; exact ⟨A', c', h1, h2.belowOf hb hC⟩⟩
theorem LabsRd.more {w : World} {B B' : Nat} {A : Option Addr} {n : Nat} {ls : List LabV} (h : LabsRd w B A n ls) (hC : B ≤ B') : LabsRd w B' A n ls :=
  ⟨h.1.more hC, fun r hr => by obtain ⟨A', c', h1, h2⟩ := h.2 r hr; exact ⟨A', c', h1, h2.more hC⟩⟩
theorem LabsRd.len {w : World} {B : Nat} {A : Option Addr} {n : Nat} {ls : List LabV} (h : LabsRd w B A n ls) : ls.length = n := by have := h.1.1; simpa using this
/-- The first labels that are wrong: number and place. -/
def frstL (ls : List (List Lb)) : Nat → Nat × Int
  | 0 => (0, -1)
  | k + 1 => if (frstL ls k).1 ≠ 0 then frstL ls k else if (lbF (ls.getD k [])).1 ≠ 0 then ((lbF (ls.getD k [])).1, (k : Int)) else (0, -1)
theorem frstL_stop {ls : List (List Lb)} {k : Nat} (h : (frstL ls k).1 ≠ 0) : ∀ m, k ≤ m → frstL ls m = frstL ls k := by
  intro m hm
  obtain ⟨d, rfl⟩ : ∃ d, m = k + d := ⟨m - k, by omega⟩
  clear hm
  induction d with
  | zero => rfl
  | succ d ih =>
    show (if (frstL ls (k + d)).1 ≠ 0 then frstL ls (k + d) else if (lbF (ls.getD (k + d) [])).1 ≠ 0 then ((lbF (ls.getD (k + d) [])).1, ((k + d : Nat) : Int)) else (0, -1)) = _
    rw [ih, if_pos h]
theorem frstL_hit {ls : List (List Lb)} {k n : Nat} {x : List Lb} (h : (frstL ls k).1 = 0) (hx : ls[k]? = some x) (hf : (lbF x).1 ≠ 0) (hn : k < n) : frstL ls n = ((lbF x).1, (k : Int)) := by
  have e : ls.getD k [] = x := by rw [List.getD_eq_getElem?_getD, hx]; rfl
  have h1 : frstL ls (k + 1) = ((lbF x).1, (k : Int)) := by
    unfold frstL
    rw [if_neg (by rw [h]; exact fun q => q rfl), e, if_pos hf]
  rw [frstL_stop (k := k + 1) (by rw [h1]; exact hf) n hn, h1]
theorem frstL_next {ls : List (List Lb)} {k : Nat} {x : List Lb} (h : (frstL ls k).1 = 0) (hx : ls[k]? = some x) (hf : (lbF x).1 = 0) : frstL ls (k + 1) = (0, -1) := by
  have e : ls.getD k [] = x := by rw [List.getD_eq_getElem?_getD, hx]; rfl
  unfold frstL
  rw [if_neg (by rw [h]; exact fun q => q rfl), e, if_neg (by rw [hf]; exact fun q => q rfl)]
theorem frstL_zero {ls : List (List Lb)} : ∀ {k : Nat}, (frstL ls k).1 = 0 → frstL ls k = (0, -1)
  | 0, _ => rfl
  | k + 1, h => by
    unfold frstL at h ⊢
    split
    · rename_i h1; rw [if_pos h1] at h; exact absurd h h1
    · rename_i h1
      rw [if_neg h1] at h
      split
      · rename_i h2; rw [if_pos h2] at h; exact absurd h h2
      · rfl
/-- What is wrong with lists of labels that are to be ordered. -/
def ordF (ls : List (List Lb)) : Nat × Int := if 60 < ls.length then (2, -1) else frstL ls ls.length
def OrdPost (es : Nat → Addr) (ls : List (List Lb)) (w : World) (e : Ending) (w' : World) : Prop :=
  ∃ u v, e = .returned (.tuple #[u, v]) ∧ EV es w.heap.size w' v (ordF ls) ∧ ((ordF ls).1 ≠ 0 → u = .slice none 0 0) ∧
    ((ordF ls).1 = 0 → ∃ g M, u = .slice (some ⟨g, 0, none⟩) ls.length ls.length ∧ Blk w' g 3 (nC M) ∧ M.Perm (List.range ls.length) ∧ M.Pairwise (pre (tOf (ls.map textL)))) ∧ Below w.heap.size w w'
/-- The texts and the numbers that stand behind k rounds. -/
def txK (ls : List (List Lb)) (k : Nat) : List Bs := (ls.take k).map textL ++ List.replicate (ls.length - k) []
def nuK (n k : Nat) : List Nat := List.range k ++ List.replicate (n - k) 0
theorem txK_len (ls : List (List Lb)) (k : Nat) (h : k ≤ ls.length) : (txK ls k).length = ls.length := by
  unfold txK; rw [List.length_append, List.length_map, List.length_take, List.length_replicate]; omega
theorem txK_all (ls : List (List Lb)) : txK ls ls.length = ls.map textL := by unfold txK; rw [List.take_length, Nat.sub_self]; simp
theorem nuK_all (n : Nat) : nuK n n = List.range n := by unfold nuK; rw [Nat.sub_self]; simp
theorem txK_set {ls : List (List Lb)} {k : Nat} {x : List Lb} (hx : ls[k]? = some x) : (txK ls k).set k (textL x) = txK ls (k + 1) := by
  obtain ⟨h1, h2⟩ := List.getElem?_eq_some_iff.1 hx
  unfold txK
  have l1 : ((ls.take k).map textL).length = k := by rw [List.length_map, List.length_take]; omega
  obtain ⟨d, hd⟩ : ∃ d, ls.length - k = d + 1 := ⟨ls.length - k - 1, by omega⟩
  rw [hd, show ls.length - (k + 1) = d by omega, List.replicate_succ]
  conv => lhs; rw [show k = ((ls.take k).map textL).length from l1.symm]
  rw [l1]
  conv => lhs; arg 2; rw [← l1]
  rw [set_mid, take_snoc hx, List.map_append]
  simp
theorem nuK_set {n k : Nat} (h : k < n) : (nuK n k).set k k = nuK n (k + 1) := by
  unfold nuK
  have l1 : (List.range k).length = k := List.length_range ..
  obtain ⟨d, hd⟩ : ∃ d, n - k = d + 1 := ⟨n - k - 1, by omega⟩
  rw [hd, show n - (k + 1) = d by omega, List.replicate_succ]
  have := set_mid (List.range k) 0 k (List.replicate d 0)
  rw [l1] at this
  rw [this, List.range_succ]
  simp
/-- What stands between two rounds. -/
structure OrdI (w W : World) (g pt tb : Nat) (T : List Bs) (F : List Nat) : Prop where
  s : SrtW W pt tb T
  f : Blk W g 3 (nC F)
  np : g ≠ pt
  nb : g ≠ tb
  pb : pt ≠ tb
  g0 : w.heap.size ≤ g
  t0 : w.heap.size ≤ tb
  bl : Below w.heap.size w W
theorem OrdI.below {w W W' : World} {g pt tb : Nat} {T : List Bs} {F : List Nat} (h : OrdI w W g pt tb T F) (hb : Below W.heap.size W W') : OrdI w W' g pt tb T F :=
  ⟨h.s.below hb, h.f.below hb h.f.lt, h.np, h.nb, h.pb, h.g0, h.t0, Below.call h.bl hb h.bl.size⟩
theorem txC_put {W : World} {tb : Nat} {T : List Bs} (h : Blk W tb 9 (txC T).toArray) (i : Nat) (s : Bs) : Blk (W.setCell ⟨tb, i, none⟩ (.string (B8 s))) tb 9 (txC (T.set i s)).toArray := by
  have e : (txC (T.set i s)).toArray = (txC T).toArray.setIfInBounds i (.string (B8 s)) := by unfold txC; simp
  rw [e]
  exact h.set_ i _
/-- A round's two stores. -/
theorem OrdI.put {w W : World} {g pt tb : Nat} {T : List Bs} {F : List Nat} (h : OrdI w W g pt tb T F) (i : Nat) (s : Bs) (x : Nat) (hT : (T.set i s).length = T.length) :
    OrdI w ((W.setCell ⟨tb, i, none⟩ (.string (B8 s))).setCell ⟨g, i, none⟩ (.int .i64 (x : Int))) g pt tb (T.set i s) (F.set i x) := by
  refine ⟨⟨?_, ?_⟩, ?_, h.np, h.nb, h.pb, h.g0, h.t0, ?_⟩
  · rw [hT]
    exact (h.s.p.far (p := ⟨tb, i, none⟩) h.pb _).far (p := ⟨g, i, none⟩) (fun e => h.np e.symm) _
  · exact (txC_put h.s.b i s).far (p := ⟨g, i, none⟩) (fun e => h.nb e.symm) _
  · exact nC_put (h.f.far (p := ⟨tb, i, none⟩) h.nb _) i x
  · exact Below.setCell (Below.setCell h.bl (p := ⟨tb, i, none⟩) h.t0 _) (p := ⟨g, i, none⟩) h.g0 _
theorem newE2 {X : World} {g : Nat} {t : TypeId} {cs : Array Value} (hg : g = X.heap.size) : Blk (X.alloc (.cells cs t)) g t cs := by subst hg; exact Blk.new X t cs
theorem ord_mk {w W : World} {g pt tb n : Nat} {L : List (List Lb)} (hL : L.length = n) (h1 : Blk W pt 59 #[.slice (some ⟨tb, 0, none⟩) n n]) (h2 : Blk W tb 9 (txC (List.replicate n [])).toArray) (h3 : Blk W g 3 (nC (List.replicate n 0))) (d1 : g ≠ pt) (d2 : g ≠ tb) (d3 : pt ≠ tb) (b1 : w.heap.size ≤ g) (b2 : w.heap.size ≤ tb) (hb : Below w.heap.size w W) : OrdI w W g pt tb (txK L 0) (nuK n 0) := by
  have e1 : txK L 0 = List.replicate n [] := by unfold txK; rw [List.take_zero, Nat.sub_zero, hL]; rfl
  have e2 : nuK n 0 = List.replicate n 0 := by unfold nuK; rw [Nat.sub_zero]; rfl
  rw [e1, e2]
  exact ⟨⟨by rw [List.length_replicate]; exact h1, h2⟩, h3, d1, d2, d3, b1, b2, hb⟩
theorem ord_w1 {w : World} {n : Nat} {L : List (List Lb)} (hL : L.length = n) : OrdI w (((w.alloc (.cells (txC (List.replicate n [])).toArray 9)).alloc (.cells (nC (List.replicate n 0)) 3)).alloc (.cells #[.slice (some ⟨w.heap.size, 0, none⟩) n n] 59)).drew (w.heap.size + 1) (w.heap.size + 1 + 1) (w.heap.size) (txK L 0) (nuK n 0) :=
  ord_mk hL (newE2 (X := ((w.alloc (.cells (txC (List.replicate n [])).toArray 9)).alloc (.cells (nC (List.replicate n 0)) 3))) (by simp)).drew (Blk.alloc (Blk.alloc (newE2 (X := w) (by simp)) _) _).drew (Blk.alloc (newE2 (X := (w.alloc (.cells (txC (List.replicate n [])).toArray 9))) (by simp)) _).drew (by omega) (by omega) (by omega) (by omega) (by omega) (Below.alloc (Below.alloc (Below.alloc (Below.refl _ _) (Nat.le_refl _) _) (by simp only [World.size_alloc]; omega) _) (by simp only [World.size_alloc]; omega) _).drew
theorem ord_w2 {w : World} {n : Nat} {L : List (List Lb)} (hL : L.length = n) : OrdI w (((w.alloc (.cells (txC (List.replicate n [])).toArray 9)).alloc (.cells #[.slice (some ⟨w.heap.size, 0, none⟩) n n] 59)).alloc (.cells (nC (List.replicate n 0)) 3)).drew (w.heap.size + 1 + 1) (w.heap.size + 1) (w.heap.size) (txK L 0) (nuK n 0) :=
  ord_mk hL (Blk.alloc (newE2 (X := (w.alloc (.cells (txC (List.replicate n [])).toArray 9))) (by simp)) _).drew (Blk.alloc (Blk.alloc (newE2 (X := w) (by simp)) _) _).drew (newE2 (X := ((w.alloc (.cells (txC (List.replicate n [])).toArray 9)).alloc (.cells #[.slice (some ⟨w.heap.size, 0, none⟩) n n] 59))) (by simp)).drew (by omega) (by omega) (by omega) (by omega) (by omega) (Below.alloc (Below.alloc (Below.alloc (Below.refl _ _) (Nat.le_refl _) _) (by simp only [World.size_alloc]; omega) _) (by simp only [World.size_alloc]; omega) _).drew
theorem ord_w3 {w : World} {n : Nat} {L : List (List Lb)} (hL : L.length = n) : OrdI w (((w.alloc (.cells (nC (List.replicate n 0)) 3)).alloc (.cells (txC (List.replicate n [])).toArray 9)).alloc (.cells #[.slice (some ⟨w.heap.size + 1, 0, none⟩) n n] 59)).drew (w.heap.size) (w.heap.size + 1 + 1) (w.heap.size + 1) (txK L 0) (nuK n 0) :=
  ord_mk hL (newE2 (X := ((w.alloc (.cells (nC (List.replicate n 0)) 3)).alloc (.cells (txC (List.replicate n [])).toArray 9))) (by simp)).drew (Blk.alloc (newE2 (X := (w.alloc (.cells (nC (List.replicate n 0)) 3))) (by simp)) _).drew (Blk.alloc (Blk.alloc (newE2 (X := w) (by simp)) _) _).drew (by omega) (by omega) (by omega) (by omega) (by omega) (Below.alloc (Below.alloc (Below.alloc (Below.refl _ _) (Nat.le_refl _) _) (by simp only [World.size_alloc]; omega) _) (by simp only [World.size_alloc]; omega) _).drew
theorem ord_w4 {w : World} {n : Nat} {L : List (List Lb)} (hL : L.length = n) : OrdI w (((w.alloc (.cells (nC (List.replicate n 0)) 3)).alloc (.cells #[.slice (some ⟨w.heap.size + 1 + 1, 0, none⟩) n n] 59)).alloc (.cells (txC (List.replicate n [])).toArray 9)).drew (w.heap.size) (w.heap.size + 1) (w.heap.size + 1 + 1) (txK L 0) (nuK n 0) :=
  ord_mk hL (Blk.alloc (newE2 (X := (w.alloc (.cells (nC (List.replicate n 0)) 3))) (by simp)) _).drew (newE2 (X := ((w.alloc (.cells (nC (List.replicate n 0)) 3)).alloc (.cells #[.slice (some ⟨w.heap.size + 1 + 1, 0, none⟩) n n] 59))) (by simp)).drew (Blk.alloc (Blk.alloc (newE2 (X := w) (by simp)) _) _).drew (by omega) (by omega) (by omega) (by omega) (by omega) (Below.alloc (Below.alloc (Below.alloc (Below.refl _ _) (Nat.le_refl _) _) (by simp only [World.size_alloc]; omega) _) (by simp only [World.size_alloc]; omega) _).drew
theorem ord_w5 {w : World} {n : Nat} {L : List (List Lb)} (hL : L.length = n) : OrdI w (((w.alloc (.cells #[.slice (some ⟨w.heap.size + 1, 0, none⟩) n n] 59)).alloc (.cells (txC (List.replicate n [])).toArray 9)).alloc (.cells (nC (List.replicate n 0)) 3)).drew (w.heap.size + 1 + 1) (w.heap.size) (w.heap.size + 1) (txK L 0) (nuK n 0) :=
  ord_mk hL (Blk.alloc (Blk.alloc (newE2 (X := w) (by simp)) _) _).drew (Blk.alloc (newE2 (X := (w.alloc (.cells #[.slice (some ⟨w.heap.size + 1, 0, none⟩) n n] 59))) (by simp)) _).drew (newE2 (X := ((w.alloc (.cells #[.slice (some ⟨w.heap.size + 1, 0, none⟩) n n] 59)).alloc (.cells (txC (List.replicate n [])).toArray 9))) (by simp)).drew (by omega) (by omega) (by omega) (by omega) (by omega) (Below.alloc (Below.alloc (Below.alloc (Below.refl _ _) (Nat.le_refl _) _) (by simp only [World.size_alloc]; omega) _) (by simp only [World.size_alloc]; omega) _).drew
theorem ord_w6 {w : World} {n : Nat} {L : List (List Lb)} (hL : L.length = n) : OrdI w (((w.alloc (.cells #[.slice (some ⟨w.heap.size + 1 + 1, 0, none⟩) n n] 59)).alloc (.cells (nC (List.replicate n 0)) 3)).alloc (.cells (txC (List.replicate n [])).toArray 9)).drew (w.heap.size + 1) (w.heap.size) (w.heap.size + 1 + 1) (txK L 0) (nuK n 0) :=
  ord_mk hL (Blk.alloc (Blk.alloc (newE2 (X := w) (by simp)) _) _).drew (newE2 (X := ((w.alloc (.cells #[.slice (some ⟨w.heap.size + 1 + 1, 0, none⟩) n n] 59)).alloc (.cells (nC (List.replicate n 0)) 3))) (by simp)).drew (Blk.alloc (newE2 (X := (w.alloc (.cells #[.slice (some ⟨w.heap.size + 1 + 1, 0, none⟩) n n] 59))) (by simp)) _).drew (by omega) (by omega) (by omega) (by omega) (by omega) (Below.alloc (Below.alloc (Below.alloc (Below.refl _ _) (Nat.le_refl _) _) (by simp only [World.size_alloc]; omega) _) (by simp only [World.size_alloc]; omega) _).drew
theorem sortStable_any (g N c pt tb : Nat) (T : List Bs) (w : World) (hW : SymW w w g pt tb T (List.range N)) (hT : T.length ≤ 100000) (hN2 : N ≤ 1000) :
    Calls Tryd.prog 25 #[.slice (some ⟨g, 0, none⟩) N c, cmpV pt] w fun e w' => e = .returned (.tuple #[]) ∧ ∃ M, (M.Perm (List.range N) ∧ M.Pairwise (pre (tOf T))) ∧ SrtTo w w' g M := by
  have Hs := Lib.hid (stab_any g N c pt tb T w hW hT hN2)
  clear hW hT
  go_enter Tryd.func25, Tryd.ntmps25
  go_wp2_with fail
  refine Hs.out.mono ?_
  rintro e w2 ⟨rfl, hM⟩
  have HM := Lib.hid hM
  clear hM
  go_wp2
  go_end0
  exact ⟨rfl, HM.out⟩
theorem infoInt1 : (Tryd.prog.info? 3).map (fun i => (i.zero, i.size, i.bytes)) = some (some (.int .i64 0), 1, 8) := by kernel_rfl
theorem infoSt1 : (Tryd.prog.info? 9).map (fun i => (i.zero, i.size, i.bytes)) = some (some (.string ⟨#[]⟩), 1, 16) := by kernel_rfl
theorem made_tx (n : Nat) : madeCells #[.string ⟨#[]⟩] n = (txC (List.replicate n [])).toArray := by
  apply Array.toList_inj.1
  rw [toList_madeCells_one]
  unfold txC
  simp
  exact .inr rfl
theorem made_nu (n : Nat) : madeCells #[.int .i64 0] n = nC (List.replicate n 0) := by
  apply Array.toList_inj.1
  rw [toList_madeCells_one]
  unfold nC
  simp
theorem mk_tx (n : Nat) (hn : n ≤ 1000) (W : World) : (Instr.makeSlice 59 (.int .i64 (n : Int)) (.int .i64 (n : Int))).run Tryd.prog W = .ok (.slice (some ⟨W.heap.size, 0, none⟩) n n) (W.alloc (.cells (txC (List.replicate n [])).toArray 9)) := by
  obtain ⟨i, hi, hz0, hz1, hz2⟩ := info_parts infoSt1
  have := run_make (P := Tryd.prog) W 59 9 i (.string ⟨#[]⟩) Tryd.underlying59 hi hz0 .i64 .i64 (n : Int) (n : Int) (by omega) (Int.le_refl _) (by rw [hz2]; omega) (by omega)
  rw [hz1, Int.toNat_natCast, Nat.mul_one] at this
  rw [this, ← made_tx]; rfl
theorem mk_nu (n : Nat) (hn : n ≤ 1000) (W : World) : (Instr.makeSlice 43 (.int .i64 (n : Int)) (.int .i64 (n : Int))).run Tryd.prog W = .ok (.slice (some ⟨W.heap.size, 0, none⟩) n n) (W.alloc (.cells (nC (List.replicate n 0)) 3)) := by
  obtain ⟨i, hi, hz0, hz1, hz2⟩ := info_parts infoInt1
  have := run_make (P := Tryd.prog) W 43 3 i (.int .i64 0) Tryd.underlying43 hi hz0 .i64 .i64 (n : Int) (n : Int) (by omega) (Int.le_refl _) (by rw [hz2]; omega) (by omega)
  rw [hz1, Int.toNat_natCast, Nat.mul_one] at this
  rw [this, ← made_nu]; rfl
set_option maxRecDepth 100000 in
set_option maxHeartbeats 40000000 in
theorem order_any {es : Nat → Addr} {B : Nat} (A : Option Addr) (n c : Nat) (ls : List LabV) (w : World) (hS : SBk es B w) (hB0 : B ≤ w.heap.size) (hA : LabsRd w w.heap.size A n ls) :
    Calls Tryd.prog 13 #[.slice A n c] w fun e w' => OrdPost es (ls.map fun r => r.l) w e w' := by
  have Hlen := Lib.hid hA.len
  have Hg := Lib.hid (fun W (hb : Below w.heap.size w W) => show W.cell? ⟨0, 0, none⟩ = some (sentV (es 1)) from (hS.below hb hB0).var 1 (by decide))
  have HSb := Lib.hid (fun W (hb : Below w.heap.size w W) => hS.below hb hB0)
  have HB0 := Lib.hid (fun W (hb : Below w.heap.size w W) => Nat.le_trans hB0 hb.size)
  have HA := Lib.hid (fun W (hb : Below w.heap.size w W) => hA.below hb (Nat.le_refl _))
  have g0 := Hg.out w (Below.refl _ _)
  clear hA hS hB0
  obtain ⟨L, hL⟩ : ∃ L, L = ls.map fun r => r.l := ⟨_, rfl⟩
  have HL := Lib.hid hL
  have HLl := Lib.hid (show L.length = n by rw [hL, List.length_map, Hlen.out])
  rw [← hL]
  clear hL
  by_cases h60 : 60 < n
  · have h60' : (60 : Int) < n := by omega
    have Hr := Lib.hid (show ordF L = (2, -1) by unfold ordF; rw [if_pos (by rw [HLl.out]; exact h60)])
    clear h60
    go_enter Tryd.func13, Tryd.ntmps13
    go_wp2
    go_quiet (fail)
    go_wp2
    go_ret2
    exact ⟨_, _, rfl, .inr (.inl ⟨1, by decide, Hr.out, rfl⟩), fun _ => rfl, fun h => by rw [Hr.out] at h; exact absurd h (by decide), Below.drewN (Below.refl _ _) nq⟩
  have h60' : ¬ (60 : Int) < n := by omega
  have Hr := Lib.hid (show ordF L = frstL L n by unfold ordF; rw [if_neg (by rw [HLl.out]; exact h60), HLl.out])
  have m1 := mk_tx n (by omega)
  have m2 := mk_nu n (by omega)
  go_enter Tryd.func13, Tryd.ntmps13
  go_upto_region 3 with fail
  go_cut [4, 5] (fun s4 s5 wx => ∃ g pt tb, s4 = .pointer (some ⟨pt, 0, none⟩) ∧ s5 = .slice (some ⟨g, 0, none⟩) n n ∧ OrdI w wx g pt tb (txK L 0) (nuK n 0))
  case first =>
    go_region
    all_goals
      go_wp2_with fail
      go_meet
      first
        | with_reducible exact ⟨_, _, _, rfl, rfl, ord_w1 HLl.out⟩
        | with_reducible exact ⟨_, _, _, rfl, rfl, ord_w2 HLl.out⟩
        | with_reducible exact ⟨_, _, _, rfl, rfl, ord_w3 HLl.out⟩
        | with_reducible exact ⟨_, _, _, rfl, rfl, ord_w4 HLl.out⟩
        | with_reducible exact ⟨_, _, _, rfl, rfl, ord_w5 HLl.out⟩
        | with_reducible exact ⟨_, _, _, rfl, rfl, ord_w6 HLl.out⟩
  case rest =>
    obtain ⟨g, pt, tb, rfl, rfl, hI⟩ := hcut
    have HI := Lib.hid hI
    rename World => w1
    clear hI m1 m2 g0
    apply_assumption
    go_wp2
    go_loopw [22] (fun iv wr => ∃ k : Nat, k ≤ n ∧ iv = .int .i64 k ∧ OrdI w wr g pt tb (txK L k) (nuK n k) ∧ frstL L k = (0, -1) ∧ (∀ j x, j < k → L[j]? = some x → (lbF x).1 = 0)) (fun iv _ => n - (intOf iv).toNat)
    case atStart => exact ⟨0, Nat.zero_le _, rfl, HI.out, rfl, fun j x h => absurd h (Nat.not_lt_zero _)⟩
    case round =>
      rename World => wo
      obtain ⟨k, hk, rfl, hI, hf, hall⟩ := hrel
      have HIk := Lib.hid hI; have Hf := Lib.hid hf; have Hall := Lib.hid hall
      clear hI hf hall
      by_cases hkn : k < n
      case neg =>
        obtain rfl : k = n := by omega
        have hkn' : ¬ (k : Int) < k := by omega
        have hT : (txK L k).length = k := by rw [← HLl.out, txK_len L _ (Nat.le_refl _)]
        have Hsw := Lib.hid (show SymW wo wo g pt tb (txK L k) (List.range k) from ⟨⟨by have := HIk.out.f; rwa [nuK_all] at this, Fr.refl _ _, HIk.out.f.lt⟩, HIk.out.s, HIk.out.np, HIk.out.nb, fun x hx => by rw [hT]; exact List.mem_range.1 hx⟩)
        have Hso := Lib.hid (sortStable_any g k k pt tb (txK L k) wo Hsw.out (by rw [hT]; omega) (by omega))
        have Hfin := Lib.hid (show ordF L = (0, -1) by rw [Hr.out]; exact Hf.out)
        clear hT h60
        go_wp2_with fail
        refine Hso.out.mono ?_
        rintro e w5 ⟨rfl, M, ⟨h1, h2⟩, h3⟩
        have HZ := Lib.hid (show ∃ g' M, (Value.slice (some ⟨g, 0, none⟩) k k) = .slice (some ⟨g', 0, none⟩) L.length L.length ∧ Blk w5 g' 3 (nC M) ∧ M.Perm (List.range L.length) ∧ M.Pairwise (pre (tOf (L.map textL))) from by
          refine ⟨g, M, by rw [HLl.out], h3.bk, by rw [HLl.out]; exact h1, ?_⟩
          have := txK_all L
          rw [HLl.out] at this
          rw [← this]; exact h2)
        have HBz := Lib.hid (show Below w.heap.size w w5 from HIk.out.bl.trans (h3.fr.below HIk.out.bl.size (fun j hj e => by have := HIk.out.g0; omega)))
        clear h1 h2 h3 Hso Hsw
        go_wp2
        go_ret2
        exact ⟨.slice (some ⟨g, 0, none⟩) k k, .nilIface, rfl, .inl ⟨Hfin.out, rfl⟩, fun h => by rw [Hfin.out] at h; exact absurd rfl h, fun _ => HZ.out, HBz.out⟩
      have hkn' : (k : Int) < n := by omega
      have hra := HA.out _ HIk.out.bl
      obtain ⟨b0, o0, y, hA0, had0, hy, x0⟩ := hra.1.at1 (f := fun r : LabV => r.v) hkn
      subst hA0
      obtain ⟨A', c', hyv, hrd⟩ := hra.2 y (List.mem_of_getElem? hy)
      rw [hyv] at x0
      have hLk : L[k]? = some y.l := by rw [HL.out, List.getElem?_map, hy]; rfl
      have HLk := Lib.hid hLk
      obtain ⟨m, hm⟩ : ∃ m, m = y.l.length := ⟨_, rfl⟩
      rw [← hm] at x0 hrd
      have Htx := Lib.hid (ltext_u A' m c' y.l wo (HSb.out _ HIk.out.bl).vl (HB0.out _ HIk.out.bl) (hrd.more HIk.out.bl.size))
      clear hra hy hyv hrd hLk hm
      generalize y.l = x at Htx HLk
      by_cases hx0 : (lbF x).1 = 0
      case neg =>
        have Hfin := Lib.hid (show ordF L = ((lbF x).1, (k : Int)) by rw [Hr.out]; exact frstL_hit (by rw [Hf.out]) HLk.out hx0 hkn)
        have Hx0 := Lib.hid hx0
        clear hx0
        go_wp2_with fail
        refine Htx.out.mono ?_
        rintro e w2 ⟨v, rfl, hev, hb⟩
        obtain ⟨t, p, rfl⟩ := hev.pos Hx0.out
        have HB2 := Lib.hid (Below.call HIk.out.bl hb HIk.out.bl.size)
        have Hcb := Lib.hid (cbare_any _ _ w2 hev Hx0.out (HSb.out _ HB2.out) (HB0.out _ HB2.out))
        have Hlt := Lib.hid (show (lbF x).1 - 1 < 11 ∧ (lbF x).1 - 1 + 1 = (lbF x).1 from by
          have h1 := hev
          have h2 := Hx0.out
          rcases h1 with ⟨h, _⟩ | ⟨j, hj, h, _⟩ | ⟨j, pb, t', hj, h, _⟩
          · rw [h] at h2; exact absurd rfl h2
          · rw [h]; exact ⟨by simpa using hj, by simp⟩
          · rw [h]; exact ⟨by simpa using hj, by simp⟩)
        clear hev hb Htx
        go_wp2_with fail
        refine Hcb.out.mono ?_
        rintro e w3 ⟨rfl, hb⟩
        have HB3 := Lib.hid (Below.call HB2.out hb HB2.out.size)
        have HF := Lib.hid (Blk.new w3 63 #[.int .i64 (k : Int), sentV (es ((lbF x).1 - 1))])
        have HB4 := Lib.hid (Below.alloc HB3.out HB3.out.size (.cells #[.int .i64 (k : Int), sentV (es ((lbF x).1 - 1))] 63))
        clear hb Hcb
        go_wp2
        go_ret2
        exact ⟨_, _, rfl, .inr (.inr ⟨(lbF x).1 - 1, w3.heap.size, (k : Int), Hlt.out.1, by rw [Hfin.out, Hlt.out.2], rfl, HB3.out.size, HF.out.lt, HF.out.cell 0, HF.out.cell 1⟩), fun _ => rfl, fun h => by rw [Hfin.out] at h; exact absurd h Hx0.out, HB4.out⟩
      have Hx0 := Lib.hid hx0
      rw [if_pos hx0] at Htx
      clear hx0
      go_wp2_with fail
      refine Htx.out.mono ?_
      rintro e w2 ⟨v, rfl, hev, hb⟩
      obtain rfl := hev.zero Hx0.out
      have HI2 := Lib.hid (HIk.out.below hb)
      have Hput := Lib.hid (HI2.out.put k (textL x) k (by rw [List.length_set]))
      rw [txK_set HLk.out, nuK_set hkn] at Hput
      have hT : (txK L k).length = n := by rw [txK_len L k (by rw [HLl.out]; exact hk), HLl.out]
      have p0 := HI2.out.s.p.cell 0
      rw [hT] at p0
      have p0' : w2.cell? ⟨pt, 0, none⟩ = some (.slice (some ⟨tb, 0, none⟩) n n) := p0
      have t0 : (w2.cell? ⟨tb, k, none⟩).isSome = true := by
        rw [HI2.out.s.b.cell k]
        unfold txC
        simp [hT, hkn]
      have f0 : (w2.cell? ⟨g, k, none⟩).isSome = true := by
        rw [HI2.out.f.cell k, nC_get]
        have : (nuK n k).length = n := by unfold nuK; rw [List.length_append, List.length_range, List.length_replicate]; omega
        simp [this, hkn]
      obtain ⟨tv, htv⟩ := Option.isSome_iff_exists.1 t0
      obtain ⟨fv, hfv⟩ := Option.isSome_iff_exists.1 f0
      have zt := HI2.out.s.b.frozen k
      have zf := HI2.out.f.frozen k
      have hnb := HI2.out.nb
      have Hnx := Lib.hid (frstL_next (by rw [Hf.out]) HLk.out Hx0.out)
      have Hal := Lib.hid (show ∀ j z, j < k + 1 → L[j]? = some z → (lbF z).1 = 0 from fun j z hj hz => by
        rcases Nat.lt_or_ge j k with h | h
        · exact Hall.out j z h hz
        · obtain rfl : j = k := by omega
          obtain rfl := Option.some.inj (hz.symm.trans HLk.out)
          exact Hx0.out)
      clear hev hb Htx p0 t0 f0 hT
      go_wp2
      go_roundw
      case rel => exact ⟨k + 1, by omega, by go_num, Hput.out, Hnx.out, Hal.out⟩
      case measure => simp [intOf]; omega
end Go.Proofs.YtlpkmghhmpkddaaDoor
