/- label.Read by its contract. -/
import Derived.Test.YthgefobcohlegaaGreatDoorSplitQX
import Derived.Test.YthgefobcohlegaaGreatDoorMkcX
namespace Go.Proofs.YthgefobcohlegaaGreatDoor
open Go.RowKit Go.Shelf
attribute [local go_sem] Oper.semAt_some
set_option linter.unusedVariables false

theorem infoLb : (Tryz.prog.info? 90).map (fun i => (i.zero, i.size, i.bytes)) = some (some (.agg #[.string ⟨#[]⟩, .string ⟨#[]⟩]), 2, 32) := by kernel_rfl
/-- What Read answers. -/
def RPost (es : Nat → Addr) (s : Bs) (w : World) (e : Ending) (w' : World) : Prop :=
  (parseL s = none → e = .returned (.tuple #[.slice none 0 0, sentV (es 0)])) ∧
  (∀ l, parseL s = some l → 6 < l.length → e = .returned (.tuple #[.slice none 0 0, sentV (es 1)])) ∧
  (∀ l i, parseL s = some l → l.length ≤ 6 → i < l.length → (∀ j, j < i → lbOk l j) → ¬ lbOk l i → ∃ pb, e = .returned (.tuple #[.slice none 0 0, faultV ⟨pb, 0, none⟩]) ∧ w.heap.size ≤ pb ∧ pb < w'.heap.size ∧ w'.cell? ⟨pb, 0, none⟩ = some (.int .i64 i) ∧ w'.cell? ⟨pb, 1, none⟩ = some (sentV (es (lbCode l i)))) ∧
  (∀ l, parseL s = some l → l.length ≤ 6 → (∀ j, j < l.length → lbOk l j) → ∃ v, e = .returned (.tuple #[v, .nilIface]) ∧ w'.ownsRow w.heap.size 90 2 v l.length (lbC l)) ∧ Below w.heap.size w w'
theorem Below.putObj_ {B : Nat} {a w : World} (h : Below B a w) {l : Nat} (hl : B ≤ l) (o : Obj) : Below B a (w.putObj l o) :=
  ⟨h.os, h.tape, h.output, by rw [World.putObj_size]; exact h.size, fun i hi => (World.putObj_heap_other (by omega)).trans (h.block i hi)⟩
theorem Blk.putObj_ {w : World} {g : Nat} {t : TypeId} {cs : Array Value} (h : Blk w g t cs) {l : Nat} (hl : g ≠ l) (o : Obj) : Blk (w.putObj l o) g t cs := (World.putObj_heap_other hl).trans h
/-- Between two rounds. -/
def RInv (b : Nat) (w : World) (pre : List Bs) (X : World) : Prop :=
  ∃ v l, pre.mapM cutE = some l ∧ Blk X b 81 #[.slice none 0 0] ∧ Blk X (b + 1) 26 #[.nilIface] ∧ Blk X (b + 2) 81 #[v] ∧ X.ownsRow (b + 8) 90 2 v l.length (lbC l) ∧ Below b w X
/-- A round has left. -/
def RBad (es : Nat → Addr) (b : Nat) (w : World) (pre : List Bs) (X : World) : Prop :=
  pre.mapM cutE = none ∧ Blk X b 81 #[.slice none 0 0] ∧ Blk X (b + 1) 26 #[sentV (es 0)] ∧ Below b w X
theorem Fr.toBelow {S : Nat → Prop} {B : Nat} {w X Y : World} (h : Below B w X) (hB : B ≤ w.heap.size) (hf : Fr S X Y) (hS : ∀ k, k < B → ¬ S k) : Below B w Y :=
  h.trans (hf.below (Nat.le_trans hB h.size) hS)
theorem RInv.fr {b : Nat} {w : World} {p : List Bs} {X Y : World} (h : RInv b w p X) (hb : b ≤ w.heap.size) (hf : Fr (fun k => k = b + 3 ∨ k = b + 6 ∨ k = b + 6 + 1) X Y) : RInv b w p Y := by
  obtain ⟨v, l, h1, h2, h3, h4, h5, h6⟩ := h
  refine ⟨v, l, h1, hf.blk h2 (by omega), hf.blk h3 (by omega), hf.blk h4 (by omega), hf.own h5 (fun k hk => ?_), Fr.toBelow h6 hb hf (fun k hk => by omega)⟩
  have := (own_lt h5 k hk).1
  omega
theorem RBad.fr {es : Nat → Addr} {b : Nat} {w : World} {p : List Bs} {X Y : World} (h : RBad es b w p X) (hb : b ≤ w.heap.size) (hf : Fr (fun k => k = b + 3 ∨ k = b + 6 ∨ k = b + 6 + 1) X Y) : RBad es b w p Y := by
  obtain ⟨h1, h2, h3, h4⟩ := h
  exact ⟨h1, hf.blk h2 (by omega), hf.blk h3 (by omega), Fr.toBelow h4 hb hf (fun k hk => by omega)⟩
theorem rbad_done {es : Nat → Addr} {b : Nat} {w X X1 : World} {p : List Bs} (hp : p.mapM cutE = none) (hb : Below X.heap.size X X1) (h0 : Blk X1 b 81 #[.slice none 0 0]) (h1 : Blk X1 (b + 1) 26 #[.nilIface]) (hB : Below b w X1) (hs : b + 6 + 2 ≤ X.heap.size) :
    let Y := ((X1.setCell ⟨b, 0, none⟩ (.slice none 0 0)).setCell ⟨b + 1, 0, none⟩ (sentV (es 0))).drew
    RBad es b w p Y ∧ b + 6 + 2 ≤ X1.heap.size ∧ Y.heap[b + 3]? = X.heap[b + 3]? ∧ Y.heap[b + 3 + 1]? = X.heap[b + 3 + 1]? ∧ Y.heap[b + 3 + 2]? = X.heap[b + 3 + 2]? ∧ Y.heap[b + 6]? = X.heap[b + 6]? ∧ Y.heap[b + 6 + 1]? = X.heap[b + 6 + 1]? := by
  intro Y
  have hx := hb.size
  have hf : Fr (fun k => k = b ∨ k = b + 1) X1 Y := ((Fr.setCell (S := fun k => k = b ∨ k = b + 1) (Fr.refl _ X1) (p := ⟨b, 0, none⟩) (.inr (.inl rfl)) _).setCell (p := ⟨b + 1, 0, none⟩) (.inr (.inr rfl)) _).drew
  have key : ∀ k, b + 2 ≤ k → k < X.heap.size → Y.heap[k]? = X.heap[k]? := fun k h1 h2 => (hf.block k (by omega) (by omega)).trans (hb.block k h2)
  refine ⟨⟨hp, ((h0.set_ 0 (.slice none 0 0)).far (p := ⟨b + 1, 0, none⟩) (by simp) _).drew, ((h1.far (p := ⟨b, 0, none⟩) (by simp) _).set_ 0 (sentV (es 0))).drew, hB.trans (hf.below ?_ (fun k hk => by omega))⟩, by omega, key _ (by omega) (by omega), key _ (by omega) (by omega), key _ (by omega) (by omega), key _ (by omega) (by omega), key _ (by omega) (by omega)⟩
  omega
theorem lbC_snoc (l : List Lb) (q : Lb) : lbC (l ++ [q]) = lbC l ++ [.string (B8 q.1), .string (B8 q.2)] := by simp [lbC]
theorem rinv_done {b : Nat} {w X X1 Z : World} {p' : List Bs} {l : List Lb} {q : Lb} {v v' : Value} (hp : p'.mapM cutE = some (l ++ [q])) (hb : Below X.heap.size X X1) (h0 : Blk X1 b 81 #[.slice none 0 0]) (h1 : Blk X1 (b + 1) 26 #[.nilIface]) (h2 : Blk X1 (b + 2) 81 #[v])
    (ho : X1.ownsRow (b + 8) 90 2 v l.length (lbC l)) (hB : Below b w X1) (hs : b + 6 + 2 ≤ X.heap.size)
    (hown' : Z.ownsRow (b + 8) 90 2 v' (l.length + 1) (lbC l ++ [.string (B8 q.1), .string (B8 q.2)])) (hgr : (X1.alloc (.cells #[.string (B8 q.1), .string (B8 q.2)] 90)).grownBy Z v.ownBlock) :
    Blk Z (b + 2) 81 #[v] ∧ RInv b w p' (Z.setCell ⟨b + 2, 0, none⟩ v') ∧ b + 6 + 2 ≤ Z.heap.size ∧ (Z.setCell ⟨b + 2, 0, none⟩ v').heap[b + 3]? = X.heap[b + 3]? ∧ (Z.setCell ⟨b + 2, 0, none⟩ v').heap[b + 3 + 1]? = X.heap[b + 3 + 1]? ∧ (Z.setCell ⟨b + 2, 0, none⟩ v').heap[b + 3 + 2]? = X.heap[b + 3 + 2]? ∧ (Z.setCell ⟨b + 2, 0, none⟩ v').heap[b + 6]? = X.heap[b + 6]? ∧ (Z.setCell ⟨b + 2, 0, none⟩ v').heap[b + 6 + 1]? = X.heap[b + 6 + 1]? := by
  have hx := hb.size
  have hfz : Fr (fun k => b + 8 ≤ k) X1 Z := ((Fr.refl _ X1).alloc _).grown hgr (fun k hk => .inr (own_lt ho k hk).1)
  have hf : Fr (fun k => b + 8 ≤ k ∨ k = b + 2) X1 (Z.setCell ⟨b + 2, 0, none⟩ v') := Fr.setCell (hfz.mono fun _ _ h => .inl h) (p := ⟨b + 2, 0, none⟩) (.inr (.inr rfl)) _
  have hz2 : Blk Z (b + 2) 81 #[v] := hfz.blk h2 (by omega)
  have key : ∀ k, b + 3 ≤ k → k < b + 8 → (Z.setCell ⟨b + 2, 0, none⟩ v').heap[k]? = X.heap[k]? := fun k k1 k2 => (hf.block k (by omega) (by omega)).trans (hb.block k (by omega))
  refine ⟨hz2, ⟨v', l ++ [q], hp, hf.blk h0 (by omega), hf.blk h1 (by omega), hz2.set_ 0 v', ?_, hB.trans (hf.below (by omega) (fun k hk => by omega))⟩, by have := hfz.size; omega, key _ (by omega) (by omega), key _ (by omega) (by omega), key _ (by omega) (by omega), key _ (by omega) (by omega), key _ (by omega) (by omega)⟩
  rw [lbC_snoc, List.length_append, List.length_singleton]
  refine own_set hown' (p := ⟨b + 2, 0, none⟩) (fun e => ?_) _
  have h : b + 8 ≤ b + 2 := (own_lt hown' _ e.symm).1
  omega
theorem lb_one2 (q : Lb) : ∀ u ∈ [Value.string (B8 q.1), Value.string (B8 q.2)], u.oneCell' = true := by
  intro u hu; simp at hu; rcases hu with rfl | rfl <;> rfl
theorem new2 (W : World) (t : TypeId) (u0 u1 : Value) : ∀ (j : Nat) u, [u0, u1][j]? = some u → (W.alloc (.cells #[u0, u1] t)).cell? ((⟨W.heap.size, 0, none⟩ : Addr).add j) = some u := by
  intro j u hu
  rw [add_at, Nat.zero_add, (Blk.new W t #[u0, u1]).cell j]
  simpa using hu
theorem cell_of_block {X Y : World} {a : Addr} (h : Y.heap[a.block]? = X.heap[a.block]?) : Y.cell? a = X.cell? a := by unfold World.cell?; rw [h]
theorem fin_set {b : Nat} {X : World} {u0 u1 : Value} (h0 : Blk X b 81 #[u0]) (h1 : Blk X (b + 1) 26 #[u1]) (hD : X.heap[b + 6]? = some (.deferred (some []))) (v0 v1 : Value) :
    ((X.setCell ⟨b, 0, none⟩ v0).setCell ⟨b + 1, 0, none⟩ v1).heap[b + 6]? = some (.deferred (some [])) ∧ Blk (((X.setCell ⟨b, 0, none⟩ v0).setCell ⟨b + 1, 0, none⟩ v1).putObj (b + 6) (.deferred none)) b 81 #[v0] ∧ Blk (((X.setCell ⟨b, 0, none⟩ v0).setCell ⟨b + 1, 0, none⟩ v1).putObj (b + 6) (.deferred none)) (b + 1) 26 #[v1] ∧
      Fr (fun k => k = b ∨ k = b + 1 ∨ k = b + 6) X (((X.setCell ⟨b, 0, none⟩ v0).setCell ⟨b + 1, 0, none⟩ v1).putObj (b + 6) (.deferred none)) := by
  have hl := (Array.getElem?_eq_some_iff.1 hD).1
  have hf : Fr (fun k => k = b ∨ k = b + 1 ∨ k = b + 6) X ((X.setCell ⟨b, 0, none⟩ v0).setCell ⟨b + 1, 0, none⟩ v1) := (Fr.setCell (S := fun k => k = b ∨ k = b + 1 ∨ k = b + 6) (Fr.refl _ X) (p := ⟨b, 0, none⟩) (.inr (.inl rfl)) _).setCell (p := ⟨b + 1, 0, none⟩) (.inr (.inr (.inl rfl))) _
  refine ⟨?_, ((h0.set_ 0 v0).far (p := ⟨b + 1, 0, none⟩) (by simp) _).putObj_ (by omega) _, ((h1.far (p := ⟨b, 0, none⟩) (by simp) _).set_ 0 v1).putObj_ (by omega) _, hf.putObj (.inr (.inr rfl)) _⟩
  rw [Below.heap_setCell _ _ _ _ (by simp), Below.heap_setCell _ _ _ _ (by simp)]
  exact hD
theorem res_rd (tmps : Array Value) (W : World) (b : Nat) (v0 v1 : Value) (ha : tmps.getD 2 undef = .pointer (some ⟨b, 0, none⟩)) (hb : tmps.getD 3 undef = .pointer (some ⟨b + 1, 0, none⟩)) (h0 : Blk W b 81 #[v0]) (h1 : Blk W (b + 1) 26 #[v1]) (hv0 : v0.oneCell' = true) (hv1 : v1.oneCell' = true) :
    (results Tryz.f26 tmps).run Tryz.prog W = .ok (.tuple #[v0, v1]) W := by
  have z0 := h0.cell 0
  have z1 := h1.cell 0
  simp only [List.getElem?_toArray, List.getElem?_cons_zero] at z0 z1
  simp only [Array.getD_eq_getD_getElem?] at ha hb
  simp [results, Tryz.results26, go_sem, ha, hb, z0, z1]

set_option maxRecDepth 100000 in
set_option maxHeartbeats 4000000 in
theorem lread_any {es : Nat → Addr} {B : Nat} (s : Bs) (hs : s.length ≤ 100000) (w : World) (hS : SVL es B w) (hB0 : B ≤ w.heap.size) :
    Calls Tryz.prog 26 #[.string (B8 s)] w (RPost es s w) := by
  refine (callsIn_wide (n := 9)).1 ?_
  refine callsIn_of_wp_marks Tryz.func26 rfl trivial ?_ rfl
  simp only [Tryz.ntmps26, List.size_toArray, List.length_cons, List.length_nil, Nat.reduceAdd, Nat.reduceSub, Array.replicate_succ, Array.replicate_zero, List.push_toArray, List.append_toArray, List.nil_append, List.cons_append]
  gi_wp2_with fail
  refine ⟨trivial, (callsIn_wide.2 (splitSeq_any _ _)).mono ?_⟩
  rintro e W ⟨rfl, hW⟩
  obtain ⟨b, hb⟩ : ∃ b, b = w.heap.size := ⟨_, rfl⟩
  have hsz : W.heap.size = b + 6 := by rw [hW, hb]; simp
  have K0 : Blk W b 81 #[.slice none 0 0] := by rw [hW, hb]; exact (((((Blk.new w _ _).alloc _).alloc _).alloc _).alloc _).alloc _
  have K1 : Blk W (b + 1) 26 #[.nilIface] := by
    rw [hW, hb]
    have := Blk.new (w.alloc (.cells #[.slice none 0 0] 81)) 26 #[.nilIface]
    rw [World.size_alloc] at this
    exact (((this.alloc _).alloc _).alloc _).alloc _
  have K2 : Blk W (b + 2) 81 #[.slice none 0 0] := by
    rw [hW, hb]
    have := Blk.new ((w.alloc (.cells #[.slice none 0 0] 81)).alloc (.cells #[.nilIface] 26)) 81 #[.slice none 0 0]
    simp only [World.size_alloc] at this
    exact ((this.alloc _).alloc _).alloc _
  have K3 : Blk W (b + 3) 9 #[.string (B8 s)] := by
    rw [hW, hb]
    have := Blk.new (((w.alloc (.cells #[.slice none 0 0] 81)).alloc (.cells #[.nilIface] 26)).alloc (.cells #[.slice none 0 0] 81)) 9 #[.string (B8 s)]
    simp only [World.size_alloc] at this
    exact (this.alloc _).alloc _
  have K4 : Blk W (b + 4) 9 #[.string ⟨#[44]⟩] := by
    rw [hW, hb]
    have := Blk.new ((((w.alloc (.cells #[.slice none 0 0] 81)).alloc (.cells #[.nilIface] 26)).alloc (.cells #[.slice none 0 0] 81)).alloc (.cells #[.string (B8 s)] 9)) 9 #[.string ⟨#[44]⟩]
    simp only [World.size_alloc] at this
    exact this.alloc _
  have K5 : Blk W (b + 5) 3 #[.int .i64 0] := by
    rw [hW, hb]
    have := Blk.new (((((w.alloc (.cells #[.slice none 0 0] 81)).alloc (.cells #[.nilIface] 26)).alloc (.cells #[.slice none 0 0] 81)).alloc (.cells #[.string (B8 s)] 9)).alloc (.cells #[.string ⟨#[44]⟩] 9)) 3 #[.int .i64 0]
    simp only [World.size_alloc] at this
    exact this
  have hbl : Below b w W := by rw [hW, hb]; go_grown
  have hfun : ((((w.alloc (.cells #[.slice none 0 0] 81)).alloc (.cells #[.nilIface] 26)).alloc (.cells #[.slice none 0 0] 81)).heap.size) = b + 3 := by rw [hb]; simp
  rw [hfun]
  clear hW hfun
  have KK0 := Lib.hid K0; have KK1 := Lib.hid K1; have KK2 := Lib.hid K2; have KK3 := Lib.hid K3; have KK4 := Lib.hid K4; have KK5 := Lib.hid K5
  have HBl := Lib.hid hbl; have Hsz := Lib.hid hsz; have Hb := Lib.hid hb; have HS := Lib.hid hS
  rw [← hb, show b + 1 + 1 = b + 2 from rfl]
  clear K0 K1 K2 K3 K4 K5 hbl hsz hb hS
  gi_wp2
  refine wp_split (b + 3) s (by omega) (by rw [Hsz.out]; omega) rfl rfl KK3.out KK4.out KK5.out (RInv b w) (RBad es b w) ?hI ?hIx ?h0
    (fun x => { tmps := #[.string (B8 s), undef, .pointer (some ⟨b, 0, none⟩), .pointer (some ⟨b + 1, 0, none⟩), .pointer (some ⟨b + 2, 0, none⟩), .string (B8 x), undef, undef, undef, undef, .string (B8 s),
      .func (.func 103) #[] #[.pointer (some ⟨b + 3 + 1, 0, none⟩), .pointer (some ⟨b + 3, 0, none⟩), .pointer (some ⟨b + 3 + 2, 0, none⟩)], .string (B8 x), undef, undef, undef, undef, undef, undef, undef, undef, undef, undef, undef, undef, undef, undef, undef, undef, undef, undef, undef, undef, undef], defers := [] }) ?assign ?body ?done ?stop
  case hI => exact fun p X Y h hf => h.fr (Nat.le_of_eq Hb.out) (hf.mono fun k _ h => by have := Hsz.out; omega)
  case hIx => exact fun p X Y h hf => h.fr (Nat.le_of_eq Hb.out) (hf.mono fun k _ h => by have := Hsz.out; omega)
  case h0 =>
    intro Y hY _
    have hsz := Hsz.out
    exact ⟨.slice none 0 0, [], rfl, KK0.out.below hY (by omega), KK1.out.below hY (by omega), KK2.out.below hY (by omega), World.ownsRow_nil _ _ _ _, HBl.out.trans (hY.mono (by omega))⟩
  case assign =>
    intro x X K hK
    gi_wp2
    exact hK
  case body =>
    rintro pre x X ⟨v, l, hl, q0, q1, q2, ho, hbX⟩ hszX hpre
    have hsz := Hsz.out
    have HbX := Lib.hid hbX; have Q0 := Lib.hid q0; have Q1 := Lib.hid q1; have Q2 := Lib.hid q2; have Ho := Lib.hid ho; have Hl := Lib.hid hl; have Hpre := Lib.hid hpre
    clear hbX q0 q1 q2 ho hl hpre
    cases hc : cutE x with
    | none =>
      gi_wp2_with fail
      refine ⟨trivial, (CallsIn.inRound _ (callsIn_wide.2 (cut_none x hc _))).mono ?_⟩
      rintro e X1 ⟨rfl, hbb⟩
      have HB1 := Lib.hid (show Below b w X1 from HbX.out.trans (hbb.mono (by rw [Hb.out]; exact (by have := HbX.out.size; omega))))
      have hsx := HbX.out.size
      have hX1 := hbb.size
      have P0 := Lib.hid (Q0.out.below hbb Q0.out.lt); have P1 := Lib.hid (Q1.out.below hbb Q1.out.lt)
      have hS1 := HS.out.below (HB1.out.mono (B := b) (Nat.le_refl _)) (by rw [Hb.out]; exact hB0)
      have gx : X1.cell? ⟨4, 0, none⟩ = some (sentV (es 0)) := hS1.var 0 (by decide)
      have hgl := hS1.glt 0 (by decide)
      have hgb : 4 ≠ b := by rw [Hb.out]; exact Nat.ne_of_lt (Nat.lt_of_lt_of_le hgl hB0)
      have gx2 : (X1.setCell ⟨b, 0, none⟩ (.slice none 0 0)).cell? ⟨4, 0, none⟩ = some (sentV (es 0)) := (World.cell?_setCell_other _ _ _ _ (fun e => hgb (by injection e with e1; exact e1.symm))).trans gx
      have y0 : X1.cell? ⟨b, 0, none⟩ = some (.slice none 0 0) := P0.out.cell 0
      have y1 : X1.cell? ⟨b + 1, 0, none⟩ = some .nilIface := P1.out.cell 0
      have f0 := P0.out.frozen 0
      have f1 := P1.out.frozen 0
      have hmx : Tryz.prog.follows .mixedOrders = true := by kernel_rfl
      have Hfin := Lib.hid (rbad_done (es := es) (b := b) (w := w) (X := X) (X1 := X1) (p := pre ++ [x]) (by rw [mapM_app, Hl.out, mapM_one, hc]; rfl) hbb P0.out P1.out HB1.out (by omega))
      clear hbb hgl hS1
      gi_wp2
      gi_region_with_o (fail)
      all_goals gi_wp2
      all_goals exact Hfin.out
    | some q =>
      obtain ⟨A1, c1, rfl, _, _, _⟩ := own_form Ho.out
      have hlx : x.length ≤ s.length ∧ l.length ≤ s.length + 1 := by
        obtain ⟨r, hr⟩ := Hpre.out
        have hj := split_len s
        rw [← hr] at hj
        have e1 := hj.2 x (by simp)
        have e2 : pre.length ≤ s.length + 1 := by have := hj.1; simp at this; omega
        have e3 : pre.length = l.length := by rw [mapM_cut Hl.out, List.length_map]
        exact ⟨e1, by omega⟩
      obtain ⟨i0, hi, hz0, hz1, hz2⟩ := info_parts infoLb
      have Hi := Lib.hid hi; have Hz0 := Lib.hid hz0; have Hz1 := Lib.hid hz1; have Hz2 := Lib.hid hz2
      have hk63 : l.length + 1 ≤ maxLen := by unfold maxLen; omega
      have hk8 : (l.length + 1) * 32 ≤ 140737488355328 := by omega
      clear hi hz0 hz1 hz2
      gi_wp2_with fail
      refine ⟨trivial, (CallsIn.inRound _ (callsIn_wide.2 (cut_some x q hc (by omega) _))).mono ?_⟩
      rintro e X1 ⟨rfl, hbb⟩
      have HB1 := Lib.hid (show Below b w X1 from HbX.out.trans (hbb.mono (by rw [Hb.out]; exact (by have := HbX.out.size; omega))))
      have hX1 := hbb.size
      have P0 := Lib.hid (Q0.out.below hbb Q0.out.lt); have P1 := Lib.hid (Q1.out.below hbb Q1.out.lt); have P2 := Lib.hid (Q2.out.below hbb Q2.out.lt)
      have Ho1 := Lib.hid (own_below Ho.out hbb (Nat.le_refl _))
      have y2 : X1.cell? ⟨b + 2, 0, none⟩ = some (.slice A1 l.length c1) := P2.out.cell 0
      have Hbb := Lib.hid hbb
      have y2' : (X1.alloc (.cells #[.string (B8 q.1), .string (B8 q.2)] 90)).cell? ⟨b + 2, 0, none⟩ = some (.slice A1 l.length c1) := (P2.out.alloc _).cell 0
      have Hp' := Lib.hid (show (pre ++ [x]).mapM cutE = some (l ++ [q]) from by rw [mapM_app, Hl.out, mapM_one, hc]; rfl)
      have hb8 : b + 8 ≤ (X1.alloc (.cells #[.string (B8 q.1), .string (B8 q.2)] 90)).heap.size := by simp; omega
      have Hb8 := Lib.hid hb8
      clear hbb hb8
      gi_wp2_with (gi_at_builtin; refine wpListIn_append_own _ rfl (.tmp 22) (.tmp 26) _ rfl (b + 8) 90 i0 (.agg #[.string ⟨#[]⟩, .string ⟨#[]⟩]) 2 32 Tryz.underlying81 Hi.out Hz0.out Hz1.out Hz2.out rfl (by decide) (.slice A1 l.length c1) l.length (lbC l) rfl (Ho1.out.alloc _) ⟨X1.heap.size, 0, none⟩ 1 1 [.string (B8 q.1), .string (B8 q.2)] rfl rfl (new2 _ _ _ _) (lb_one2 q) hk63 hk8 Hb8.out ?_; intro v' Z hown' hgr _; have Hfin := Lib.hid (rinv_done Hp'.out Hbb.out P0.out P1.out P2.out Ho1.out HB1.out (by omega) hown' hgr); obtain ⟨A2, c2, rfl, _, _, _⟩ := own_form hown'; have z2 := Hfin.out.1.cell 0; have f2 := Hfin.out.1.frozen 0; simp only [List.getElem?_toArray, List.getElem?_cons_zero] at z2; clear hown' hgr)
      exact Hfin.out.2
  case done =>
    rintro X ⟨v, l, hl, q0, q1, q2, ho, hbX⟩ hD
    have hsz := Hsz.out
    obtain ⟨A1, c1, rfl, _, _, hrd⟩ := own_form ho
    have hwX : w.heap.size ≤ X.heap.size := hbX.size
    have Hpl := Lib.hid (show parseL s = some l from hl)
    have h1 : 1 ≤ l.length := by
      have e := congrArg List.length (mapM_cut hl)
      rw [List.length_map] at e
      have := splitC_ne 44 s
      rcases Nat.eq_zero_or_pos l.length with h | h
      · exact absurd (List.length_eq_zero_iff.1 (e.trans h)) this
      · exact h
    have HbX := Lib.hid (show Below w.heap.size w X by rw [← Hb.out]; exact hbX)
    have Q0 := Lib.hid q0; have Q1 := Lib.hid q1; have Q2 := Lib.hid q2; have Ho := Lib.hid ho; have HR := Lib.hid hrd; have HD := Lib.hid hD
    have HSX := Lib.hid (HS.out.below HbX.out hB0)
    have x2 : X.cell? ⟨b + 2, 0, none⟩ = some (.slice A1 l.length c1) := q2.cell 0
    have hDl : b + 6 < X.heap.size := by have := (Array.getElem?_eq_some_iff.1 hD).1; omega
    have hl3 : b + 2 < X.heap.size := q2.lt
    rw [hsz] at hD
    have HD6 := Lib.hid hD
    clear hl q0 q1 q2 ho hrd hD hbX HD
    by_cases h6 : 6 < l.length
    · gi_wp2_with fail
      refine ⟨trivial, (callsIn_wide.2 (lcheck_long A1 l.length c1 _ HSX.out h6)).mono ?_⟩
      rintro e X' ⟨rfl, rfl⟩
      have y0 : X.cell? ⟨b, 0, none⟩ = some (.slice none 0 0) := Q0.out.cell 0
      have y1 : X.cell? ⟨b + 1, 0, none⟩ = some .nilIface := Q1.out.cell 0
      have f0 := Q0.out.frozen 0; have f1 := Q1.out.frozen 0
      gi_wp2
      obtain ⟨d1, d2, d3, d4⟩ := fin_set Q0.out Q1.out HD6.out (.slice none 0 0) (sentV (es 1))
      refine ⟨by simp, .inl ⟨_, _, rfl, run_takeDeferred d1, ?_⟩⟩
      refine ⟨_, res_rd _ _ b _ _ rfl rfl d2 d3 rfl rfl, fun h => ?_, fun l' hl' _ => rfl, fun l' i hl' h => ?_, fun l' hl' h => ?_, Fr.toBelow HbX.out (Nat.le_refl _) d4 (fun k hk => by have := Hb.out; omega)⟩
      · rw [Hpl.out] at h; cases h
      · rw [Hpl.out] at hl'; injection hl' with hl'; subst hl'; omega
      · rw [Hpl.out] at hl'; injection hl' with hl'; subst hl'; omega
    obtain ⟨i, hi1, hi2, hi3⟩ := first_lb l l.length
    have Hi2 := Lib.hid hi2; have Hi3 := Lib.hid hi3
    gi_wp2_with fail
    refine ⟨trivial, (callsIn_wide.2 (lcheck_any A1 l.length c1 l i _ HSX.out (Nat.le_trans hB0 hwX) HR.out h1 (by omega) hi1 Hi2.out Hi3.out)).mono ?_⟩
    rintro e X' ⟨hgood, hbad, hbb⟩
    have P0 := Lib.hid (Q0.out.below hbb Q0.out.lt); have P1 := Lib.hid (Q1.out.below hbb Q1.out.lt); have P2 := Lib.hid (Q2.out.below hbb Q2.out.lt)
    have PD := Lib.hid ((hbb.block _ hDl).trans HD6.out)
    have Po := Lib.hid (own_below Ho.out hbb (Nat.le_refl _))
    have HbX' := Lib.hid (Below.call HbX.out hbb hwX)
    have y0 : X'.cell? ⟨b, 0, none⟩ = some (.slice none 0 0) := P0.out.cell 0
    have y1 : X'.cell? ⟨b + 1, 0, none⟩ = some .nilIface := P1.out.cell 0
    have y2 : X'.cell? ⟨b + 2, 0, none⟩ = some (.slice A1 l.length c1) := P2.out.cell 0
    have y2' : (X'.setCell ⟨b, 0, none⟩ (.slice A1 l.length c1)).cell? ⟨b + 2, 0, none⟩ = some (.slice A1 l.length c1) := (P2.out.far (p := ⟨b, 0, none⟩) (by simp) _).cell 0
    have f0 := P0.out.frozen 0; have f1 := P1.out.frozen 0
    have hXX := hbb.size
    clear hbb
    by_cases hin : i < l.length
    · obtain ⟨pb, rfl, hpb, hpl, hp0, hp1⟩ := hbad hin
      have Hp0 := Lib.hid hp0; have Hp1 := Lib.hid hp1
      clear hgood hbad hp0 hp1
      gi_wp2
      obtain ⟨d1, d2, d3, d4⟩ := fin_set P0.out P1.out PD.out (.slice none 0 0) (faultV ⟨pb, 0, none⟩)
      refine ⟨by simp, .inl ⟨_, _, rfl, run_takeDeferred d1, ?_⟩⟩
      refine ⟨_, res_rd _ _ b _ _ rfl rfl d2 d3 rfl rfl, fun h => ?_, fun l' hl' h => ?_, fun l' i' hl' _ hi' hok' hbd' => ?_, fun l' hl' _ hok' => ?_, Fr.toBelow HbX'.out (Nat.le_refl _) d4 (fun k hk => by have := Hb.out; omega)⟩
      · rw [Hpl.out] at h; cases h
      · rw [Hpl.out] at hl'; injection hl' with hl'; subst hl'; omega
      · rw [Hpl.out] at hl'; injection hl' with hl'; subst hl'
        obtain rfl : i' = i := by
          rcases Nat.lt_trichotomy i' i with h | h | h
          · exact absurd (Hi2.out i' h) hbd'
          · exact h
          · exact absurd (hok' i h) (Hi3.out hin)
        have hq := d4.block pb hpl (by omega)
        exact ⟨pb, rfl, by omega, Nat.lt_of_lt_of_le hpl d4.size, (cell_of_block (a := ⟨pb, 0, none⟩) hq).trans Hp0.out, (cell_of_block (a := ⟨pb, 1, none⟩) hq).trans Hp1.out⟩
      · rw [Hpl.out] at hl'; injection hl' with hl'; subst hl'
        exact absurd (hok' i hin) (Hi3.out hin)
    · obtain rfl : i = l.length := by omega
      obtain rfl := hgood rfl
      clear hgood hbad
      gi_wp2
      obtain ⟨d1, d2, d3, d4⟩ := fin_set P0.out P1.out PD.out (.slice A1 l.length c1) .nilIface
      refine ⟨by simp, .inl ⟨_, _, rfl, run_takeDeferred d1, ?_⟩⟩
      refine ⟨_, res_rd _ _ b _ _ rfl rfl d2 d3 rfl rfl, fun h => ?_, fun l' hl' h => ?_, fun l' i' hl' _ hi' hok' hbd' => ?_, fun l' hl' _ hok' => ?_, Fr.toBelow HbX'.out (Nat.le_refl _) d4 (fun k hk => by have := Hb.out; omega)⟩
      · rw [Hpl.out] at h; cases h
      · rw [Hpl.out] at hl'; injection hl' with hl'; subst hl'; omega
      · rw [Hpl.out] at hl'; injection hl' with hl'; subst hl'
        exact absurd (Hi2.out i' hi') hbd'
      · rw [Hpl.out] at hl'; injection hl' with hl'; subst hl'
        refine ⟨_, rfl, own_base (d4.own Po.out (fun k hk => ?_)) (by have := Hb.out; omega)⟩
        have := (own_lt Po.out k hk).1
        omega
  case stop =>
    rintro pre X hpre ⟨hp, q0, q1, hbX⟩ hD
    have hsz := Hsz.out
    have hpn : parseL s = none := by
      obtain ⟨t, ht⟩ := hpre
      unfold parseL
      rw [← ht, mapM_app, hp]; rfl
    have HbX := Lib.hid (show Below w.heap.size w X by rw [← Hb.out]; exact hbX)
    gi_wp2
    refine ⟨by simp, .inl ⟨_, _, rfl, run_takeDeferred hD, ?_⟩⟩
    refine ⟨_, res_rd _ _ b _ _ rfl rfl (q0.putObj_ (by omega) _) (q1.putObj_ (by omega) _) rfl rfl, fun _ => rfl, fun l hl => ?_, fun l i hl => ?_, fun l hl => ?_, Below.putObj_ HbX.out (by rw [← Hb.out]; omega) _⟩
    · rw [hpn] at hl; cases hl
    · rw [hpn] at hl; cases hl
    · rw [hpn] at hl; cases hl
end Go.Proofs.YthgefobcohlegaaGreatDoor

namespace Go.Proofs.YthgefobcohlegaaGreatDoor
open Go.RowKit
set_option linter.unusedVariables false

/-- The first label that is not well. -/
def badL (l : List Lb) : Option Nat := (List.range l.length).find? fun i => decide (¬ lbOk l i)
theorem badL_some {l : List Lb} {i : Nat} (h : badL l = some i) : i < l.length ∧ (∀ j, j < i → lbOk l j) ∧ ¬ lbOk l i := by
  unfold badL at h
  rw [List.find?_range_eq_some] at h
  obtain ⟨h1, h2, h3⟩ := h
  refine ⟨by simpa using h2, fun j hj => ?_, by simpa using h1⟩
  have := h3 j hj
  simpa using this
theorem badL_none {l : List Lb} (h : badL l = none) : ∀ j, j < l.length → lbOk l j := by
  unfold badL at h
  rw [List.find?_range_eq_none] at h
  intro j hj
  have := h j hj
  simpa using this
/-- What is wrong with labels: its number, and its place (0: nothing). -/
def lbF (l : List Lb) : Nat × Int := if l.length = 0 then (5, -1) else if 6 < l.length then (2, -1) else match badL l with
  | some i => (lbCode l i + 1, i)
  | none => (0, -1)
theorem lbF_cases (l : List Lb) : (l = [] ∧ lbF l = (5, -1)) ∨ (6 < l.length ∧ lbF l = (2, -1)) ∨ (∃ i, 1 ≤ l.length ∧ l.length ≤ 6 ∧ i < l.length ∧ (∀ j, j < i → lbOk l j) ∧ ¬ lbOk l i ∧ lbF l = (lbCode l i + 1, (i : Int))) ∨ (1 ≤ l.length ∧ l.length ≤ 6 ∧ (∀ j, j < l.length → lbOk l j) ∧ lbF l = (0, -1)) := by
  unfold lbF
  by_cases h0 : l.length = 0
  · exact .inl ⟨List.length_eq_zero_iff.1 h0, by rw [if_pos h0]⟩
  rw [if_neg h0]
  by_cases h6 : 6 < l.length
  · exact .inr (.inl ⟨h6, by rw [if_pos h6]⟩)
  rw [if_neg h6]
  cases h : badL l with
  | some i =>
    obtain ⟨g1, g2, g3⟩ := badL_some h
    exact .inr (.inr (.inl ⟨i, by omega, by omega, g1, g2, g3, rfl⟩))
  | none => exact .inr (.inr (.inr ⟨by omega, by omega, badL_none h, rfl⟩))
/-- Of a text. -/
def rdF (s : Bs) : Nat × Int := match parseL s with
  | none => (1, -1)
  | some l => lbF l
theorem rdF_none {s : Bs} (h : parseL s = none) : rdF s = (1, -1) := by unfold rdF; rw [h]
theorem rdF_some {s : Bs} {l : List Lb} (h : parseL s = some l) : rdF s = lbF l := by unfold rdF; rw [h]
theorem parse_ne {s : Bs} {l : List Lb} (h : parseL s = some l) : l ≠ [] := by
  rintro rfl
  have := mapM_cut h
  exact splitC_ne 44 s this
theorem lbCode_lt (l : List Lb) (i : Nat) : lbCode l i = 2 ∨ lbCode l i = 3 := by unfold lbCode; split <;> simp

/-- The error v says c: its number and place (0: none). -/
def EV (es : Nat → Addr) (B : Nat) (W : World) (v : Value) (c : Nat × Int) : Prop :=
  (c = (0, -1) ∧ v = .nilIface) ∨ (∃ k, k < 11 ∧ c = (k + 1, -1) ∧ v = sentV (es k)) ∨
  (∃ k pb t, k < 11 ∧ c = (k + 1, t) ∧ v = faultV ⟨pb, 0, none⟩ ∧ B ≤ pb ∧ pb < W.heap.size ∧ W.cell? ⟨pb, 0, none⟩ = some (.int .i64 t) ∧ W.cell? ⟨pb, 1, none⟩ = some (sentV (es k)))
theorem EV.is {es : Nat → Addr} {B C : Nat} {W : World} {v : Value} {c : Nat × Int} (h : EV es B W v c) (hS : Sents es C W) : ErrIs es W v (c.1 : Int) c.2 := by
  rcases h with ⟨rfl, rfl⟩ | ⟨k, hk, rfl, rfl⟩ | ⟨k, pb, t, hk, rfl, rfl, _, h1, h2, h3⟩
  · exact ErrIs.nil
  · have := ErrIs.sent hS hk
    simpa using this
  · have := ErrIs.fault hS hk h1 h2 h3
    simpa using this
theorem EV.below {es : Nat → Addr} {B C : Nat} {W W' : World} {v : Value} {c : Nat × Int} (h : EV es B W v c) (hb : Below C W W') (hC : W.heap.size ≤ C) : EV es B W' v c := by
  rcases h with h | h | ⟨k, pb, t, hk, h1, h2, h3, h4, h5, h6⟩
  · exact .inl h
  · exact .inr (.inl h)
  · exact .inr (.inr ⟨k, pb, t, hk, h1, h2, h3, Nat.lt_of_lt_of_le h4 hb.size, (hb.cell (p := ⟨pb, 0, none⟩) (Nat.lt_of_lt_of_le h4 hC)).trans h5, (hb.cell (p := ⟨pb, 1, none⟩) (Nat.lt_of_lt_of_le h4 hC)).trans h6⟩)
theorem EV.base {es : Nat → Addr} {B B' : Nat} {W : World} {v : Value} {c : Nat × Int} (h : EV es B W v c) (hB : B' ≤ B) : EV es B' W v c := by
  rcases h with h | h | ⟨k, pb, t, hk, h1, h2, h3, h4⟩
  · exact .inl h
  · exact .inr (.inl h)
  · exact .inr (.inr ⟨k, pb, t, hk, h1, h2, by omega, h4⟩)
theorem EV.zero {es : Nat → Addr} {B : Nat} {W : World} {v : Value} {c : Nat × Int} (h : EV es B W v c) (h0 : c.1 = 0) : v = .nilIface := by
  rcases h with h | ⟨k, _, rfl, _⟩ | ⟨k, pb, t, _, rfl, _⟩
  · exact h.2
  · simp at h0
  · simp at h0
theorem EV.pos {es : Nat → Addr} {B : Nat} {W : World} {v : Value} {c : Nat × Int} (h : EV es B W v c) (h0 : c.1 ≠ 0) : ∃ t p, v = .iface t p := by
  rcases h with ⟨rfl, _⟩ | ⟨k, _, _, rfl⟩ | ⟨k, pb, t, _, _, rfl, _⟩
  · exact absurd rfl h0
  · exact ⟨_, _, rfl⟩
  · exact ⟨_, _, rfl⟩

theorem lcheck_u {es : Nat → Addr} {B : Nat} (A : Option Addr) (n c : Nat) (l : List Lb) (w : World) (hS : SVL es B w) (hB0 : B ≤ w.heap.size) (hA : Rd w w.heap.size 2 A n (lbC l)) :
    Calls Tryz.prog 49 #[.slice A n c] w fun e w' => ∃ v, e = .returned v ∧ EV es w.heap.size w' v (lbF l) ∧ Below w.heap.size w w' := by
  have hlen : l.length = n := by have := hA.1; rw [lbC_len] at this; omega
  rcases lbF_cases l with ⟨h, e⟩ | ⟨h, e⟩ | ⟨i, h1, h2, h3, h4, h5, e⟩ | ⟨h1, h2, h3, e⟩
  · subst h
    obtain rfl : n = 0 := by simpa using hlen.symm
    refine (lcheck_none A c w hS).mono ?_
    rintro e' w' ⟨rfl, rfl⟩
    exact ⟨_, rfl, .inr (.inl ⟨4, by decide, e, rfl⟩), Below.refl _ _⟩
  · refine (lcheck_long A n c w hS (by omega)).mono ?_
    rintro e' w' ⟨rfl, rfl⟩
    exact ⟨_, rfl, .inr (.inl ⟨1, by decide, e, rfl⟩), Below.refl _ _⟩
  · refine (lcheck_any A n c l i w hS hB0 hA (by omega) (by omega) (by omega) h4 (fun _ => h5)).mono ?_
    rintro e' w' ⟨_, g, hb⟩
    obtain ⟨pb, rfl, g1, g2, g3, g4⟩ := g (by omega)
    exact ⟨_, rfl, .inr (.inr ⟨lbCode l i, pb, i, by have := lbCode_lt l i; omega, e, rfl, g1, g2, g3, g4⟩), hb⟩
  · refine (lcheck_any A n c l n w hS hB0 hA (by omega) (by omega) (Nat.le_refl _) (by rw [← hlen]; exact h3) (fun h => absurd h (Nat.lt_irrefl _))).mono ?_
    rintro e' w' ⟨g, _, hb⟩
    exact ⟨_, g rfl, .inl ⟨e, rfl⟩, hb⟩
/-- label.Read: nil and what is wrong; or labels of its own. -/
theorem lread_u {es : Nat → Addr} {B : Nat} (s : Bs) (hs : s.length ≤ 100000) (w : World) (hS : SVL es B w) (hB0 : B ≤ w.heap.size) :
    Calls Tryz.prog 26 #[.string (B8 s)] w fun e w' => ∃ v u l, e = .returned (.tuple #[u, v]) ∧ EV es w.heap.size w' v (rdF s) ∧ w'.ownsRow w.heap.size 90 2 u l.length (lbC l) ∧ ((rdF s).1 = 0 → parseL s = some l) ∧ ((rdF s).1 ≠ 0 → l = []) ∧ Below w.heap.size w w' := by
  refine (lread_any s hs w hS hB0).mono ?_
  rintro e' w' ⟨g1, g2, g3, g4, hb⟩
  cases hp : parseL s with
  | none =>
    have e := rdF_none hp
    exact ⟨_, _, [], g1 hp, .inr (.inl ⟨0, by decide, e, rfl⟩), World.ownsRow_nil _ _ _ _, fun h => (by rw [e] at h; cases h), fun _ => rfl, hb⟩
  | some l =>
    have e := rdF_some hp
    rcases lbF_cases l with ⟨h, e2⟩ | ⟨h, e2⟩ | ⟨i, h1, h2, h3, h4, h5, e2⟩ | ⟨h1, h2, h3, e2⟩
    · exact absurd h (parse_ne hp)
    · rw [e2] at e
      exact ⟨_, _, [], g2 l hp h, .inr (.inl ⟨1, by decide, e, rfl⟩), World.ownsRow_nil _ _ _ _, fun h => (by rw [e] at h; cases h), fun _ => rfl, hb⟩
    · rw [e2] at e
      obtain ⟨pb, q, q1, q2, q3, q4⟩ := g3 l i hp h2 h3 h4 h5
      exact ⟨_, _, [], q, .inr (.inr ⟨lbCode l i, pb, i, by have := lbCode_lt l i; omega, e, rfl, q1, q2, q3, q4⟩), World.ownsRow_nil _ _ _ _, fun h => (by rw [e] at h; simp at h), fun _ => rfl, hb⟩
    · rw [e2] at e
      obtain ⟨v, q, q1⟩ := g4 l hp h2 h3
      exact ⟨_, v, l, q, .inl ⟨e, rfl⟩, q1, fun _ => rfl, fun h => absurd (by rw [e]) h, hb⟩
/-- A fault of the reference's, as a value. -/
def fV (c : Nat × Int) : Value := .agg #[.int .i64 (c.1 : Int), .int .i64 c.2]
end Go.Proofs.YthgefobcohlegaaGreatDoor

namespace Go.Proofs.YthgefobcohlegaaGreatDoor
open Go.RowKit
set_option linter.unusedVariables false

theorem bytesLess_lt : ∀ (x y : Bs), Op.bytesLess x y = decide (x < y)
  | _, [] => by
    unfold Op.bytesLess
    symm
    exact decide_eq_false (List.not_lt_nil _)
  | [], b :: y => by
    unfold Op.bytesLess
    symm
    exact decide_eq_true (List.nil_lt_cons b y)
  | a :: x, b :: y => by
    unfold Op.bytesLess
    rw [bytesLess_lt x y, Bool.eq_iff_iff, decide_eq_true_iff, List.cons_lt_cons_iff]
    simp
theorem lt_irrefl_bs (x : Bs) : ¬ x < x := List.lt_irrefl x
theorem lt_asymm_bs {x y : Bs} (h : x < y) : ¬ y < x := fun h' => List.lt_irrefl x (List.lt_trans h h')
theorem lt_or_bs (x y : Bs) : x < y ∨ x = y ∨ y < x := by
  by_cases h1 : x < y
  · exact .inl h1
  · by_cases h2 : y < x
    · exact .inr (.inr h2)
    · exact .inr (.inl (List.le_antisymm (show x ≤ y from h2) (show y ≤ x from h1)))

/-- A line: its series, its points, its last tick ever. -/
abbrev HA := Bs × List (Int × Int) × Int
def tickB (t : Int) : Bool := decide (-1099511627776 ≤ t ∧ t ≤ 1099511627776)
def hFind (A : List HA) (s : Bs) : Option HA := A.find? fun x => x.1 == s
/-- What is wrong with a point that is to be added. -/
def hFault (A : List HA) (s : Bs) (p : Int × Int) : Nat × Int :=
  if (rdF s).1 ≠ 0 then rdF s else if tickB p.1 = false then (2, -1) else match hFind A s with
    | some x => if p.1 ≤ x.2.2 then (8, -1) else (0, -1)
    | none => if 60 ≤ A.length then (7, -1) else (0, -1)
/-- A new line at its place. -/
def hIns (A : List HA) (x : HA) : List HA := A.takeWhile (fun y => decide (y.1 < x.1)) ++ x :: A.dropWhile (fun y => decide (y.1 < x.1))
def hPut (A : List HA) (s : Bs) (p : Int × Int) : List HA := A.map fun x => if x.1 == s then (s, x.2.1 ++ [p], p.1) else x
def hAdd (A : List HA) (s : Bs) (p : Int × Int) : List HA := match hFind A s with
  | some _ => hPut A s p
  | none => hIns A (s, [p], p.1)
def hSeries (A : List HA) : List Bs := (A.filter fun x => decide (x.2.1 ≠ [])).map (·.1)
def hCount (A : List HA) : Nat := (A.map fun x => x.2.1.length).sum
def hPoints (A : List HA) (s : Bs) (f t : Int) : List (Int × Int) := match hFind A s with
  | some x => betL f t x.2.1
  | none => []
def hGone (b : Int) (l : List (Int × Int)) : List (Int × Int) := l.takeWhile fun p => decide (p.1 < b)
def hLeft (b : Int) (l : List (Int × Int)) : List (Int × Int) := l.dropWhile fun p => decide (p.1 < b)
/-- What is cut: series and points. -/
def hCutR (A : List HA) (b : Int) : List (Bs × List (Int × Int)) := (A.filter fun x => decide (hGone b x.2.1 ≠ [])).map fun x => (x.1, hGone b x.2.1)
def hCut (A : List HA) (b : Int) : List HA := A.map fun x => (x.1, hLeft b x.2.1, x.2.2)
/-- Series rise. -/
def hSrt (A : List HA) : Prop := A.Pairwise fun x y => x.1 < y.1

theorem hFind_mem {A : List HA} {s : Bs} {x : HA} (h : hFind A s = some x) : x ∈ A ∧ x.1 = s := by
  unfold hFind at h
  have h1 := List.mem_of_find?_eq_some h
  have h2 := List.find?_some h
  exact ⟨h1, by simpa using h2⟩
theorem hFind_none {A : List HA} {s : Bs} (h : hFind A s = none) : ∀ x ∈ A, x.1 ≠ s := by
  unfold hFind at h
  rw [List.find?_eq_none] at h
  intro x hx e
  exact h x hx (by simp [e])
theorem hFault_ok {A : List HA} {s : Bs} {p : Int × Int} (h : (hFault A s p).1 = 0) : (rdF s).1 = 0 ∧ tickB p.1 = true ∧ ((∃ x, hFind A s = some x ∧ x.2.2 < p.1) ∨ (hFind A s = none ∧ A.length < 60)) := by
  unfold hFault at h
  split at h
  · exact absurd h (by assumption)
  · rename_i h0
    split at h
    · cases h
    · rename_i h1
      refine ⟨by simpa using h0, by simpa using h1, ?_⟩
      cases hf : hFind A s with
      | some x =>
        rw [hf] at h
        have h : (if p.1 ≤ x.2.2 then ((8, -1) : Nat × Int) else (0, -1)).1 = 0 := h
        refine .inl ⟨x, rfl, ?_⟩
        by_cases h2 : p.1 ≤ x.2.2
        · rw [if_pos h2] at h; cases h
        · omega
      | none =>
        rw [hf] at h
        have h : (if 60 ≤ A.length then ((7, -1) : Nat × Int) else (0, -1)).1 = 0 := h
        refine .inr ⟨rfl, ?_⟩
        by_cases h2 : 60 ≤ A.length
        · rw [if_pos h2] at h; cases h
        · omega
theorem mem_takeWhile_lt {A : List HA} {s : Bs} {y : HA} (h : y ∈ A.takeWhile (fun y => decide (y.1 < s))) : y.1 < s := by
  induction A with
  | nil => cases h
  | cons a A ih =>
    rw [List.takeWhile_cons] at h
    split at h
    · rename_i ha
      rcases List.mem_cons.1 h with rfl | h
      · simpa using ha
      · exact ih h
    · cases h
theorem mem_dropWhile_gt {A : List HA} {s : Bs} (hs : hSrt A) (hn : ∀ x ∈ A, x.1 ≠ s) {y : HA} (h : y ∈ A.dropWhile (fun y => decide (y.1 < s))) : s < y.1 := by
  induction A with
  | nil => cases h
  | cons a A ih =>
    rw [List.dropWhile_cons] at h
    have hs' := List.pairwise_cons.1 hs
    split at h
    · exact ih hs'.2 (fun x hx => hn x (List.mem_cons_of_mem _ hx)) h
    · rename_i ha
      have h1 : ¬ a.1 < s := by simpa using ha
      have h2 : s < a.1 := by
        rcases lt_or_bs a.1 s with h | h | h
        · exact absurd h h1
        · exact absurd h (hn a List.mem_cons_self)
        · exact h
      rcases List.mem_cons.1 h with rfl | h
      · exact h2
      · exact List.lt_trans h2 (hs'.1 y h)
theorem hIns_srt {A : List HA} {x : HA} (hs : hSrt A) (hn : ∀ y ∈ A, y.1 ≠ x.1) : hSrt (hIns A x) := by
  unfold hSrt hIns
  rw [List.pairwise_append, List.pairwise_cons]
  refine ⟨List.Pairwise.sublist (List.takeWhile_sublist _) hs, ⟨fun y hy => mem_dropWhile_gt hs hn hy, List.Pairwise.sublist (List.dropWhile_sublist _) hs⟩, fun y hy z hz => ?_⟩
  have h1 := mem_takeWhile_lt hy
  rcases List.mem_cons.1 hz with rfl | hz
  · exact h1
  · exact List.lt_trans h1 (mem_dropWhile_gt hs hn hz)
theorem hIns_mem {A : List HA} {x y : HA} : y ∈ hIns A x ↔ y = x ∨ y ∈ A := by
  unfold hIns
  rw [List.mem_append, List.mem_cons]
  have e : y ∈ A ↔ y ∈ A.takeWhile (fun y => decide (y.1 < x.1)) ∨ y ∈ A.dropWhile (fun y => decide (y.1 < x.1)) := by
    rw [← List.mem_append, List.takeWhile_append_dropWhile]
  rw [e]
  constructor
  · rintro (h | h | h)
    · exact .inr (.inl h)
    · exact .inl h
    · exact .inr (.inr h)
  · rintro (h | h | h)
    · exact .inr (.inl h)
    · exact .inl h
    · exact .inr (.inr h)
theorem hIns_len (A : List HA) (x : HA) : (hIns A x).length = A.length + 1 := by
  unfold hIns
  have e := congrArg List.length (List.takeWhile_append_dropWhile (p := fun y : HA => decide (y.1 < x.1)) (l := A))
  rw [List.length_append] at e
  rw [List.length_append, List.length_cons]; omega
theorem hPut_names (A : List HA) (s : Bs) (p : Int × Int) : (hPut A s p).map (·.1) = A.map (·.1) := by
  unfold hPut
  rw [List.map_map]
  apply List.map_congr_left
  intro x _
  simp only [Function.comp]
  split
  · rename_i h; simpa using (by simpa using h : x.1 = s).symm
  · rfl
theorem srt_names {A B : List HA} (h : A.map (·.1) = B.map (·.1)) (hs : hSrt A) : hSrt B := by
  unfold hSrt at *
  have h1 : (A.map (·.1)).Pairwise (fun x y : Bs => x < y) := by rw [List.pairwise_map]; exact hs
  rw [h, List.pairwise_map] at h1
  exact h1
theorem hAdd_srt {A : List HA} {s : Bs} {p : Int × Int} (hs : hSrt A) : hSrt (hAdd A s p) := by
  unfold hAdd
  cases hf : hFind A s with
  | some x => exact srt_names (hPut_names A s p).symm hs
  | none => exact hIns_srt hs (hFind_none hf)
theorem hCut_srt {A : List HA} {b : Int} (hs : hSrt A) : hSrt (hCut A b) := srt_names (by unfold hCut; rw [List.map_map]; rfl) hs
end Go.Proofs.YthgefobcohlegaaGreatDoor
