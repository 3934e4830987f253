/- label.Read by its contract. -/
import Derived.Test.YtfkklcmepcocoaaGreatDoorSplit
namespace Go.Proofs.YtfkklcmepcocoaaGreatDoor
open Go.RowKit Go.Shelf
attribute [local go_sem] Oper.semAt_some
set_option linter.unusedVariables false

theorem infoLb : (Tryz.prog.info? 171).map (fun i => (i.zero, i.size, i.bytes)) = some (some (.agg #[.string ⟨#[]⟩, .string ⟨#[]⟩]), 2, 32) := by kernel_rfl
/-- What Read answers. -/
def RPost (es : Nat → Addr) (s : Bs) (w : World) (e : Ending) (w' : World) : Prop :=
  (parseL s = none → e = .returned (.tuple #[.slice none 0 0, sentV (es 0)])) ∧
  (∀ l, parseL s = some l → 6 < l.length → e = .returned (.tuple #[.slice none 0 0, sentV (es 1)])) ∧
  (∀ l i, parseL s = some l → l.length ≤ 6 → i < l.length → (∀ j, j < i → lbOk l j) → ¬ lbOk l i → ∃ pb, e = .returned (.tuple #[.slice none 0 0, faultV ⟨pb, 0, none⟩]) ∧ w.heap.size ≤ pb ∧ pb < w'.heap.size ∧ w'.cell? ⟨pb, 0, none⟩ = some (.int .i64 i) ∧ w'.cell? ⟨pb, 1, none⟩ = some (sentV (es (lbCode l i)))) ∧
  (∀ l, parseL s = some l → l.length ≤ 6 → (∀ j, j < l.length → lbOk l j) → ∃ v, e = .returned (.tuple #[v, .nilIface]) ∧ w'.ownsRow w.heap.size 171 2 v l.length (lbC l)) ∧ Below w.heap.size w w'
theorem Below.putObj_ {B : Nat} {a w : World} (h : Below B a w) {l : Nat} (hl : B ≤ l) (o : Obj) : Below B a (w.putObj l o) :=
  ⟨h.os, h.tape, h.output, by rw [World.putObj_size]; exact h.size, fun i hi => (World.putObj_heap_other (by omega)).trans (h.block i hi)⟩
theorem Blk.putObj_ {w : World} {g : Nat} {t : TypeId} {cs : Array Value} (h : Blk w g t cs) {l : Nat} (hl : g ≠ l) (o : Obj) : Blk (w.putObj l o) g t cs := (World.putObj_heap_other hl).trans h
/-- Between two rounds. -/
def RInv (b : Nat) (w : World) (pre : List Bs) (X : World) : Prop :=
  ∃ v l, pre.mapM cutE = some l ∧ Blk X b 116 #[.slice none 0 0] ∧ Blk X (b + 1) 29 #[.nilIface] ∧ Blk X (b + 2) 116 #[v] ∧ X.ownsRow (b + 8) 171 2 v l.length (lbC l) ∧ Below b w X
/-- A round has left. -/
def RBad (es : Nat → Addr) (b : Nat) (w : World) (pre : List Bs) (X : World) : Prop :=
  pre.mapM cutE = none ∧ Blk X b 116 #[.slice none 0 0] ∧ Blk X (b + 1) 29 #[sentV (es 0)] ∧ Below b w X
theorem Fr.toBelow {S : Nat → Prop} {B : Nat} {w X Y : World} (h : Below B w X) (hB : B ≤ w.heap.size) (hf : Fr S X Y) (hS : ∀ k, k < B → ¬ S k) : Below B w Y :=
  h.trans (hf.below (Nat.le_trans hB h.size) hS)
theorem RInv.fr {b : Nat} {w : World} {p : List Bs} {X Y : World} (h : RInv b w p X) (hb : b ≤ w.heap.size) (hf : Fr (fun k => k = b + 3 ∨ k = b + 6 ∨ k = b + 6 + 1) X Y) : RInv b w p Y := by
  obtain ⟨v, l, h1, h2, h3, h4, h5, h6⟩ := h
  refine ⟨v, l, h1, hf.blk h2 (by omega), hf.blk h3 (by omega), hf.blk h4 (by omega), hf.own h5 (fun k hk => ?_), Fr.toBelow h6 hb hf (fun k hk => by omega)⟩
  have := (own_lt h5 k hk).1
  omega
theorem RBad.fr {es : Nat → Addr} {b : Nat} {w : World} {p : List Bs} {X Y : World} (h : RBad es b w p X) (hb : b ≤ w.heap.size) (hf : Fr (fun k => k = b + 3 ∨ k = b + 6 ∨ k = b + 6 + 1) X Y) : RBad es b w p Y := by
  obtain ⟨h1, h2, h3, h4⟩ := h
  exact ⟨h1, hf.blk h2 (by omega), hf.blk h3 (by omega), Fr.toBelow h4 hb hf (fun k hk => by omega)⟩
theorem rbad_done {es : Nat → Addr} {b : Nat} {w X X1 : World} {p : List Bs} (hp : p.mapM cutE = none) (hb : Below X.heap.size X X1) (h0 : Blk X1 b 116 #[.slice none 0 0]) (h1 : Blk X1 (b + 1) 29 #[.nilIface]) (hB : Below b w X1) (hs : b + 6 + 2 ≤ X.heap.size) :
    let Y := ((X1.setCell ⟨b, 0, none⟩ (.slice none 0 0)).setCell ⟨b + 1, 0, none⟩ (sentV (es 0))).drew
    RBad es b w p Y ∧ b + 6 + 2 ≤ X1.heap.size ∧ Y.heap[b + 3]? = X.heap[b + 3]? ∧ Y.heap[b + 3 + 1]? = X.heap[b + 3 + 1]? ∧ Y.heap[b + 3 + 2]? = X.heap[b + 3 + 2]? ∧ Y.heap[b + 6]? = X.heap[b + 6]? ∧ Y.heap[b + 6 + 1]? = X.heap[b + 6 + 1]? := by
  intro Y
  have hx := hb.size
  have hf : Fr (fun k => k = b ∨ k = b + 1) X1 Y := ((Fr.setCell (S := fun k => k = b ∨ k = b + 1) (Fr.refl _ X1) (p := ⟨b, 0, none⟩) (.inr (.inl rfl)) _).setCell (p := ⟨b + 1, 0, none⟩) (.inr (.inr rfl)) _).drew
  have key : ∀ k, b + 2 ≤ k → k < X.heap.size → Y.heap[k]? = X.heap[k]? := fun k h1 h2 => (hf.block k (by omega) (by omega)).trans (hb.block k h2)
  refine ⟨⟨hp, ((h0.set_ 0 (.slice none 0 0)).far (p := ⟨b + 1, 0, none⟩) (by simp) _).drew, ((h1.far (p := ⟨b, 0, none⟩) (by simp) _).set_ 0 (sentV (es 0))).drew, hB.trans (hf.below ?_ (fun k hk => by omega))⟩, by omega, key _ (by omega) (by omega), key _ (by omega) (by omega), key _ (by omega) (by omega), key _ (by omega) (by omega), key _ (by omega) (by omega)⟩
  omega
theorem lbC_snoc (l : List Lb) (q : Lb) : lbC (l ++ [q]) = lbC l ++ [.string (B8 q.1), .string (B8 q.2)] := by simp [lbC]
theorem rinv_done {b : Nat} {w X X1 Z : World} {p' : List Bs} {l : List Lb} {q : Lb} {v v' : Value} (hp : p'.mapM cutE = some (l ++ [q])) (hb : Below X.heap.size X X1) (h0 : Blk X1 b 116 #[.slice none 0 0]) (h1 : Blk X1 (b + 1) 29 #[.nilIface]) (h2 : Blk X1 (b + 2) 116 #[v])
    (ho : X1.ownsRow (b + 8) 171 2 v l.length (lbC l)) (hB : Below b w X1) (hs : b + 6 + 2 ≤ X.heap.size)
    (hown' : Z.ownsRow (b + 8) 171 2 v' (l.length + 1) (lbC l ++ [.string (B8 q.1), .string (B8 q.2)])) (hgr : (X1.alloc (.cells #[.string (B8 q.1), .string (B8 q.2)] 171)).grownBy Z v.ownBlock) :
    Blk Z (b + 2) 116 #[v] ∧ RInv b w p' (Z.setCell ⟨b + 2, 0, none⟩ v') ∧ b + 6 + 2 ≤ Z.heap.size ∧ (Z.setCell ⟨b + 2, 0, none⟩ v').heap[b + 3]? = X.heap[b + 3]? ∧ (Z.setCell ⟨b + 2, 0, none⟩ v').heap[b + 3 + 1]? = X.heap[b + 3 + 1]? ∧ (Z.setCell ⟨b + 2, 0, none⟩ v').heap[b + 3 + 2]? = X.heap[b + 3 + 2]? ∧ (Z.setCell ⟨b + 2, 0, none⟩ v').heap[b + 6]? = X.heap[b + 6]? ∧ (Z.setCell ⟨b + 2, 0, none⟩ v').heap[b + 6 + 1]? = X.heap[b + 6 + 1]? := by
  have hx := hb.size
  have hfz : Fr (fun k => b + 8 ≤ k) X1 Z := ((Fr.refl _ X1).alloc _).grown hgr (fun k hk => .inr (own_lt ho k hk).1)
  have hf : Fr (fun k => b + 8 ≤ k ∨ k = b + 2) X1 (Z.setCell ⟨b + 2, 0, none⟩ v') := Fr.setCell (hfz.mono fun _ _ h => .inl h) (p := ⟨b + 2, 0, none⟩) (.inr (.inr rfl)) _
  have hz2 : Blk Z (b + 2) 116 #[v] := hfz.blk h2 (by omega)
  have key : ∀ k, b + 3 ≤ k → k < b + 8 → (Z.setCell ⟨b + 2, 0, none⟩ v').heap[k]? = X.heap[k]? := fun k k1 k2 => (hf.block k (by omega) (by omega)).trans (hb.block k (by omega))
  refine ⟨hz2, ⟨v', l ++ [q], hp, hf.blk h0 (by omega), hf.blk h1 (by omega), hz2.set_ 0 v', ?_, hB.trans (hf.below (by omega) (fun k hk => by omega))⟩, by have := hfz.size; omega, key _ (by omega) (by omega), key _ (by omega) (by omega), key _ (by omega) (by omega), key _ (by omega) (by omega), key _ (by omega) (by omega)⟩
  rw [lbC_snoc, List.length_append, List.length_singleton]
  refine own_set hown' (p := ⟨b + 2, 0, none⟩) (fun e => ?_) _
  have h : b + 8 ≤ b + 2 := (own_lt hown' _ e.symm).1
  omega
theorem lb_one2 (q : Lb) : ∀ u ∈ [Value.string (B8 q.1), Value.string (B8 q.2)], u.oneCell' = true := by
  intro u hu; simp at hu; rcases hu with rfl | rfl <;> rfl
theorem new2 (W : World) (t : TypeId) (u0 u1 : Value) : ∀ (j : Nat) u, [u0, u1][j]? = some u → (W.alloc (.cells #[u0, u1] t)).cell? ((⟨W.heap.size, 0, none⟩ : Addr).add j) = some u := by
  intro j u hu
  rw [add_at, Nat.zero_add, (Blk.new W t #[u0, u1]).cell j]
  simpa using hu
theorem cell_of_block {X Y : World} {a : Addr} (h : Y.heap[a.block]? = X.heap[a.block]?) : Y.cell? a = X.cell? a := by unfold World.cell?; rw [h]
theorem fin_set {b : Nat} {X : World} {u0 u1 : Value} (h0 : Blk X b 116 #[u0]) (h1 : Blk X (b + 1) 29 #[u1]) (hD : X.heap[b + 6]? = some (.deferred (some []))) (v0 v1 : Value) :
    ((X.setCell ⟨b, 0, none⟩ v0).setCell ⟨b + 1, 0, none⟩ v1).heap[b + 6]? = some (.deferred (some [])) ∧ Blk (((X.setCell ⟨b, 0, none⟩ v0).setCell ⟨b + 1, 0, none⟩ v1).putObj (b + 6) (.deferred none)) b 116 #[v0] ∧ Blk (((X.setCell ⟨b, 0, none⟩ v0).setCell ⟨b + 1, 0, none⟩ v1).putObj (b + 6) (.deferred none)) (b + 1) 29 #[v1] ∧
      Fr (fun k => k = b ∨ k = b + 1 ∨ k = b + 6) X (((X.setCell ⟨b, 0, none⟩ v0).setCell ⟨b + 1, 0, none⟩ v1).putObj (b + 6) (.deferred none)) := by
  have hl := (Array.getElem?_eq_some_iff.1 hD).1
  have hf : Fr (fun k => k = b ∨ k = b + 1 ∨ k = b + 6) X ((X.setCell ⟨b, 0, none⟩ v0).setCell ⟨b + 1, 0, none⟩ v1) := (Fr.setCell (S := fun k => k = b ∨ k = b + 1 ∨ k = b + 6) (Fr.refl _ X) (p := ⟨b, 0, none⟩) (.inr (.inl rfl)) _).setCell (p := ⟨b + 1, 0, none⟩) (.inr (.inr (.inl rfl))) _
  refine ⟨?_, ((h0.set_ 0 v0).far (p := ⟨b + 1, 0, none⟩) (by simp) _).putObj_ (by omega) _, ((h1.far (p := ⟨b, 0, none⟩) (by simp) _).set_ 0 v1).putObj_ (by omega) _, hf.putObj (.inr (.inr rfl)) _⟩
  rw [Below.heap_setCell _ _ _ _ (by simp), Below.heap_setCell _ _ _ _ (by simp)]
  exact hD
theorem res_rd (tmps : Array Value) (W : World) (b : Nat) (v0 v1 : Value) (ha : tmps.getD 2 undef = .pointer (some ⟨b, 0, none⟩)) (hb : tmps.getD 3 undef = .pointer (some ⟨b + 1, 0, none⟩)) (h0 : Blk W b 116 #[v0]) (h1 : Blk W (b + 1) 29 #[v1]) (hv0 : v0.oneCell' = true) (hv1 : v1.oneCell' = true) :
    (results Tryz.f57 tmps).run Tryz.prog W = .ok (.tuple #[v0, v1]) W := by
  have z0 := h0.cell 0
  have z1 := h1.cell 0
  simp only [List.getElem?_toArray, List.getElem?_cons_zero] at z0 z1
  simp only [Array.getD_eq_getD_getElem?] at ha hb
  simp [results, Tryz.results57, go_sem, ha, hb, z0, z1]

set_option maxRecDepth 100000 in
set_option maxHeartbeats 4000000 in
theorem lread_any {es : Nat → Addr} {B : Nat} (s : Bs) (hs : s.length ≤ 100000) (w : World) (hS : SVL es B w) (hB0 : B ≤ w.heap.size) :
    Calls Tryz.prog 57 #[.string (B8 s)] w (RPost es s w) := by
  refine (callsIn_wide (n := 9)).1 ?_
  refine callsIn_of_wp_marks Tryz.func57 rfl trivial ?_ rfl
  simp only [Tryz.ntmps57, List.size_toArray, List.length_cons, List.length_nil, Nat.reduceAdd, Nat.reduceSub, Array.replicate_succ, Array.replicate_zero, List.push_toArray, List.append_toArray, List.nil_append, List.cons_append]
  gi_wp2_with fail
  refine ⟨trivial, (callsIn_wide.2 (splitSeq_any _ _)).mono ?_⟩
  rintro e W ⟨rfl, hW⟩
  obtain ⟨b, hb⟩ : ∃ b, b = w.heap.size := ⟨_, rfl⟩
  have hsz : W.heap.size = b + 6 := by rw [hW, hb]; simp
  have K0 : Blk W b 116 #[.slice none 0 0] := by rw [hW, hb]; exact (((((Blk.new w _ _).alloc _).alloc _).alloc _).alloc _).alloc _
  have K1 : Blk W (b + 1) 29 #[.nilIface] := by
    rw [hW, hb]
    have := Blk.new (w.alloc (.cells #[.slice none 0 0] 116)) 29 #[.nilIface]
    rw [World.size_alloc] at this
    exact (((this.alloc _).alloc _).alloc _).alloc _
  have K2 : Blk W (b + 2) 116 #[.slice none 0 0] := by
    rw [hW, hb]
    have := Blk.new ((w.alloc (.cells #[.slice none 0 0] 116)).alloc (.cells #[.nilIface] 29)) 116 #[.slice none 0 0]
    simp only [World.size_alloc] at this
    exact ((this.alloc _).alloc _).alloc _
  have K3 : Blk W (b + 3) 9 #[.string (B8 s)] := by
    rw [hW, hb]
    have := Blk.new (((w.alloc (.cells #[.slice none 0 0] 116)).alloc (.cells #[.nilIface] 29)).alloc (.cells #[.slice none 0 0] 116)) 9 #[.string (B8 s)]
    simp only [World.size_alloc] at this
    exact (this.alloc _).alloc _
  have K4 : Blk W (b + 4) 9 #[.string ⟨#[44]⟩] := by
    rw [hW, hb]
    have := Blk.new ((((w.alloc (.cells #[.slice none 0 0] 116)).alloc (.cells #[.nilIface] 29)).alloc (.cells #[.slice none 0 0] 116)).alloc (.cells #[.string (B8 s)] 9)) 9 #[.string ⟨#[44]⟩]
    simp only [World.size_alloc] at this
    exact this.alloc _
  have K5 : Blk W (b + 5) 3 #[.int .i64 0] := by
    rw [hW, hb]
    have := Blk.new (((((w.alloc (.cells #[.slice none 0 0] 116)).alloc (.cells #[.nilIface] 29)).alloc (.cells #[.slice none 0 0] 116)).alloc (.cells #[.string (B8 s)] 9)).alloc (.cells #[.string ⟨#[44]⟩] 9)) 3 #[.int .i64 0]
    simp only [World.size_alloc] at this
    exact this
  have hbl : Below b w W := by rw [hW, hb]; go_grown
  have hfun : ((((w.alloc (.cells #[.slice none 0 0] 116)).alloc (.cells #[.nilIface] 29)).alloc (.cells #[.slice none 0 0] 116)).heap.size) = b + 3 := by rw [hb]; simp
  rw [hfun]
  clear hW hfun
  have KK0 := Lib.hid K0; have KK1 := Lib.hid K1; have KK2 := Lib.hid K2; have KK3 := Lib.hid K3; have KK4 := Lib.hid K4; have KK5 := Lib.hid K5
  have HBl := Lib.hid hbl; have Hsz := Lib.hid hsz; have Hb := Lib.hid hb; have HS := Lib.hid hS
  rw [← hb, show b + 1 + 1 = b + 2 from rfl]
  clear K0 K1 K2 K3 K4 K5 hbl hsz hb hS
  gi_wp2
  refine wp_split (b + 3) s (by omega) (by rw [Hsz.out]; omega) rfl rfl KK3.out KK4.out KK5.out (RInv b w) (RBad es b w) ?hI ?hIx ?h0
    (fun x => { tmps := #[.string (B8 s), undef, .pointer (some ⟨b, 0, none⟩), .pointer (some ⟨b + 1, 0, none⟩), .pointer (some ⟨b + 2, 0, none⟩), .string (B8 x), undef, undef, undef, undef, .string (B8 s),
      .func (.func 177) #[] #[.pointer (some ⟨b + 3 + 1, 0, none⟩), .pointer (some ⟨b + 3, 0, none⟩), .pointer (some ⟨b + 3 + 2, 0, none⟩)], .string (B8 x), undef, undef, undef, undef, undef, undef, undef, undef, undef, undef, undef, undef, undef, undef, undef, undef, undef, undef, undef, undef, undef], defers := [] }) ?assign ?body ?done ?stop
  case hI => exact fun p X Y h hf => h.fr (Nat.le_of_eq Hb.out) (hf.mono fun k _ h => by have := Hsz.out; omega)
  case hIx => exact fun p X Y h hf => h.fr (Nat.le_of_eq Hb.out) (hf.mono fun k _ h => by have := Hsz.out; omega)
  case h0 =>
    intro Y hY _
    have hsz := Hsz.out
    exact ⟨.slice none 0 0, [], rfl, KK0.out.below hY (by omega), KK1.out.below hY (by omega), KK2.out.below hY (by omega), World.ownsRow_nil _ _ _ _, HBl.out.trans (hY.mono (by omega))⟩
  case assign =>
    intro x X K hK
    gi_wp2
    exact hK
  case body =>
    rintro pre x X ⟨v, l, hl, q0, q1, q2, ho, hbX⟩ hszX hpre
    have hsz := Hsz.out
    have HbX := Lib.hid hbX; have Q0 := Lib.hid q0; have Q1 := Lib.hid q1; have Q2 := Lib.hid q2; have Ho := Lib.hid ho; have Hl := Lib.hid hl; have Hpre := Lib.hid hpre
    clear hbX q0 q1 q2 ho hl hpre
    cases hc : cutE x with
    | none =>
      gi_wp2_with fail
      refine ⟨trivial, (CallsIn.inRound _ (callsIn_wide.2 (cut_none x hc _))).mono ?_⟩
      rintro e X1 ⟨rfl, hbb⟩
      have HB1 := Lib.hid (show Below b w X1 from HbX.out.trans (hbb.mono (by rw [Hb.out]; exact (by have := HbX.out.size; omega))))
      have hsx := HbX.out.size
      have hX1 := hbb.size
      have P0 := Lib.hid (Q0.out.below hbb Q0.out.lt); have P1 := Lib.hid (Q1.out.below hbb Q1.out.lt)
      have hS1 := HS.out.below (HB1.out.mono (B := b) (Nat.le_refl _)) (by rw [Hb.out]; exact hB0)
      have gx : X1.cell? ⟨4, 0, none⟩ = some (sentV (es 0)) := hS1.var 0 (by decide)
      have hgl := hS1.glt 0 (by decide)
      have hgb : 4 ≠ b := by rw [Hb.out]; exact Nat.ne_of_lt (Nat.lt_of_lt_of_le hgl hB0)
      have gx2 : (X1.setCell ⟨b, 0, none⟩ (.slice none 0 0)).cell? ⟨4, 0, none⟩ = some (sentV (es 0)) := (World.cell?_setCell_other _ _ _ _ (fun e => hgb (by injection e with e1; exact e1.symm))).trans gx
      have y0 : X1.cell? ⟨b, 0, none⟩ = some (.slice none 0 0) := P0.out.cell 0
      have y1 : X1.cell? ⟨b + 1, 0, none⟩ = some .nilIface := P1.out.cell 0
      have f0 := P0.out.frozen 0
      have f1 := P1.out.frozen 0
      have hmx : Tryz.prog.follows .mixedOrders = true := by kernel_rfl
      have Hfin := Lib.hid (rbad_done (es := es) (b := b) (w := w) (X := X) (X1 := X1) (p := pre ++ [x]) (by rw [mapM_app, Hl.out, mapM_one, hc]; rfl) hbb P0.out P1.out HB1.out (by omega))
      clear hbb hgl hS1
      gi_wp2
      gi_region_with_o (fail)
      all_goals gi_wp2
      all_goals exact Hfin.out
    | some q =>
      obtain ⟨A1, c1, rfl, _, _, _⟩ := own_form Ho.out
      have hlx : x.length ≤ s.length ∧ l.length ≤ s.length + 1 := by
        obtain ⟨r, hr⟩ := Hpre.out
        have hj := split_len s
        rw [← hr] at hj
        have e1 := hj.2 x (by simp)
        have e2 : pre.length ≤ s.length + 1 := by have := hj.1; simp at this; omega
        have e3 : pre.length = l.length := by rw [mapM_cut Hl.out, List.length_map]
        exact ⟨e1, by omega⟩
      obtain ⟨i0, hi, hz0, hz1, hz2⟩ := info_parts infoLb
      have Hi := Lib.hid hi; have Hz0 := Lib.hid hz0; have Hz1 := Lib.hid hz1; have Hz2 := Lib.hid hz2
      have hk63 : l.length + 1 ≤ maxLen := by unfold maxLen; omega
      have hk8 : (l.length + 1) * 32 ≤ 140737488355328 := by omega
      clear hi hz0 hz1 hz2
      gi_wp2_with fail
      refine ⟨trivial, (CallsIn.inRound _ (callsIn_wide.2 (cut_some x q hc (by omega) _))).mono ?_⟩
      rintro e X1 ⟨rfl, hbb⟩
      have HB1 := Lib.hid (show Below b w X1 from HbX.out.trans (hbb.mono (by rw [Hb.out]; exact (by have := HbX.out.size; omega))))
      have hX1 := hbb.size
      have P0 := Lib.hid (Q0.out.below hbb Q0.out.lt); have P1 := Lib.hid (Q1.out.below hbb Q1.out.lt); have P2 := Lib.hid (Q2.out.below hbb Q2.out.lt)
      have Ho1 := Lib.hid (own_below Ho.out hbb (Nat.le_refl _))
      have y2 : X1.cell? ⟨b + 2, 0, none⟩ = some (.slice A1 l.length c1) := P2.out.cell 0
      have Hbb := Lib.hid hbb
      have y2' : (X1.alloc (.cells #[.string (B8 q.1), .string (B8 q.2)] 171)).cell? ⟨b + 2, 0, none⟩ = some (.slice A1 l.length c1) := (P2.out.alloc _).cell 0
      have Hp' := Lib.hid (show (pre ++ [x]).mapM cutE = some (l ++ [q]) from by rw [mapM_app, Hl.out, mapM_one, hc]; rfl)
      have hb8 : b + 8 ≤ (X1.alloc (.cells #[.string (B8 q.1), .string (B8 q.2)] 171)).heap.size := by simp; omega
      have Hb8 := Lib.hid hb8
      clear hbb hb8
      gi_wp2_with (gi_at_builtin; refine wpListIn_append_own _ rfl (.tmp 22) (.tmp 26) _ rfl (b + 8) 171 i0 (.agg #[.string ⟨#[]⟩, .string ⟨#[]⟩]) 2 32 Tryz.underlying116 Hi.out Hz0.out Hz1.out Hz2.out rfl (by decide) (.slice A1 l.length c1) l.length (lbC l) rfl (Ho1.out.alloc _) ⟨X1.heap.size, 0, none⟩ 1 1 [.string (B8 q.1), .string (B8 q.2)] rfl rfl (new2 _ _ _ _) (lb_one2 q) hk63 hk8 Hb8.out ?_; intro v' Z hown' hgr _; have Hfin := Lib.hid (rinv_done Hp'.out Hbb.out P0.out P1.out P2.out Ho1.out HB1.out (by omega) hown' hgr); obtain ⟨A2, c2, rfl, _, _, _⟩ := own_form hown'; have z2 := Hfin.out.1.cell 0; have f2 := Hfin.out.1.frozen 0; simp only [List.getElem?_toArray, List.getElem?_cons_zero] at z2; clear hown' hgr)
      exact Hfin.out.2
  case done =>
    rintro X ⟨v, l, hl, q0, q1, q2, ho, hbX⟩ hD
    have hsz := Hsz.out
    obtain ⟨A1, c1, rfl, _, _, hrd⟩ := own_form ho
    have hwX : w.heap.size ≤ X.heap.size := hbX.size
    have Hpl := Lib.hid (show parseL s = some l from hl)
    have h1 : 1 ≤ l.length := by
      have e := congrArg List.length (mapM_cut hl)
      rw [List.length_map] at e
      have := splitC_ne 44 s
      rcases Nat.eq_zero_or_pos l.length with h | h
      · exact absurd (List.length_eq_zero_iff.1 (e.trans h)) this
      · exact h
    have HbX := Lib.hid (show Below w.heap.size w X by rw [← Hb.out]; exact hbX)
    have Q0 := Lib.hid q0; have Q1 := Lib.hid q1; have Q2 := Lib.hid q2; have Ho := Lib.hid ho; have HR := Lib.hid hrd; have HD := Lib.hid hD
    have HSX := Lib.hid (HS.out.below HbX.out hB0)
    have x2 : X.cell? ⟨b + 2, 0, none⟩ = some (.slice A1 l.length c1) := q2.cell 0
    have hDl : b + 6 < X.heap.size := by have := (Array.getElem?_eq_some_iff.1 hD).1; omega
    have hl3 : b + 2 < X.heap.size := q2.lt
    rw [hsz] at hD
    have HD6 := Lib.hid hD
    clear hl q0 q1 q2 ho hrd hD hbX HD
    by_cases h6 : 6 < l.length
    · gi_wp2_with fail
      refine ⟨trivial, (callsIn_wide.2 (lcheck_long A1 l.length c1 _ HSX.out h6)).mono ?_⟩
      rintro e X' ⟨rfl, rfl⟩
      have y0 : X.cell? ⟨b, 0, none⟩ = some (.slice none 0 0) := Q0.out.cell 0
      have y1 : X.cell? ⟨b + 1, 0, none⟩ = some .nilIface := Q1.out.cell 0
      have f0 := Q0.out.frozen 0; have f1 := Q1.out.frozen 0
      gi_wp2
      obtain ⟨d1, d2, d3, d4⟩ := fin_set Q0.out Q1.out HD6.out (.slice none 0 0) (sentV (es 1))
      refine ⟨by simp, .inl ⟨_, _, rfl, run_takeDeferred d1, ?_⟩⟩
      refine ⟨_, res_rd _ _ b _ _ rfl rfl d2 d3 rfl rfl, fun h => ?_, fun l' hl' _ => rfl, fun l' i hl' h => ?_, fun l' hl' h => ?_, Fr.toBelow HbX.out (Nat.le_refl _) d4 (fun k hk => by have := Hb.out; omega)⟩
      · rw [Hpl.out] at h; cases h
      · rw [Hpl.out] at hl'; injection hl' with hl'; subst hl'; omega
      · rw [Hpl.out] at hl'; injection hl' with hl'; subst hl'; omega
    obtain ⟨i, hi1, hi2, hi3⟩ := first_lb l l.length
    have Hi2 := Lib.hid hi2; have Hi3 := Lib.hid hi3
    gi_wp2_with fail
    refine ⟨trivial, (callsIn_wide.2 (lcheck_any A1 l.length c1 l i _ HSX.out (Nat.le_trans hB0 hwX) HR.out h1 (by omega) hi1 Hi2.out Hi3.out)).mono ?_⟩
    rintro e X' ⟨hgood, hbad, hbb⟩
    have P0 := Lib.hid (Q0.out.below hbb Q0.out.lt); have P1 := Lib.hid (Q1.out.below hbb Q1.out.lt); have P2 := Lib.hid (Q2.out.below hbb Q2.out.lt)
    have PD := Lib.hid ((hbb.block _ hDl).trans HD6.out)
    have Po := Lib.hid (own_below Ho.out hbb (Nat.le_refl _))
    have HbX' := Lib.hid (Below.call HbX.out hbb hwX)
    have y0 : X'.cell? ⟨b, 0, none⟩ = some (.slice none 0 0) := P0.out.cell 0
    have y1 : X'.cell? ⟨b + 1, 0, none⟩ = some .nilIface := P1.out.cell 0
    have y2 : X'.cell? ⟨b + 2, 0, none⟩ = some (.slice A1 l.length c1) := P2.out.cell 0
    have y2' : (X'.setCell ⟨b, 0, none⟩ (.slice A1 l.length c1)).cell? ⟨b + 2, 0, none⟩ = some (.slice A1 l.length c1) := (P2.out.far (p := ⟨b, 0, none⟩) (by simp) _).cell 0
    have f0 := P0.out.frozen 0; have f1 := P1.out.frozen 0
    have hXX := hbb.size
    clear hbb
    by_cases hin : i < l.length
    · obtain ⟨pb, rfl, hpb, hpl, hp0, hp1⟩ := hbad hin
      have Hp0 := Lib.hid hp0; have Hp1 := Lib.hid hp1
      clear hgood hbad hp0 hp1
      gi_wp2
      obtain ⟨d1, d2, d3, d4⟩ := fin_set P0.out P1.out PD.out (.slice none 0 0) (faultV ⟨pb, 0, none⟩)
      refine ⟨by simp, .inl ⟨_, _, rfl, run_takeDeferred d1, ?_⟩⟩
      refine ⟨_, res_rd _ _ b _ _ rfl rfl d2 d3 rfl rfl, fun h => ?_, fun l' hl' h => ?_, fun l' i' hl' _ hi' hok' hbd' => ?_, fun l' hl' _ hok' => ?_, Fr.toBelow HbX'.out (Nat.le_refl _) d4 (fun k hk => by have := Hb.out; omega)⟩
      · rw [Hpl.out] at h; cases h
      · rw [Hpl.out] at hl'; injection hl' with hl'; subst hl'; omega
      · rw [Hpl.out] at hl'; injection hl' with hl'; subst hl'
        obtain rfl : i' = i := by
          rcases Nat.lt_trichotomy i' i with h | h | h
          · exact absurd (Hi2.out i' h) hbd'
          · exact h
          · exact absurd (hok' i h) (Hi3.out hin)
        have hq := d4.block pb hpl (by omega)
        exact ⟨pb, rfl, by omega, Nat.lt_of_lt_of_le hpl d4.size, (cell_of_block (a := ⟨pb, 0, none⟩) hq).trans Hp0.out, (cell_of_block (a := ⟨pb, 1, none⟩) hq).trans Hp1.out⟩
      · rw [Hpl.out] at hl'; injection hl' with hl'; subst hl'
        exact absurd (hok' i hin) (Hi3.out hin)
    · obtain rfl : i = l.length := by omega
      obtain rfl := hgood rfl
      clear hgood hbad
      gi_wp2
      obtain ⟨d1, d2, d3, d4⟩ := fin_set P0.out P1.out PD.out (.slice A1 l.length c1) .nilIface
      refine ⟨by simp, .inl ⟨_, _, rfl, run_takeDeferred d1, ?_⟩⟩
      refine ⟨_, res_rd _ _ b _ _ rfl rfl d2 d3 rfl rfl, fun h => ?_, fun l' hl' h => ?_, fun l' i' hl' _ hi' hok' hbd' => ?_, fun l' hl' _ hok' => ?_, Fr.toBelow HbX'.out (Nat.le_refl _) d4 (fun k hk => by have := Hb.out; omega)⟩
      · rw [Hpl.out] at h; cases h
      · rw [Hpl.out] at hl'; injection hl' with hl'; subst hl'; omega
      · rw [Hpl.out] at hl'; injection hl' with hl'; subst hl'
        exact absurd (Hi2.out i' hi') hbd'
      · rw [Hpl.out] at hl'; injection hl' with hl'; subst hl'
        refine ⟨_, rfl, own_base (d4.own Po.out (fun k hk => ?_)) (by have := Hb.out; omega)⟩
        have := (own_lt Po.out k hk).1
        omega
  case stop =>
    rintro pre X hpre ⟨hp, q0, q1, hbX⟩ hD
    have hsz := Hsz.out
    have hpn : parseL s = none := by
      obtain ⟨t, ht⟩ := hpre
      unfold parseL
      rw [← ht, mapM_app, hp]; rfl
    have HbX := Lib.hid (show Below w.heap.size w X by rw [← Hb.out]; exact hbX)
    gi_wp2
    refine ⟨by simp, .inl ⟨_, _, rfl, run_takeDeferred hD, ?_⟩⟩
    refine ⟨_, res_rd _ _ b _ _ rfl rfl (q0.putObj_ (by omega) _) (q1.putObj_ (by omega) _) rfl rfl, fun _ => rfl, fun l hl => ?_, fun l i hl => ?_, fun l hl => ?_, Below.putObj_ HbX.out (by rw [← Hb.out]; omega) _⟩
    · rw [hpn] at hl; cases hl
    · rw [hpn] at hl; cases hl
    · rw [hpn] at hl; cases hl
end Go.Proofs.YtfkklcmepcocoaaGreatDoor
