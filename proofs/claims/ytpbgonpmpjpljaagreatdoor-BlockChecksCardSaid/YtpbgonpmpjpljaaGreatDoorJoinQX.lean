/- block.Join by its contract. -/
import Derived.Test.YtpbgonpmpjpljaaGreatDoorMkoX
import Derived.Test.YtpbgonpmpjpljaaGreatDoorMkqX
import Derived.Deep.RegionHeld3
namespace Go.Proofs.YtpbgonpmpjpljaaGreatDoor
open Go.RowKit
set_option linter.unusedVariables false

/-- A block as an argument. -/
structure BArg where
  fr : Int
  sp : Int
  A : Option Addr
  C : Option Addr
  n : Nat
  c : Nat
  m : Nat
  d : Nat
  N : List Bs
  K : List (List Nat)
def BArg.v (x : BArg) : Value := .agg #[.int .i64 x.fr, .int .i64 x.sp, .slice x.A x.n x.c, .slice x.C x.m x.d]
structure BArg.Ok (x : BArg) (W : World) : Prop where
  a : Rd W W.heap.size 1 x.A x.n (x.N.map fun s => .string (B8 s))
  k : Rd W W.heap.size 1 x.C x.m (x.K.map fun z => .string (bytesOf z))
  nl : ∀ s ∈ x.N, s.length ≤ 100000
  kl : ∀ z ∈ x.K, z.length ≤ 100000 ∧ ∀ b ∈ z, b < 256
theorem BArg.Ok.below {x : BArg} {W W' : World} (h : x.Ok W) (hb : Below W.heap.size W W') : x.Ok W' := ⟨(h.a.below hb).more hb.size, (h.k.below hb).more hb.size, h.nl, h.kl⟩
/-- What block.Join answers. -/
def joinR (x y : BArg) : (Nat × Int) × List (Bs × List Nat) :=
  if (rowsR x.fr x.sp x.N x.K).1.1 ≠ 0 then ((rowsR x.fr x.sp x.N x.K).1, []) else if (rowsR y.fr y.sp y.N y.K).1.1 ≠ 0 then ((rowsR y.fr y.sp y.N y.K).1, []) else
  if x.fr + x.sp ≠ y.fr then ((3, -1), []) else if 100000 < x.sp + y.sp then ((2, -1), []) else
  if (makeR x.fr (x.sp + y.sp) (bothR ((rowsR x.fr x.sp x.N x.K).2 ++ (rowsR y.fr y.sp y.N y.K).2))).1.1 ≠ 0 then ((2, -1), []) else
  makeR x.fr (x.sp + y.sp) (bothR ((rowsR x.fr x.sp x.N x.K).2 ++ (rowsR y.fr y.sp y.N y.K).2))
theorem res_jn (tmps : Array Value) (W : World) (b : Nat) (v0 v1 v2 v3 ev : Value) (ha : tmps.getD 4 undef = .pointer (some ⟨b, 0, none⟩)) (hk : tmps.getD 5 undef = ev) (hB : Blk W b 37 #[v0, v1, v2, v3]) :
    (results Tryz.f16 tmps).run Tryz.prog W = .ok (.tuple #[.agg #[v0, v1, v2, v3], ev]) W := by
  have z0 := hB.cell 0; have z1 := hB.cell 1; have z2 := hB.cell 2; have z3 := hB.cell 3
  simp only [List.getElem?_toArray, List.getElem?_cons_zero, List.getElem?_cons_succ] at z0 z1 z2 z3
  simp only [Array.getD_eq_getD_getElem?] at ha hk
  simp [results, Tryz.results16, go_sem, ha, hk, z0, z1, z2, z3]
theorem rowsR_bnd {fr sp : Int} {N : List Bs} {K : List (List Nat)} (h : (rowsR fr sp N K).1.1 = 0) : bndB fr sp = true := by
  unfold rowsR at h
  split at h
  · cases h
  · rename_i h1
    simpa using h1
theorem rowsR_names {fr sp : Int} {N : List Bs} {K : List (List Nat)} (hl : ∀ s ∈ N, s.length ≤ 100000) : ∀ r ∈ (rowsR fr sp N K).2, r.1.length ≤ 100000 := by
  intro r hr
  unfold rowsR at hr
  split at hr
  · cases hr
  split at hr
  · cases hr
  split at hr
  · cases hr
  split at hr
  · cases hr
  · obtain ⟨i, _, rfl⟩ := List.mem_map.1 hr
    show (N.getD i []).length ≤ 100000
    rw [List.getD_eq_getElem?_getD]
    cases hi : N[i]? with
    | none => exact Nat.zero_le _
    | some s => exact hl s (List.mem_of_getElem? hi)
theorem bdecR_facts {xs : List Nat} {l : List (Int × Int)} (h : decR xs = .ok l) : l.length ≤ 120 ∧ (∀ p ∈ l, 0 ≤ p.2 ∧ p.2 < 18446744073709551616) ∧ (∀ j, j < l.length → okAt l j) ∧ chunkL l = xs := by
  unfold decR at h
  split at h
  · cases h
  split at h
  · cases h
  split at h
  · cases h
  rename_i l' hp
  obtain ⟨h1, h2⟩ := ptR_ok hp
  split at h
  · rename_i h3
    injection h with h
    subst h
    exact ⟨h1, h2, h3.1, h3.2⟩
  · cases h
theorem oneR_vals {fr en : Int} {ser : List Bs} {ch : List (List Nat)} {i : Nat} {l : List (Int × Int)} (h : oneR fr en ser ch i = .ok l) : ∀ p ∈ l, 0 ≤ p.2 ∧ p.2 < 18446744073709551616 := by
  unfold oneR oneV at h
  split at h
  · cases h
  split at h
  · cases h
  split at h
  · cases h
  · rename_i l' hd
    split at h
    · cases h
    split at h
    · injection h with h
      subst h
      exact (bdecR_facts hd).2.1
    · cases h
theorem rowsR_vals {fr sp : Int} {N : List Bs} {K : List (List Nat)} : ∀ r ∈ (rowsR fr sp N K).2, ∀ p ∈ r.2, 0 ≤ p.2 ∧ p.2 < 18446744073709551616 := by
  intro r hr
  unfold rowsR at hr
  split at hr
  · cases hr
  split at hr
  · cases hr
  split at hr
  · cases hr
  split at hr
  · cases hr
  · obtain ⟨i, _, rfl⟩ := List.mem_map.1 hr
    show ∀ p ∈ okL (oneR fr (fr + sp) N K i), _
    cases ho : oneR fr (fr + sp) N K i with
    | err c => exact fun p hp => by cases hp
    | ok l => exact oneR_vals ho
theorem catP_sub {l : List Rw} {s : Bs} {p : Int × Int} (h : p ∈ catP l s) : ∃ r ∈ l, p ∈ r.2 := by
  unfold catP at h
  obtain ⟨r, hr, hp⟩ := List.mem_flatMap.1 h
  exact ⟨r, (List.mem_filter.1 hr).1, hp⟩
theorem bothR_vals {l : List Rw} (h : ∀ r ∈ l, ∀ p ∈ r.2, 0 ≤ p.2 ∧ p.2 < 18446744073709551616) : ∀ r ∈ bothR l, ∀ p ∈ r.2, 0 ≤ p.2 ∧ p.2 < 18446744073709551616 := by
  intro r hr p hp
  obtain ⟨s, _, rfl⟩ := List.mem_map.1 hr
  obtain ⟨q, hq, hpq⟩ := catP_sub hp
  exact h q hq p hpq
theorem bothR_names {l : List Rw} {q : Nat} (h : ∀ r ∈ l, r.1.length ≤ q) : ∀ r ∈ bothR l, r.1.length ≤ q := by
  intro r hr
  obtain ⟨s, hs, rfl⟩ := List.mem_map.1 hr
  obtain ⟨x, hx, rfl⟩ := srtN_mem.1 hs
  exact h x hx
theorem bothR_len (l : List Rw) : (bothR l).length ≤ l.length := by unfold bothR; rw [List.length_map]; exact srtN_len l
theorem RowsRd.of_own2 {w' : World} {base : Nat} {Au : Option Addr} {m cu : Nat} {ls : List RowV} (hown : w'.ownsRow base 59 2 (.slice Au m cu) m (rowC ls)) (hro : RowsOwn base w' ls) : RowsRd w' w'.heap.size Au m ls :=
  ⟨Rd.of_own hown, fun r hr => by
    obtain ⟨A', c', e, _, _, hrd⟩ := own_form (hro r hr)
    exact ⟨A', c', e, hrd⟩⟩
/-- An error value stays where an older block is written. -/
theorem EV.fr4 {es : Nat → Addr} {C f : Nat} {W : World} {u : Value} {c : Nat × Int} (h : EV es C W u c) (hf : f < C) (u0 u1 u2 u3 : Value) : EV es C ((((W.setCell ⟨f, 0, none⟩ u0).setCell ⟨f, 1, none⟩ u1).setCell ⟨f, 2, none⟩ u2).setCell ⟨f, 3, none⟩ u3) u c := by
  have hr : Fr (fun k => k = f) W ((((W.setCell ⟨f, 0, none⟩ u0).setCell ⟨f, 1, none⟩ u1).setCell ⟨f, 2, none⟩ u2).setCell ⟨f, 3, none⟩ u3) :=
    ((((Fr.refl (fun k => k = f) W).setCell (p := ⟨f, 0, none⟩) (.inr rfl) u0).setCell (p := ⟨f, 1, none⟩) (.inr rfl) u1).setCell (p := ⟨f, 2, none⟩) (.inr rfl) u2).setCell (p := ⟨f, 3, none⟩) (.inr rfl) u3
  rcases h with h | h | ⟨k, pb, t, h1, h2, h3, h4, h5, h6, h7⟩
  · exact .inl h
  · exact .inr (.inl h)
  · have hp := hr.block pb h5 (fun e => by omega)
    exact .inr (.inr ⟨k, pb, t, h1, h2, h3, h4, Nat.lt_of_lt_of_le h5 hr.size, (World.cell?_of_block (a := ⟨pb, 0, none⟩) hp).trans h6, (World.cell?_of_block (a := ⟨pb, 1, none⟩) hp).trans h7⟩)
theorem Blk.far4 {W : World} {g f : Nat} {t : TypeId} {cs : Array Value} (h : Blk W g t cs) (hne : g ≠ f) (u0 u1 u2 u3 : Value) : Blk ((((W.setCell ⟨f, 0, none⟩ u0).setCell ⟨f, 1, none⟩ u1).setCell ⟨f, 2, none⟩ u2).setCell ⟨f, 3, none⟩ u3) g t cs :=
  (((h.far (p := ⟨f, 0, none⟩) hne u0).far (p := ⟨f, 1, none⟩) hne u1).far (p := ⟨f, 2, none⟩) hne u2).far (p := ⟨f, 3, none⟩) hne u3
theorem la_60 {fr sp : Int} {N : List Bs} {K : List (List Nat)} {ls : List RowV} (h : ls.map (fun r => (r.nm, r.pts)) = (rowsR fr sp N K).2) : ls.length ≤ 60 := by
  have e := congrArg List.length h
  rw [List.length_map] at e
  have := rowsR_60 (fr := fr) (sp := sp) (ser := N) (ch := K)
  omega
section
variable {x y : BArg}
theorem joinR_1 (h : (rowsR x.fr x.sp x.N x.K).1.1 ≠ 0) : joinR x y = ((rowsR x.fr x.sp x.N x.K).1, []) := if_pos h
theorem joinR_2 (h : (rowsR x.fr x.sp x.N x.K).1.1 = 0) (h2 : (rowsR y.fr y.sp y.N y.K).1.1 ≠ 0) : joinR x y = ((rowsR y.fr y.sp y.N y.K).1, []) := by
  unfold joinR; rw [if_neg (by simpa using h), if_pos h2]
theorem joinR_3 (h : (rowsR x.fr x.sp x.N x.K).1.1 = 0) (h2 : (rowsR y.fr y.sp y.N y.K).1.1 = 0) (h3 : x.fr + x.sp ≠ y.fr) : joinR x y = ((3, -1), []) := by
  unfold joinR; rw [if_neg (by simpa using h), if_neg (by simpa using h2), if_pos h3]
theorem joinR_4 (h : (rowsR x.fr x.sp x.N x.K).1.1 = 0) (h2 : (rowsR y.fr y.sp y.N y.K).1.1 = 0) (h3 : x.fr + x.sp = y.fr) (h4 : 100000 < x.sp + y.sp) : joinR x y = ((2, -1), []) := by
  unfold joinR; rw [if_neg (by simpa using h), if_neg (by simpa using h2), if_neg (by simpa using h3), if_pos h4]
theorem joinR_5 (h : (rowsR x.fr x.sp x.N x.K).1.1 = 0) (h2 : (rowsR y.fr y.sp y.N y.K).1.1 = 0) (h3 : x.fr + x.sp = y.fr) (h4 : ¬ 100000 < x.sp + y.sp)
    (h5 : (makeR x.fr (x.sp + y.sp) (bothR ((rowsR x.fr x.sp x.N x.K).2 ++ (rowsR y.fr y.sp y.N y.K).2))).1.1 ≠ 0) : joinR x y = ((2, -1), []) := by
  unfold joinR; rw [if_neg (by simpa using h), if_neg (by simpa using h2), if_neg (by simpa using h3), if_neg h4, if_pos h5]
theorem joinR_6 (h : (rowsR x.fr x.sp x.N x.K).1.1 = 0) (h2 : (rowsR y.fr y.sp y.N y.K).1.1 = 0) (h3 : x.fr + x.sp = y.fr) (h4 : ¬ 100000 < x.sp + y.sp)
    (h5 : (makeR x.fr (x.sp + y.sp) (bothR ((rowsR x.fr x.sp x.N x.K).2 ++ (rowsR y.fr y.sp y.N y.K).2))).1.1 = 0) : joinR x y = makeR x.fr (x.sp + y.sp) (bothR ((rowsR x.fr x.sp x.N x.K).2 ++ (rowsR y.fr y.sp y.N y.K).2)) := by
  unfold joinR; rw [if_neg (by simpa using h), if_neg (by simpa using h2), if_neg (by simpa using h3), if_neg h4, if_neg (by simpa using h5)]
end
theorem Pair.base {w : World} {base base' : Nat} {e : TypeId} {v1 v2 : Value} {n1 n2 : Nat} {xs1 xs2 : List Value} (h : Pair w base e v1 n1 xs1 v2 n2 xs2) (hb : base' ≤ base) : Pair w base' e v1 n1 xs1 v2 n2 xs2 := ⟨own_base h.l hb, own_base h.r hb, h.ap⟩
/-- Behind Make in Join: the variable that bears its block, the result's block, the error. -/
structure JF (es : Nat → Addr) (w WF : World) (f3 g : Nat) (R : (Nat × Int) × List (Bs × List Nat)) (v : Value) (f' s' : Int) (B1 : Option Addr) (d1 : Nat) (B2 : Option Addr) (d2 : Nat) : Prop where
  kf : Blk WF g 37 #[.int .i64 f', .int .i64 s', .slice B1 R.2.length d1, .slice B2 R.2.length d2]
  t3 : Blk WF f3 37 #[.int .i64 0, .int .i64 0, .slice none 0 0, .slice none 0 0]
  ev : EV es w.heap.size WF v R.1
  pr : Pair WF w.heap.size 9 (.slice B1 R.2.length d1) R.2.length (txS R.2) (.slice B2 R.2.length d2) R.2.length (chS R.2)
  bl : Below w.heap.size w WF
section
variable {es : Nat → Addr} {w w8 : World} {f3 g C : Nat} {R : (Nat × Int) × List (Bs × List Nat)} {v : Value} {f' s' : Int} {B1 B2 : Option Addr} {d1 d2 : Nat}
theorem JF.of_set (h8 : Blk w8 g 37 #[.int .i64 0, .int .i64 0, .slice none 0 0, .slice none 0 0]) (t3 : Blk w8 f3 37 #[.int .i64 0, .int .i64 0, .slice none 0 0, .slice none 0 0]) (hne : f3 ≠ g) (ev : EV es C w8 v R.1) (hgC : g < C) (hC : w.heap.size ≤ C)
    (pr : Pair w8 C 9 (.slice B1 R.2.length d1) R.2.length (txS R.2) (.slice B2 R.2.length d2) R.2.length (chS R.2)) (bl : Below w.heap.size w w8) (hg : w.heap.size ≤ g) :
    JF es w ((((w8.setCell ⟨g, 0, none⟩ (.int .i64 f')).setCell ⟨g, 1, none⟩ (.int .i64 s')).setCell ⟨g, 2, none⟩ (.slice B1 R.2.length d1)).setCell ⟨g, 3, none⟩ (.slice B2 R.2.length d2)) f3 g R v f' s' B1 d1 B2 d2 := by
  have hz := set4 hg bl h8 (.int .i64 f') (.int .i64 s') (.slice B1 R.2.length d1) (.slice B2 R.2.length d2)
  have n1 := own_ne_blk pr.l h8 (by decide)
  have n2 := own_ne_blk pr.r h8 (by decide)
  exact ⟨hz.1, t3.far4 hne _ _ _ _, (ev.fr4 hgC _ _ _ _).base hC, (((((pr.base hC).set (p := ⟨g, 0, none⟩) n1 n2 _).set (p := ⟨g, 1, none⟩) n1 n2 _).set (p := ⟨g, 2, none⟩) n1 n2 _).set (p := ⟨g, 3, none⟩) n1 n2 _), hz.2⟩
theorem JF.of_alloc (t3 : Blk w8 f3 37 #[.int .i64 0, .int .i64 0, .slice none 0 0, .slice none 0 0]) (ev : EV es C w8 v R.1) (hC : w.heap.size ≤ C)
    (pr : Pair w8 C 9 (.slice B1 R.2.length d1) R.2.length (txS R.2) (.slice B2 R.2.length d2) R.2.length (chS R.2)) (bl : Below w.heap.size w w8) :
    JF es w (w8.alloc (.cells #[.int .i64 f', .int .i64 s', .slice B1 R.2.length d1, .slice B2 R.2.length d2] 37)) f3 w8.heap.size R v f' s' B1 d1 B2 d2 :=
  ⟨Blk.new w8 _ _, t3.alloc _, (ev.below (Below.alloc (Below.refl w8.heap.size w8) (Nat.le_refl _) _) (Nat.le_refl _)).base hC, (pr.base hC).fr ((Fr.refl _ w8).alloc _), Below.alloc bl bl.size _⟩
end
set_option maxRecDepth 100000 in
set_option maxHeartbeats 8000000 in
theorem join_any {es : Nat → Addr} {B : Nat} (x y : BArg) (w : World) (hW : BlkW es B w) (hx : x.Ok w) (hy : y.Ok w) :
    Calls Tryz.prog 16 #[x.v, y.v] w fun e w' => MkPost es (joinR x y) x.fr (x.sp + y.sp) w e w' := by
  obtain ⟨fr, sp, A1, A2, n1, c1, n2, c2, N1, K1⟩ := x
  obtain ⟨gr, tp, A3, A4, n3, c3, n4, c4, N2, K2⟩ := y
  unfold BArg.v
  have HW := Lib.hid (fun W (hb : Below w.heap.size w W) => hW.below hb hW.b0)
  have HX := Lib.hid (fun W (hb : Below w.heap.size w W) => hx.below hb)
  have HY := Lib.hid (fun W (hb : Below w.heap.size w W) => hy.below hb)
  have Hnl := Lib.hid (And.intro hx.nl hy.nl)
  dsimp only at HX HY Hnl ⊢
  have hb1 : Below w.heap.size w (w.alloc (.cells #[.int .i64 fr, .int .i64 sp, .slice A1 n1 c1, .slice A2 n2 c2] 37)) := Below.alloc (Below.refl _ _) (Nat.le_refl _) _
  have hb2 := Below.alloc hb1 hb1.size (.cells #[.int .i64 gr, .int .i64 tp, .slice A3 n3 c3, .slice A4 n4 c4] 37)
  have hb3 := Below.alloc hb2 hb2.size (.cells #[.int .i64 0, .int .i64 0, .slice none 0 0, .slice none 0 0] 37)
  have hk1 := ((Blk.new w 37 #[.int .i64 fr, .int .i64 sp, .slice A1 n1 c1, .slice A2 n2 c2]).alloc (.cells #[.int .i64 gr, .int .i64 tp, .slice A3 n3 c3, .slice A4 n4 c4] 37)).alloc (.cells #[.int .i64 0, .int .i64 0, .slice none 0 0, .slice none 0 0] 37)
  have hk2 := (Blk.new (w.alloc (.cells #[.int .i64 fr, .int .i64 sp, .slice A1 n1 c1, .slice A2 n2 c2] 37)) 37 #[.int .i64 gr, .int .i64 tp, .slice A3 n3 c3, .slice A4 n4 c4]).alloc (.cells #[.int .i64 0, .int .i64 0, .slice none 0 0, .slice none 0 0] 37)
  have hk3 := Blk.new ((w.alloc (.cells #[.int .i64 fr, .int .i64 sp, .slice A1 n1 c1, .slice A2 n2 c2] 37)).alloc (.cells #[.int .i64 gr, .int .i64 tp, .slice A3 n3 c3, .slice A4 n4 c4] 37)) 37 #[.int .i64 0, .int .i64 0, .slice none 0 0, .slice none 0 0]
  rw [World.size_alloc] at hk2
  rw [World.size_alloc, World.size_alloc] at hk3
  have HB3 := Lib.hid hb3; have H1 := Lib.hid hk1; have H2 := Lib.hid hk2; have H3 := Lib.hid hk3
  clear hW hx hy hb1 hb2 hb3 hk1 hk2 hk3
  go_enter Tryz.func16, Tryz.ntmps16
  have e0 := H1.out.cell 0; have e1 := H1.out.cell 1; have e2 := H1.out.cell 2; have e3 := H1.out.cell 3
  go_upto_region 1 with fail
  generalize ((w.alloc (.cells #[.int .i64 fr, .int .i64 sp, .slice A1 n1 c1, .slice A2 n2 c2] 37)).alloc (.cells #[.int .i64 gr, .int .i64 tp, .slice A3 n3 c3, .slice A4 n4 c4] 37)).alloc (.cells #[.int .i64 0, .int .i64 0, .slice none 0 0, .slice none 0 0] 37) = w3 at HB3 H1 H2 H3 e0 e1 e2 e3 ⊢
  have Hra := Lib.hid (rows_any fr sp A1 A2 n1 c1 n2 c2 N1 K1 w3 (HW.out _ HB3.out).s (HW.out _ HB3.out).t (HW.out _ HB3.out).tb (HW.out _ HB3.out).b0 (HX.out _ HB3.out).a (HX.out _ HB3.out).k (HX.out _ HB3.out).nl (HX.out _ HB3.out).kl)
  go_wp2_with fail
  refine Hra.out.mono ?_
  rintro e w4 ⟨v, u, la, rfl, hev, hown, hro, hmap, hu, hb4⟩
  have HB4 := Lib.hid (Below.call HB3.out hb4 HB3.out.size)
  have G1 := Lib.hid (H1.out.below hb4 H1.out.lt); have G2 := Lib.hid (H2.out.below hb4 H2.out.lt); have G3 := Lib.hid (H3.out.below hb4 H3.out.lt)
  have hg3 := G3.out.lt
  clear hb4 e0 e1 e2 e3 Hra
  by_cases h0 : (rowsR fr sp N1 K1).1.1 = 0
  case neg =>
    obtain ⟨t, p, rfl⟩ := hev.pos h0
    obtain ⟨⟨z0, z1, z2, z3⟩, ⟨r0, r1, r2, r3⟩⟩ := cells4 G3.out
    have hz := set4 (Nat.le_trans (Nat.le_succ _) (Nat.le_succ _)) HB4.out G3.out (.int .i64 0) (.int .i64 0) (.slice none 0 0) (.slice none 0 0)
    have HE := Lib.hid ((hev.fr4 (Nat.lt_of_lt_of_le H3.out.lt (Nat.le_refl _)) (.int .i64 0) (.int .i64 0) (.slice none 0 0) (.slice none 0 0)).base HB3.out.size)
    have Hz := Lib.hid hz
    have H0 := Lib.hid h0
    clear hev hown hro hmap hu h0 hz
    go_wp2
    refine bodyPost_ret (res_jn _ _ (w.heap.size + 2) _ _ _ _ _ rfl rfl Hz.out.1) rfl ?_
    rw [joinR_1 (x := ⟨fr, sp, A1, A2, n1, c1, n2, c2, N1, K1⟩) H0.out]
    exact ⟨_, _, _, _, _, rfl, HE.out, fun _ => ⟨rfl, rfl⟩, fun h => absurd h H0.out, Pair.nil _ _ _, Hz.out.2⟩
  obtain rfl := hev.zero h0
  obtain ⟨Aa, ca, rfl, _, _, _⟩ := own_form hown
  have H0 := Lib.hid h0
  have Hla := Lib.hid (RowsRd.of_own2 hown hro)
  have Hma := Lib.hid hmap
  have hla := la_60 hmap
  clear hev hown hro hmap hu h0
  have e0 := G2.out.cell 0; have e1 := G2.out.cell 1; have e2 := G2.out.cell 2; have e3 := G2.out.cell 3
  have Hrb := Lib.hid (rows_any gr tp A3 A4 n3 c3 n4 c4 N2 K2 w4 (HW.out _ HB4.out).s (HW.out _ HB4.out).t (HW.out _ HB4.out).tb (HW.out _ HB4.out).b0 (HY.out _ HB4.out).a (HY.out _ HB4.out).k (HY.out _ HB4.out).nl (HY.out _ HB4.out).kl)
  go_wp2_with fail
  refine Hrb.out.mono ?_
  rintro e w5 ⟨v, u, lb, rfl, hev, hown, hro, hmap, hu, hb5⟩
  have HB5 := Lib.hid (Below.call HB4.out hb5 HB4.out.size)
  have K1' := Lib.hid (G1.out.below hb5 G1.out.lt); have K2' := Lib.hid (G2.out.below hb5 G2.out.lt); have K3' := Lib.hid (G3.out.below hb5 G3.out.lt)
  have Hla5 := Lib.hid ((Hla.out.below hb5 (Nat.le_refl _)).more hb5.size)
  clear hb5 e0 e1 e2 e3 Hrb
  by_cases h0 : (rowsR gr tp N2 K2).1.1 = 0
  case neg =>
    obtain ⟨t, p, rfl⟩ := hev.pos h0
    obtain ⟨⟨z0, z1, z2, z3⟩, ⟨r0, r1, r2, r3⟩⟩ := cells4 K3'.out
    have hz := set4 (Nat.le_trans (Nat.le_succ _) (Nat.le_succ _)) HB5.out K3'.out (.int .i64 0) (.int .i64 0) (.slice none 0 0) (.slice none 0 0)
    have HE := Lib.hid ((hev.fr4 (Nat.lt_of_lt_of_le G3.out.lt (Nat.le_refl _)) (.int .i64 0) (.int .i64 0) (.slice none 0 0) (.slice none 0 0)).base HB4.out.size)
    have Hz := Lib.hid hz
    have H1' := Lib.hid h0
    clear hev hown hro hmap hu h0 hz
    go_wp2
    refine bodyPost_ret (res_jn _ _ (w.heap.size + 2) _ _ _ _ _ rfl rfl Hz.out.1) rfl ?_
    rw [joinR_2 (x := ⟨fr, sp, A1, A2, n1, c1, n2, c2, N1, K1⟩) (y := ⟨gr, tp, A3, A4, n3, c3, n4, c4, N2, K2⟩) H0.out H1'.out]
    exact ⟨_, _, _, _, _, rfl, HE.out, fun _ => ⟨rfl, rfl⟩, fun h => absurd h H1'.out, Pair.nil _ _ _, Hz.out.2⟩
  obtain rfl := hev.zero h0
  obtain ⟨Ab, cb, rfl, _, _, _⟩ := own_form hown
  have H0' := Lib.hid h0
  have Hlb := Lib.hid (RowsRd.of_own2 hown hro)
  have Hmb := Lib.hid hmap
  have hlb := la_60 hmap
  have hba : 1 ≤ sp ∧ sp ≤ 100000 ∧ -1099511627776 ≤ fr ∧ fr ≤ 1099511627776 := by simpa [bndB] using rowsR_bnd H0.out
  have hbb : 1 ≤ tp ∧ tp ≤ 100000 ∧ -1099511627776 ≤ gr ∧ gr ≤ 1099511627776 := by simpa [bndB] using rowsR_bnd h0
  clear hev hown hro hmap hu h0
  obtain ⟨ma, hma⟩ : ∃ ma, ma = la.length := ⟨_, rfl⟩
  obtain ⟨mb, hmb⟩ : ∃ mb, mb = lb.length := ⟨_, rfl⟩
  rw [← hma] at Hla5 hla
  rw [← hmb] at Hlb hlb
  simp only [← hma, ← hmb]
  have Hlna := Lib.hid hma; have Hlnb := Lib.hid hmb
  clear hma hmb Hla
  have Hg := Lib.hid (fun W (hb : Below w.heap.size w W) => show W.cell? ⟨1, 0, none⟩ = some (sentV (es 1)) ∧ W.cell? ⟨0, 0, none⟩ = some (sentV (es 2)) from ⟨(HW.out _ hb).s.var 1 (by decide), (HW.out _ hb).s.var 2 (by decide)⟩)
  have Hend := Lib.hid (fun W => bend_any fr sp (fr + sp) A1 A2 n1 c1 n2 c2 rfl (by omega) (by omega) W)
  obtain ⟨en, hen⟩ : ∃ en, en = fr + sp := ⟨_, rfl⟩
  rw [← hen] at Hend
  have Hen := Lib.hid hen
  clear hen
  go_upto_region 7 with fail
  have Hac := Lib.hid (fun W (h : Blk W w.heap.size 37 #[.int .i64 fr, .int .i64 sp, .slice A1 n1 c1, .slice A2 n2 c2]) (h2 : Blk W (w.heap.size + 1) 37 #[.int .i64 gr, .int .i64 tp, .slice A3 n3 c3, .slice A4 n4 c4]) => show W.cell? ⟨w.heap.size, 0, none⟩ = some (.int .i64 fr) ∧ W.cell? ⟨w.heap.size, 1, none⟩ = some (.int .i64 sp) ∧ W.cell? ⟨w.heap.size, 2, none⟩ = some (.slice A1 n1 c1) ∧ W.cell? ⟨w.heap.size, 3, none⟩ = some (.slice A2 n2 c2) ∧ W.cell? ⟨w.heap.size + 1, 0, none⟩ = some (.int .i64 gr) ∧ W.cell? ⟨w.heap.size + 1, 1, none⟩ = some (.int .i64 tp) from ⟨h.cell 0, h.cell 1, h.cell 2, h.cell 3, h2.cell 0, h2.cell 1⟩)
  have D1 := Lib.hid K1'.out.drew; have D2 := Lib.hid K2'.out.drew; have D3 := Lib.hid K3'.out.drew
  have HDd := Lib.hid HB5.out.drew
  go_region_held3 (fun w' => w'.cell? ⟨w.heap.size, 0, none⟩ = some (.int .i64 fr) ∧ w'.cell? ⟨w.heap.size, 1, none⟩ = some (.int .i64 sp) ∧ w'.cell? ⟨w.heap.size, 2, none⟩ = some (.slice A1 n1 c1) ∧ w'.cell? ⟨w.heap.size, 3, none⟩ = some (.slice A2 n2 c2) ∧ w'.cell? ⟨w.heap.size + 1, 0, none⟩ = some (.int .i64 gr) ∧ w'.cell? ⟨w.heap.size + 1, 1, none⟩ = some (.int .i64 tp))
    (first | with_reducible exact Hac.out _ D1.out D2.out | with_reducible exact Hac.out _ M1.out M2.out)
    (first | (go_at_call 36; refine (Hend.out _).mono ?_; rintro e w6 ⟨rfl, hb⟩; have HB6 := Lib.hid (Below.call HDd.out hb HDd.out.size); have M1 := Lib.hid (D1.out.below hb D1.out.lt); have M2 := Lib.hid (D2.out.below hb D2.out.lt); have M3 := Lib.hid (D3.out.below hb D3.out.lt); have Hla6 := Lib.hid ((Hla5.out.below (Below.drew (Below.refl w5.heap.size w5)) (Nat.le_refl _)).below hb (Nat.le_refl _)); have Hlb6 := Lib.hid ((Hlb.out.below (Below.drew (Below.refl w5.heap.size w5)) (Nat.le_refl _)).below hb (Nat.le_refl _)); have hb6 := hb.size; clear hb))
  have HLa := Lib.hid (show RowsRd w6 w6.heap.size Aa ma la from Hla6.out.more hb6)
  have HLb := Lib.hid (show RowsRd w6 w6.heap.size Ab mb lb from Hlb6.out.more hb6)
  obtain ⟨f1, f2⟩ := Hg.out _ HB6.out
  obtain ⟨⟨z0, z1, z2, z3⟩, ⟨r0, r1, r2, r3⟩⟩ := cells4 M3.out
  have hg6 := M3.out.lt
  have HJ := Lib.hid (And.intro H0.out H0'.out)
  clear D1 D2 D3 HDd Hla5 Hla6 Hlb Hlb6 K1' K2' K3' hb6
  by_cases hse : en = gr
  case neg =>
    have hse1 : (en == gr) = false := by rw [beq_eq_false_iff_ne]; exact hse
    have hse2 : (en != gr) = true := by rw [bne, hse1]; rfl
    have Hse := Lib.hid (show joinR ⟨fr, sp, A1, A2, n1, c1, n2, c2, N1, K1⟩ ⟨gr, tp, A3, A4, n3, c3, n4, c4, N2, K2⟩ = ((3, -1), []) from joinR_3 HJ.out.1 HJ.out.2 (by rw [← Hen.out]; exact hse))
    have hz := set4 (Nat.le_trans (Nat.le_succ _) (Nat.le_succ _)) HB6.out.drew M3.out.drew (.int .i64 0) (.int .i64 0) (.slice none 0 0) (.slice none 0 0)
    have Hz := Lib.hid hz
    clear hse hz
    go_wp2
    go_region
    all_goals
      go_wp2
      refine bodyPost_ret (res_jn _ _ (w.heap.size + 2) _ _ _ _ _ rfl rfl Hz.out.1) rfl ?_
      rw [Hse.out]
      exact MkPost.sent (by decide) rfl Hz.out.2
  have hse1 : (en == gr) = true := by rw [beq_iff_eq]; exact hse
  have hse2 : (en != gr) = false := by rw [bne, hse1]; rfl
  have Hse := Lib.hid hse
  clear hse
  have y1 := M1.out.cell 1; have y2 := M2.out.cell 1
  by_cases hsp : 100000 < sp + tp
  · have Hsp := Lib.hid (show joinR ⟨fr, sp, A1, A2, n1, c1, n2, c2, N1, K1⟩ ⟨gr, tp, A3, A4, n3, c3, n4, c4, N2, K2⟩ = ((2, -1), []) from joinR_4 HJ.out.1 HJ.out.2 (by rw [← Hen.out]; exact Hse.out) hsp)
    have hz := set4 (Nat.le_trans (Nat.le_succ _) (Nat.le_succ _)) HB6.out.drew M3.out.drew (.int .i64 0) (.int .i64 0) (.slice none 0 0) (.slice none 0 0)
    have Hz := Lib.hid hz
    clear hz
    go_wp2
    go_region
    all_goals
      go_wp2
      refine bodyPost_ret (res_jn _ _ (w.heap.size + 2) _ _ _ _ _ rfl rfl Hz.out.1) rfl ?_
      rw [Hsp.out]
      exact MkPost.sent (by decide) rfl Hz.out.2
  have Hsp := Lib.hid hsp
  go_upto_region 11 with fail
  have hws : w.heap.size + 2 < w6.heap.size := hg6
  obtain ⟨RR, hRR⟩ : ∃ RR, RR = bothR ((la ++ lb).map rowP2) := ⟨_, rfl⟩
  have HRR := Lib.hid hRR
  have hrl : RR.length ≤ 120 := by
    rw [hRR]
    have := bothR_len ((la ++ lb).map rowP2)
    rw [List.length_map, List.length_append, ← Hlna.out, ← Hlnb.out] at this
    omega
  have Hnv := Lib.hid (show (∀ r ∈ RR, r.1.length ≤ 100000) ∧ ∀ r ∈ RR, ∀ p ∈ r.2, 0 ≤ p.2 ∧ p.2 < 18446744073709551616 by
    rw [hRR]
    have e : (la ++ lb).map rowP2 = (rowsR fr sp N1 K1).2 ++ (rowsR gr tp N2 K2).2 := by rw [List.map_append, ← Hma.out, ← Hmb.out]; rfl
    rw [e]
    refine ⟨bothR_names fun r hr => ?_, bothR_vals fun r hr => ?_⟩
    · rcases List.mem_append.1 hr with hr | hr
      · exact rowsR_names Hnl.out.1 r hr
      · exact rowsR_names Hnl.out.2 r hr
    · rcases List.mem_append.1 hr with hr | hr
      · exact rowsR_vals r hr
      · exact rowsR_vals r hr)
  have HJR := Lib.hid (show bothR ((rowsR fr sp N1 K1).2 ++ (rowsR gr tp N2 K2).2) = RR by rw [hRR, List.map_append, ← Hma.out, ← Hmb.out]; rfl)
  have Hbo := Lib.hid (fun W (hb : Below w6.heap.size w6 W) => both_any Aa Ab ma ca mb cb la lb W ((HLa.out.below hb (Nat.le_refl _)).more hb.size) ((HLb.out.below hb (Nat.le_refl _)).more hb.size) hla hlb (fun r hr => by
    have hl : rowP2 r ∈ (rowsR fr sp N1 K1).2 ∨ rowP2 r ∈ (rowsR gr tp N2 K2).2 := by
      rcases List.mem_append.1 hr with hr | hr
      · left; rw [← Hma.out]; exact List.mem_map.2 ⟨r, hr, rfl⟩
      · right; rw [← Hmb.out]; exact List.mem_map.2 ⟨r, hr, rfl⟩
    rcases hl with hl | hl
    · exact ⟨rowsR_le _ hl, rowsR_names Hnl.out.1 _ hl⟩
    · exact ⟨rowsR_le _ hl, rowsR_names Hnl.out.2 _ hl⟩))

  have Hmk := Lib.hid (fun W (hb : Below w.heap.size w W) A c (ls : List RowV) (hr : RowsRd W W.heap.size A ls.length ls) (hm : ls.map rowP2 = bothR ((la ++ lb).map rowP2)) => show Calls Tryz.prog 20 #[.int .i64 fr, .int .i64 (sp + tp), .slice A ls.length c] W fun e w' => MkPost es (makeR fr (sp + tp) RR) fr (sp + tp) W e w' from by
    have hm2 : ls.map rowP2 = RR := by rw [HRR.out]; exact hm
    have h := make_any fr (sp + tp) A ls.length c ls W (HW.out _ hb).s (HW.out _ hb).t (HW.out _ hb).b0 hr (by
      have e := congrArg List.length hm2
      rw [List.length_map] at e
      omega) (fun r hr => by
      have hr' : rowP2 r ∈ RR := by rw [← hm2]; exact List.mem_map.2 ⟨r, hr, rfl⟩
      exact ⟨Hnv.out.1 _ hr', Hnv.out.2 _ hr'⟩)
    rw [hm2] at h
    exact h)
  have hw3 : IntKind.i64.wrap (sp + tp) = sp + tp := by rw [IntKind.wrap_i64]; omega
  have Wd := Lib.hid (show Below w6.heap.size w6 w6.drew from (Below.refl w6.heap.size w6).drew)
  have WA := Lib.hid (show Below w6.heap.size w6 (w6.drew.alloc (.cells #[.int .i64 0, .int .i64 0, .slice none 0 0, .slice none 0 0] 37)) from Below.alloc Wd.out Wd.out.size _)
  have P1d := Lib.hid M1.out.drew; have P2d := Lib.hid M2.out.drew; have P3d := Lib.hid M3.out.drew
  have P1A := Lib.hid (M1.out.drew.alloc (.cells #[.int .i64 0, .int .i64 0, .slice none 0 0, .slice none 0 0] 37)); have P2A := Lib.hid (M2.out.drew.alloc (.cells #[.int .i64 0, .int .i64 0, .slice none 0 0, .slice none 0 0] 37)); have P3A := Lib.hid (M3.out.drew.alloc (.cells #[.int .i64 0, .int .i64 0, .slice none 0 0, .slice none 0 0] 37))
  have KA := Lib.hid (show Blk (w6.drew.alloc (.cells #[.int .i64 0, .int .i64 0, .slice none 0 0, .slice none 0 0] 37)) w6.heap.size 37 #[.int .i64 0, .int .i64 0, .slice none 0 0, .slice none 0 0] from Blk.new w6.drew 37 #[.int .i64 0, .int .i64 0, .slice none 0 0, .slice none 0 0])
  clear z0 z1 z2 z3 r0 r1 r2 r3 f1 f2 y1 y2 hse1 hse2 hRR hba hbb
  go_region_held3 (fun w' => w'.cell? ⟨w.heap.size, 0, none⟩ = some (.int .i64 fr) ∧ w'.cell? ⟨w.heap.size, 1, none⟩ = some (.int .i64 sp) ∧ w'.cell? ⟨w.heap.size, 2, none⟩ = some (.slice A1 n1 c1) ∧ w'.cell? ⟨w.heap.size, 3, none⟩ = some (.slice A2 n2 c2) ∧ w'.cell? ⟨w.heap.size + 1, 0, none⟩ = some (.int .i64 gr) ∧ w'.cell? ⟨w.heap.size + 1, 1, none⟩ = some (.int .i64 tp))
    (first | with_reducible exact Hac.out _ P1d.out P2d.out | with_reducible exact Hac.out _ P1A.out P2A.out | with_reducible exact Hac.out _ P17.out P27.out | with_reducible exact Hac.out _ P17A.out P27A.out | with_reducible exact Hac.out _ P18.out P28.out | with_reducible exact Hac.out _ P18A.out P28A.out | exact Hac.out _ P1A.out P2A.out | exact Hac.out _ P17A.out P27A.out | exact Hac.out _ P18A.out P28A.out | exact Hac.out _ (P18.out.far4 hne1 _ _ _ _) (P28.out.far4 hne2 _ _ _ _) | exact Hac.out _ (P18A.out.far4 hne1 _ _ _ _) (P28A.out.far4 hne2 _ _ _ _) | exact Hac.out _ PX1.out PX2.out)
    (first | (go_at_call 37; refine (Hbo.out _ Wd.out).mono ?_; rintro e w7 ⟨A7, c7, l7, rfl, hr7, hm7, hb⟩; have R7 := Lib.hid hr7; have L7 := Lib.hid hm7; have W7 := Lib.hid (Below.call Wd.out hb Wd.out.size); have P17 := Lib.hid (P1d.out.below hb P1d.out.lt); have P27 := Lib.hid (P2d.out.below hb P2d.out.lt); have P37 := Lib.hid (P3d.out.below hb P3d.out.lt); have W7A := Lib.hid (show Below w6.heap.size w6 (w7.alloc (.cells #[.int .i64 0, .int .i64 0, .slice none 0 0, .slice none 0 0] 37)) from Below.alloc W7.out W7.out.size _); have P17A := Lib.hid (P17.out.alloc (.cells #[.int .i64 0, .int .i64 0, .slice none 0 0, .slice none 0 0] 37)); have P27A := Lib.hid (P27.out.alloc (.cells #[.int .i64 0, .int .i64 0, .slice none 0 0, .slice none 0 0] 37)); have P37A := Lib.hid (P37.out.alloc (.cells #[.int .i64 0, .int .i64 0, .slice none 0 0, .slice none 0 0] 37)); have K7A := Lib.hid (Blk.new w7 37 #[.int .i64 0, .int .i64 0, .slice none 0 0, .slice none 0 0]); have R7A := Lib.hid (show RowsRd (w7.alloc (.cells #[.int .i64 0, .int .i64 0, .slice none 0 0, .slice none 0 0] 37)) (w7.alloc (.cells #[.int .i64 0, .int .i64 0, .slice none 0 0, .slice none 0 0] 37)).heap.size A7 l7.length l7 from (R7.out.below (Below.alloc (Below.refl w7.heap.size w7) (Nat.le_refl _) (.cells #[.int .i64 0, .int .i64 0, .slice none 0 0, .slice none 0 0] 37)) (Nat.le_refl _)).more (by rw [World.size_alloc]; exact Nat.le_succ _)); clear hr7 hm7 hb) | (go_at_call 37; refine (Hbo.out _ WA.out).mono ?_; rintro e w7 ⟨A7, c7, l7, rfl, hr7, hm7, hb⟩; have R7 := Lib.hid hr7; have L7 := Lib.hid hm7; have W7 := Lib.hid (Below.call WA.out hb WA.out.size); have P17 := Lib.hid (P1A.out.below hb P1A.out.lt); have P27 := Lib.hid (P2A.out.below hb P2A.out.lt); have P37 := Lib.hid (P3A.out.below hb P3A.out.lt); have K7 := Lib.hid (KA.out.below hb KA.out.lt); have hne1 : w.heap.size ≠ w6.heap.size := Nat.ne_of_lt (Nat.lt_trans (Nat.lt_succ_of_lt (Nat.lt_succ_self _)) hws); have hne2 : w.heap.size + 1 ≠ w6.heap.size := Nat.ne_of_lt (Nat.lt_trans (Nat.lt_succ_self _) hws); have hne3 : w.heap.size + 2 ≠ w6.heap.size := Nat.ne_of_lt hws; have W7A := Lib.hid (show Below w6.heap.size w6 (w7.alloc (.cells #[.int .i64 0, .int .i64 0, .slice none 0 0, .slice none 0 0] 37)) from Below.alloc W7.out W7.out.size _); have P17A := Lib.hid (P17.out.alloc (.cells #[.int .i64 0, .int .i64 0, .slice none 0 0, .slice none 0 0] 37)); have P27A := Lib.hid (P27.out.alloc (.cells #[.int .i64 0, .int .i64 0, .slice none 0 0, .slice none 0 0] 37)); have P37A := Lib.hid (P37.out.alloc (.cells #[.int .i64 0, .int .i64 0, .slice none 0 0, .slice none 0 0] 37)); have K7A := Lib.hid (Blk.new w7 37 #[.int .i64 0, .int .i64 0, .slice none 0 0, .slice none 0 0]); have R7A := Lib.hid (show RowsRd (w7.alloc (.cells #[.int .i64 0, .int .i64 0, .slice none 0 0, .slice none 0 0] 37)) (w7.alloc (.cells #[.int .i64 0, .int .i64 0, .slice none 0 0, .slice none 0 0] 37)).heap.size A7 l7.length l7 from (R7.out.below (Below.alloc (Below.refl w7.heap.size w7) (Nat.le_refl _) (.cells #[.int .i64 0, .int .i64 0, .slice none 0 0, .slice none 0 0] 37)) (Nat.le_refl _)).more (by rw [World.size_alloc]; exact Nat.le_succ _)); clear hr7 hm7 hb) | (go_at_call 20; refine (Hmk.out _ (Below.call HB6.out W7.out HB6.out.size) A7 c7 l7 R7.out L7.out).mono ?_; rintro e w8 ⟨v8, f8, s8, u1, u2, rfl, hev8, hz8, hg8, hp8, hb⟩; obtain ⟨B1, d1, rfl, _, _, _⟩ := own_form hp8.l; obtain ⟨B2, d2, rfl, _, _, _⟩ := own_form hp8.r; have E8 := Lib.hid hev8; have Z8 := Lib.hid (And.intro hz8 hg8); have Q8 := Lib.hid hp8; have W8 := Lib.hid (Below.call W7.out hb W7.out.size); have P18 := Lib.hid (P17.out.below hb P17.out.lt); have P28 := Lib.hid (P27.out.below hb P27.out.lt); have P38 := Lib.hid (P37.out.below hb P37.out.lt); have K8 := Lib.hid (K7.out.below hb K7.out.lt); obtain ⟨⟨k0, k1, k2, k3⟩, ⟨m0, m1, m2, m3⟩⟩ := cells4 K8.out; have P18A := Lib.hid (P18.out.alloc (.cells #[.int .i64 0, .int .i64 0, .slice none 0 0, .slice none 0 0] 37)); have P28A := Lib.hid (P28.out.alloc (.cells #[.int .i64 0, .int .i64 0, .slice none 0 0, .slice none 0 0] 37)); have P38A := Lib.hid (P38.out.alloc (.cells #[.int .i64 0, .int .i64 0, .slice none 0 0, .slice none 0 0] 37)); clear hev8 hz8 hg8 hp8 hb) | (go_at_call 20; refine (Hmk.out _ (Below.call HB6.out W7.out HB6.out.size) A7 c7 l7 R7.out L7.out).mono ?_; rintro e w8 ⟨v8, f8, s8, u1, u2, rfl, hev8, hz8, hg8, hp8, hb⟩; obtain ⟨B1, d1, rfl, _, _, _⟩ := own_form hp8.l; obtain ⟨B2, d2, rfl, _, _, _⟩ := own_form hp8.r; have E8 := Lib.hid hev8; have Z8 := Lib.hid (And.intro hz8 hg8); have Q8 := Lib.hid hp8; have W8 := Lib.hid (Below.call W7.out hb W7.out.size); have P18 := Lib.hid (P17.out.below hb P17.out.lt); have P28 := Lib.hid (P27.out.below hb P27.out.lt); have P38 := Lib.hid (P37.out.below hb P37.out.lt); have PX1 := Lib.hid (P18.out.alloc (.cells #[.int .i64 f8, .int .i64 s8, .slice B1 (makeR fr (sp + tp) RR).2.length d1, .slice B2 (makeR fr (sp + tp) RR).2.length d2] 37)); have PX2 := Lib.hid (P28.out.alloc (.cells #[.int .i64 f8, .int .i64 s8, .slice B1 (makeR fr (sp + tp) RR).2.length d1, .slice B2 (makeR fr (sp + tp) RR).2.length d2] 37)); have P18A := Lib.hid (P18.out.alloc (.cells #[.int .i64 0, .int .i64 0, .slice none 0 0, .slice none 0 0] 37)); have P28A := Lib.hid (P28.out.alloc (.cells #[.int .i64 0, .int .i64 0, .slice none 0 0, .slice none 0 0] 37)); have P38A := Lib.hid (P38.out.alloc (.cells #[.int .i64 0, .int .i64 0, .slice none 0 0, .slice none 0 0] 37)); clear hev8 hz8 hg8 hp8 hb) | (go_at_call 20; refine (Hmk.out _ (Below.call HB6.out W7A.out HB6.out.size) A7 c7 l7 R7A.out L7.out).mono ?_; rintro e w8 ⟨v8, f8, s8, u1, u2, rfl, hev8, hz8, hg8, hp8, hb⟩; obtain ⟨B1, d1, rfl, _, _, _⟩ := own_form hp8.l; obtain ⟨B2, d2, rfl, _, _, _⟩ := own_form hp8.r; have E8 := Lib.hid hev8; have Z8 := Lib.hid (And.intro hz8 hg8); have Q8 := Lib.hid hp8; have W8 := Lib.hid (Below.call W7A.out hb W7A.out.size); have P18 := Lib.hid (P17A.out.below hb P17A.out.lt); have P28 := Lib.hid (P27A.out.below hb P27A.out.lt); have P38 := Lib.hid (P37A.out.below hb P37A.out.lt); have K8 := Lib.hid (K7A.out.below hb K7A.out.lt); obtain ⟨⟨k0, k1, k2, k3⟩, ⟨m0, m1, m2, m3⟩⟩ := cells4 K8.out; have hne1 : w.heap.size ≠ w7.heap.size := Nat.ne_of_lt (Nat.lt_of_lt_of_le (Nat.lt_trans (Nat.lt_succ_of_lt (Nat.lt_succ_self _)) hws) W7.out.size); have hne2 : w.heap.size + 1 ≠ w7.heap.size := Nat.ne_of_lt (Nat.lt_of_lt_of_le (Nat.lt_trans (Nat.lt_succ_self _) hws) W7.out.size); have hne3 : w.heap.size + 2 ≠ w7.heap.size := Nat.ne_of_lt (Nat.lt_of_lt_of_le hws W7.out.size); have P18A := Lib.hid (P18.out.alloc (.cells #[.int .i64 0, .int .i64 0, .slice none 0 0, .slice none 0 0] 37)); have P28A := Lib.hid (P28.out.alloc (.cells #[.int .i64 0, .int .i64 0, .slice none 0 0, .slice none 0 0] 37)); have P38A := Lib.hid (P38.out.alloc (.cells #[.int .i64 0, .int .i64 0, .slice none 0 0, .slice none 0 0] 37)); clear hev8 hz8 hg8 hp8 hb))
  all_goals
    have Hf8 := Lib.hid (show (makeR fr (sp + tp) RR).2.length = (makeR fr (sp + tp) RR).2.length from rfl)
    first
      | (have HJF := Lib.hid (JF.of_set (w := w) (f' := f8) (s' := s8) K8.out P38.out hne3 E8.out K7.out.lt (Nat.le_trans HB6.out.size W7.out.size) Q8.out (Below.call HB6.out W8.out HB6.out.size) HB6.out.size); clear k0 k1 k2 k3 m0 m1 m2 m3; generalize (((w8.setCell ⟨w6.heap.size, 0, none⟩ (.int .i64 f8)).setCell ⟨w6.heap.size, 1, none⟩ (.int .i64 s8)).setCell ⟨w6.heap.size, 2, none⟩ (.slice B1 (makeR fr (sp + tp) RR).2.length d1)).setCell ⟨w6.heap.size, 3, none⟩ (.slice B2 (makeR fr (sp + tp) RR).2.length d2) = WF at HJF ⊢; generalize w6.heap.size = g at HJF ⊢)
      | (have HJF := Lib.hid (JF.of_set (w := w) (f' := f8) (s' := s8) K8.out P38.out hne3 E8.out (show w7.heap.size < (w7.alloc (.cells #[.int .i64 0, .int .i64 0, .slice none 0 0, .slice none 0 0] 37)).heap.size by rw [World.size_alloc]; exact Nat.lt_succ_self _) (Nat.le_trans HB6.out.size W7A.out.size) Q8.out (Below.call HB6.out W8.out HB6.out.size) (Nat.le_trans HB6.out.size W7.out.size)); clear k0 k1 k2 k3 m0 m1 m2 m3; generalize (((w8.setCell ⟨w7.heap.size, 0, none⟩ (.int .i64 f8)).setCell ⟨w7.heap.size, 1, none⟩ (.int .i64 s8)).setCell ⟨w7.heap.size, 2, none⟩ (.slice B1 (makeR fr (sp + tp) RR).2.length d1)).setCell ⟨w7.heap.size, 3, none⟩ (.slice B2 (makeR fr (sp + tp) RR).2.length d2) = WF at HJF ⊢; generalize w7.heap.size = g at HJF ⊢)
      | (have HJF := Lib.hid (JF.of_alloc (w := w) (f' := f8) (s' := s8) P38.out E8.out (Nat.le_trans HB6.out.size W7.out.size) Q8.out (Below.call HB6.out W8.out HB6.out.size)); generalize w8.alloc (.cells #[.int .i64 f8, .int .i64 s8, .slice B1 (makeR fr (sp + tp) RR).2.length d1, .slice B2 (makeR fr (sp + tp) RR).2.length d2] 37) = WF at HJF ⊢; generalize w8.heap.size = g at HJF ⊢)
    have HZ8 := Lib.hid Z8.out
    clear HLa HLb HRR Hnv Hbo Hmk Wd WA P1d P2d P3d P1A P2A P3A KA R7 L7 W7 P17 P27 P37 W7A P17A P27A P37A K7A R7A E8 Z8 Q8 W8 P18 P28 P38 P18A P28A P38A Hac M1 M2 M3 hrl
    by_cases hr : (makeR fr (sp + tp) RR).1.1 = 0
    case neg =>
      obtain ⟨t, p, hv⟩ := HJF.out.ev.pos hr
      subst hv
      have Hsix := Lib.hid (show joinR ⟨fr, sp, A1, A2, n1, c1, n2, c2, N1, K1⟩ ⟨gr, tp, A3, A4, n3, c3, n4, c4, N2, K2⟩ = ((2, -1), []) from joinR_5 HJ.out.1 HJ.out.2 (by rw [← Hen.out]; exact Hse.out) (Int.not_lt.2 Hsp.out) (by show (makeR fr (sp + tp) (bothR ((rowsR fr sp N1 K1).2 ++ (rowsR gr tp N2 K2).2))).1.1 ≠ 0; rw [HJR.out]; exact hr))
      obtain ⟨f1, _⟩ := Hg.out _ HJF.out.bl
      obtain ⟨⟨z0, z1, z2, z3⟩, ⟨r0, r1, r2, r3⟩⟩ := cells4 HJF.out.t3
      have Hz := Lib.hid (set4 (Nat.le_trans (Nat.le_succ _) (Nat.le_succ _)) HJF.out.bl.drew HJF.out.t3.drew (.int .i64 0) (.int .i64 0) (.slice none 0 0) (.slice none 0 0))
      clear hr
      go_wp2
      go_region
      all_goals
        go_wp2
        refine bodyPost_ret (res_jn _ _ (w.heap.size + 2) _ _ _ _ _ rfl rfl Hz.out.1) rfl ?_
        rw [Hsix.out]
        exact MkPost.sent (by decide) rfl Hz.out.2
    have hv := HJF.out.ev.zero hr
    subst hv
    obtain ⟨hf1, hf2⟩ := HZ8.out.2 hr
    subst hf1
    subst hf2
    have Hsix := Lib.hid (show joinR ⟨f8, sp, A1, A2, n1, c1, n2, c2, N1, K1⟩ ⟨gr, tp, A3, A4, n3, c3, n4, c4, N2, K2⟩ = makeR f8 (sp + tp) RR from by
      have h5 : (makeR f8 (sp + tp) (bothR ((rowsR f8 sp N1 K1).2 ++ (rowsR gr tp N2 K2).2))).1.1 = 0 := by rw [HJR.out]; exact hr
      have h6 := joinR_6 (x := ⟨f8, sp, A1, A2, n1, c1, n2, c2, N1, K1⟩) (y := ⟨gr, tp, A3, A4, n3, c3, n4, c4, N2, K2⟩) HJ.out.1 HJ.out.2 (by rw [← Hen.out]; exact Hse.out) (Int.not_lt.2 Hsp.out) h5
      rw [h6]
      show makeR f8 (sp + tp) (bothR ((rowsR f8 sp N1 K1).2 ++ (rowsR gr tp N2 K2).2)) = _
      rw [HJR.out])
    have H01 := Lib.hid (congrArg Prod.fst (makeR_inv hr).2.2.2)
    obtain ⟨⟨k0, k1, k2, k3⟩, _⟩ := cells4 HJF.out.kf
    obtain ⟨⟨z0, z1, z2, z3⟩, ⟨r0, r1, r2, r3⟩⟩ := cells4 HJF.out.t3
    have Hn1 := Lib.hid (own_ne_blk HJF.out.pr.l HJF.out.t3 (by decide))
    have Hn2 := Lib.hid (own_ne_blk HJF.out.pr.r HJF.out.t3 (by decide))
    have hfe := HZ8.out.2 hr
    have Hr := Lib.hid hr
    clear hr hfe
    go_wp2
    refine bodyPost_ret (res_jn _ _ (w.heap.size + 2) _ _ _ _ _ rfl rfl (set4 (Nat.le_trans (Nat.le_succ _) (Nat.le_succ _)) HJF.out.bl HJF.out.t3 _ _ _ _).1) rfl ?_
    rw [Hsix.out]
    refine ⟨_, _, _, _, _, rfl, .inl ⟨H01.out, rfl⟩, fun h => absurd Hr.out h, fun _ => ⟨rfl, rfl⟩, ?_, (set4 (Nat.le_trans (Nat.le_succ _) (Nat.le_succ _)) HJF.out.bl HJF.out.t3 _ _ _ _).2⟩
    exact (((HJF.out.pr.set (p := ⟨w.heap.size + 2, 0, none⟩) Hn1.out Hn2.out _).set (p := ⟨w.heap.size + 2, 1, none⟩) Hn1.out Hn2.out _).set (p := ⟨w.heap.size + 2, 2, none⟩) Hn1.out Hn2.out _).set (p := ⟨w.heap.size + 2, 3, none⟩) Hn1.out Hn2.out _
end Go.Proofs.YtpbgonpmpjpljaaGreatDoor
