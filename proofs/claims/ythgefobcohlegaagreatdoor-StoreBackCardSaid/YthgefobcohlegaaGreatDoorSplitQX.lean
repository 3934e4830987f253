/- strings.Cut at '=', and the iterator of strings.SplitSeq at ',', by contracts. -/
import Derived.RangeFuncNested
import Derived.RangeFuncBound
import Derived.RangeFuncCalls
import Derived.RangeFuncLeaves
import Derived.Shelf.Abstract
import Derived.Shelf.RegionOpen
import Derived.WalkKit
import Derived.OwnWalkIn
import Derived.TacticsInMore
import Derived.LoopNIn
import Derived.LoopIn
import Derived.Test.YthgefobcohlegaaGreatDoorLaysX
import Derived.Test.YthgefobcohlegaaGreatDoorMkfX
namespace Go.Proofs.YthgefobcohlegaaGreatDoor
open Go.RowKit Go.Shelf
attribute [local go_sem] Oper.semAt_some
set_option linter.unusedVariables false

theorem B8_data (s : Bs) : (B8 s).data.toList = s := rfl
theorem cut_none (p : Bs) (h : cutE p = none) (w : World) :
    Calls Tryz.prog 48 #[.string (B8 p), .string ⟨#[61]⟩] w fun e w' => e = .returned (.tuple #[.string (B8 p), .string ⟨#[]⟩, .bool false]) ∧ Below w.heap.size w w' := by
  have Hi := Lib.hid (fun W => Tryz.stringslite_Index_one (B8 p) 61 W)
  rw [B8_data, indexE_none h] at Hi
  generalize B8 p = st at Hi ⊢
  clear h
  go_enter Tryz.func48, Tryz.ntmps48
  go_wp2_with (first | (go_at_call 106; refine (Hi.out _).mono ?_; rintro e w' ⟨rfl, rfl⟩) | go_in)
  go_ret3
  exact ⟨rfl, Below.refl _ _⟩
theorem cut_in (p : Bs) (q : Lb) (h : cutE p = some q) (hl : p.length ≤ 1000000) (w : World) :
    Calls Tryz.prog 74 #[.string (B8 p), .string ⟨#[61]⟩] w fun e w' => e = .returned (.tuple #[.string (B8 q.1), .string (B8 q.2), .bool true]) ∧ Below w.heap.size w w' := by
  have Hi := Lib.hid (fun W => Tryz.stringslite_Index_one (B8 p) 61 W)
  rw [B8_data, indexE_some h] at Hi
  have hp := cutE_some h
  have hlen : p.length = q.1.length + (q.2.length + 1) := by rw [hp, List.length_append, List.length_cons]
  have x1 : (B8 p).extract 0 q.1.length = B8 q.1 := by rw [B8_extract, hp, List.drop_zero, List.take_left]
  have x2 : (B8 p).extract (q.1.length + 1) p.length = B8 q.2 := by
    rw [B8_extract, List.take_length, hp]
    congr 1
    rw [show q.1 ++ 61 :: q.2 = (q.1 ++ [61]) ++ q.2 by simp, show q.1.length + 1 = (q.1 ++ [61]).length by simp, List.drop_left]
  have hsz : (B8 p).size = p.length := B8_size p
  obtain ⟨m, hm⟩ : ∃ m, m = q.1.length := ⟨_, rfl⟩
  obtain ⟨n, hn⟩ : ∃ n, n = p.length := ⟨_, rfl⟩
  rw [← hm] at Hi x1 x2 hlen
  rw [← hn] at x2 hsz hl hlen
  have hmn : m + 1 ≤ n := by omega
  have hmn' : (m : Int) + 1 ≤ n := by omega
  have X1 := Lib.hid x1; have X2 := Lib.hid x2
  generalize B8 p = st at Hi X1 X2 hsz ⊢
  generalize B8 q.1 = s1 at X1 ⊢
  generalize B8 q.2 = s2 at X2 ⊢
  have n1 : IntKind.i64.wrap ((m : Int) + 1) = (m : Int) + 1 := by rw [IntKind.wrap_i64]; omega
  clear h hp x1 x2 hlen hm hn
  go_enter Tryz.func74, Tryz.ntmps74
  go_wp2_with fail
  refine (Hi.out _).mono ?_
  rintro e w' ⟨rfl, rfl⟩
  have E1 := X1.out; have E2 := X2.out
  go_wp2
  go_quiet (fail)
  go_wp2
  go_ret3
  exact ⟨rfl, Below.drewN (Below.refl _ _) _⟩
theorem cut_some (p : Bs) (q : Lb) (h : cutE p = some q) (hl : p.length ≤ 1000000) (w : World) :
    Calls Tryz.prog 48 #[.string (B8 p), .string ⟨#[61]⟩] w fun e w' => e = .returned (.tuple #[.string (B8 q.1), .string (B8 q.2), .bool true]) ∧ Below w.heap.size w w' := by
  have Hi := Lib.hid (cut_in p q h hl w)
  clear h hl
  go_enter Tryz.func48, Tryz.ntmps48
  go_wp2_with fail
  refine Hi.out.mono ?_
  rintro e w' ⟨rfl, hb⟩
  have HB := Lib.hid hb; clear hb
  go_wp2
  go_ret3
  exact ⟨rfl, HB.out⟩
/-- strings.SplitSeq: the iterator, and its three boxes. -/
theorem splitSeq_any (s : ByteArray) (w : World) :
    Calls Tryz.prog 47 #[.string s, .string ⟨#[44]⟩] w fun e w' => e = .returned (.func (.func 103) #[] #[.pointer (some ⟨w.heap.size + 1, 0, none⟩), .pointer (some ⟨w.heap.size, 0, none⟩), .pointer (some ⟨w.heap.size + 2, 0, none⟩)]) ∧
      w' = ((w.alloc (.cells #[.string s] 9)).alloc (.cells #[.string ⟨#[44]⟩] 9)).alloc (.cells #[.int .i64 0] 3) := by
  go_enter Tryz.func47, Tryz.ntmps47
  go_wp2
  go_ret
  exact ⟨rfl, rfl⟩
/-- How many bytes the box b holds still. -/
def left8 (b : Nat) (W : World) : Nat := match W.cell? ⟨b, 0, none⟩ with
  | some (.string s) => s.size
  | _ => 0
theorem left8_eq {b : Nat} {W : World} {s : ByteArray} (h : W.cell? ⟨b, 0, none⟩ = some (.string s)) : left8 b W = s.size := by unfold left8; rw [h]

set_option maxRecDepth 100000 in
set_option maxHeartbeats 2000000 in
theorem split_in (n l b0 : Nat) (s : Bs) (hs : s.length ≤ 1000000) (J Jx : List Bs → World → Prop) (hJ : ∀ p W W', J p W → Fr (fun k => k = b0) W W' → J p W')
    (hY : ∀ pre x W, J pre W → pre ++ [x] <+: splitC 44 s → YieldAt Fence.wide (n - 1) Tryz.prog l #[.string (B8 x)] W fun e W' =>
      (e = .returned (.bool true) ∧ J (pre ++ [x]) W' ∧ ∀ k, k = b0 ∨ k = b0 + 1 ∨ k = b0 + 2 → W'.heap[k]? = W.heap[k]?) ∨ (e = .returned (.bool false) ∧ Jx (pre ++ [x]) W'))
    (W : World) (h0 : J [] W) (k0 : Blk W b0 9 #[.string (B8 s)]) (k1 : Blk W (b0 + 1) 9 #[.string ⟨#[44]⟩]) (k2 : Blk W (b0 + 2) 3 #[.int .i64 0]) :
    CallsIn Fence.wide n Tryz.prog 103 #[.func (.yield l) #[] #[], .pointer (some ⟨b0 + 1, 0, none⟩), .pointer (some ⟨b0, 0, none⟩), .pointer (some ⟨b0 + 2, 0, none⟩)] W fun e W' => (∃ v, e = .returned v) ∧
      (J (splitC 44 s) W' ∨ (∃ pre, pre <+: splitC 44 s ∧ Jx pre W')) := by
  refine callsIn_of_wp Tryz.func103 rfl trivial ?_ rfl
  simp only [Tryz.ntmps103, List.size_toArray, List.length_cons, List.length_nil, Nat.reduceAdd, Nat.reduceSub, Array.replicate_succ, Array.replicate_zero, List.push_toArray, List.append_toArray, List.nil_append, List.cons_append]
  have c1 : W.cell? ⟨b0 + 1, 0, none⟩ = some (.string ⟨#[44]⟩) := k1.cell 0
  gi_wp2
  gi_loopw [7] (fun _ wr => ∃ (pre : List Bs) (r : Bs), r.length ≤ 1000000 ∧ splitC 44 s = pre ++ splitC 44 r ∧ Blk wr b0 9 #[.string (B8 r)] ∧ Blk wr (b0 + 1) 9 #[.string ⟨#[44]⟩] ∧ Blk wr (b0 + 2) 3 #[.int .i64 0] ∧ J pre wr)
    (fun _ wr => left8 b0 wr)
  case atStart => exact ⟨[], s, hs, rfl, k0, k1, k2, h0⟩
  case round =>
    obtain ⟨pre, r, hr, hsp, q0, q1, q2, hJs⟩ := hrel
    have x0 : wr.cell? ⟨b0, 0, none⟩ = some (.string (B8 r)) := q0.cell 0
    have x1 : wr.cell? ⟨b0 + 1, 0, none⟩ = some (.string ⟨#[44]⟩) := q1.cell 0
    have Hi := Lib.hid (fun W => Tryz.strings_Index_one (B8 r) 44 W)
    rw [B8_data] at Hi
    rcases index_split 44 r with ⟨hi, hsr⟩ | ⟨i, hi, hil, hsr⟩
    · rw [hi] at Hi
      have hpre : pre ++ [r] = splitC 44 s := by rw [hsp, hsr]
      obtain ⟨fn, tmps, assign, body, hy, hR⟩ := hY pre r wr hJs (by rw [hpre]; exact List.prefix_refl _)
      rw [hpre] at hR
      have HR := Lib.hid hR
      clear hsr hsp hi hR hpre hY
      generalize B8 r = st at x0 Hi hy HR q0
      gi_wp2_with fail
      refine ⟨trivial, (fun h => by cases h), (callsIn_wide.2 (Hi.out _)).mono ?_⟩
      rintro e w' ⟨rfl, rfl⟩
      gi_wp2
      refine ⟨(fun h => by cases h), HR.out.mono ?_⟩
      rintro e W3 (⟨rfl, hJ3, hk3⟩ | ⟨rfl, hJx3⟩)
      · gi_wp2
        go_end0
        exact ⟨⟨_, rfl⟩, .inl hJ3⟩
      · gi_wp2
        go_end0
        exact ⟨⟨_, rfl⟩, .inr ⟨_, List.prefix_refl _, hJx3⟩⟩
    · rw [hi] at Hi
      have hpre : pre ++ [r.take i] <+: splitC 44 s := by rw [hsp, hsr]; exact ⟨splitC 44 (r.drop (i + 1)), by simp⟩
      obtain ⟨fn, tmps, assign, body, hy, hR⟩ := hY pre (r.take i) wr hJs hpre
      have e1 : (B8 r).extract 0 i = B8 (r.take i) := by rw [B8_extract, List.drop_zero]
      have e2 : (B8 r).extract (i + 1) r.length = B8 (r.drop (i + 1)) := by rw [B8_extract, List.take_length]
      have hsz : (B8 r).size = r.length := B8_size r
      have HR := Lib.hid hR; have Hsp := Lib.hid (show splitC 44 s = (pre ++ [r.take i]) ++ splitC 44 (r.drop (i + 1)) from by rw [hsp, hsr]; simp)
      have Hpre := Lib.hid hpre
      obtain ⟨m, hm⟩ : ∃ m, m = r.length := ⟨_, rfl⟩
      rw [← hm] at e2 hsz hil hr
      have hil' : (i : Int) < m := by omega
      have hil2 : (i : Int) + 1 ≤ m := by omega
      have hil3 : i + 1 ≤ m := by omega
      have n0 : IntKind.i64.wrap (i : Int) = (i : Int) := by rw [IntKind.wrap_i64]; omega
      have n1 : IntKind.i64.wrap ((i : Int) + 1) = (i : Int) + 1 := by rw [IntKind.wrap_i64]; omega
      have hdl : (r.drop (i + 1)).length ≤ 1000000 := by rw [List.length_drop, ← hm]; omega
      have hds : (B8 (r.drop (i + 1))).size < m := by rw [B8_size, List.length_drop, ← hm]; omega
      have Hdl := Lib.hid hdl; have Hds := Lib.hid hds
      have x2 : wr.cell? ⟨b0 + 2, 0, none⟩ = some (.int .i64 0) := q2.cell 0
      clear hsr hsp hi hR hpre hY hdl hds hm
      generalize B8 r = st at x0 Hi q0 hsz e1 e2
      generalize B8 (r.take i) = sf at e1 hy HR
      obtain ⟨sd, hsd⟩ : ∃ sd, sd = B8 (r.drop (i + 1)) := ⟨_, rfl⟩
      rw [← hsd] at e2 Hds
      have Hsd := Lib.hid hsd
      clear hsd
      gi_wp2_with fail
      refine ⟨trivial, (fun h => by cases h), (callsIn_wide.2 (Hi.out _)).mono ?_⟩
      rintro e w' ⟨rfl, rfl⟩
      gi_wp2
      refine ⟨(fun h => by cases h), HR.out.mono ?_⟩
      rintro e W3 (⟨rfl, hJ3, hk3⟩ | ⟨rfl, hJx3⟩)
      · have p0 : Blk W3 b0 9 #[.string st] := (hk3 b0 (.inl rfl)).trans q0
        have p1 : Blk W3 (b0 + 1) 9 #[.string ⟨#[44]⟩] := (hk3 _ (.inr (.inl rfl))).trans q1
        have p2 : Blk W3 (b0 + 2) 3 #[.int .i64 0] := (hk3 _ (.inr (.inr rfl))).trans q2
        have P0 := Lib.hid p0; have P1 := Lib.hid p1; have P2 := Lib.hid p2
        have y0 : W3.cell? ⟨b0, 0, none⟩ = some (.string st) := p0.cell 0
        have y1 : W3.cell? ⟨b0 + 1, 0, none⟩ = some (.string ⟨#[44]⟩) := p1.cell 0
        have f0 : W3.frozen? ⟨b0, 0, none⟩ = false := p0.frozen 0
        clear p0 p1 p2 hk3 hy n0
        gi_wp2
        refine ⟨⟨pre ++ [r.take i], r.drop (i + 1), Hdl.out, Hsp.out, ?_, P1.out.far (p := ⟨b0, 0, none⟩) (by simp) _, P2.out.far (p := ⟨b0, 0, none⟩) (by simp) _, hJ _ _ _ hJ3 (Fr.setCell (S := fun k => k = b0) (Fr.refl _ W3) (p := ⟨b0, 0, none⟩) (.inr rfl) _)⟩, ?_⟩
        · rw [← Hsd.out]; exact P0.out.set_ 0 (.string sd)
        · rw [left8_eq ((P0.out.set_ 0 (.string sd)).cell 0), left8_eq x0, hsz]; exact Hds.out
      · gi_wp2
        refine bodyPost_ret (results_none rfl _ _ _) rfl ?_
        exact ⟨⟨_, rfl⟩, .inr ⟨_, Hpre.out, hJx3⟩⟩
theorem Fr.putObj {S : Nat → Prop} {a w : World} (h : Fr S a w) {l : Nat} (hl : S l) (o : Obj) : Fr S a (w.putObj l o) :=
  ⟨h.os, h.tape, h.output, by rw [World.putObj_size]; exact h.size, fun i hi hn => (World.putObj_heap_other (fun e => hn (by rw [e]; exact hl))).trans (h.block i hi hn)⟩

/-- A range over strings.SplitSeq(s, ","), walked by an invariant of one's own: b0 and the two behind it are the iterator's boxes; the loop lays two blocks of its own. -/
theorem wp_split {n : Nat} {g : Operand} {ps : Array Tmp} {assign body : Code} {Q : Exit → Act → World → Prop} {a : Act} {W : World} (b0 : Nat) (s : Bs) (hs : s.length ≤ 1000000) (hb0 : b0 + 2 < W.heap.size)
    (hg : a.eval g = .func (.func 103) #[] #[.pointer (some ⟨b0 + 1, 0, none⟩), .pointer (some ⟨b0, 0, none⟩), .pointer (some ⟨b0 + 2, 0, none⟩)]) (hps : ps.size = 1)
    (k0 : Blk W b0 9 #[.string (B8 s)]) (k1 : Blk W (b0 + 1) 9 #[.string ⟨#[44]⟩]) (k2 : Blk W (b0 + 2) 3 #[.int .i64 0])
    (I Ix : List Bs → World → Prop) (hI : ∀ p X Y, I p X → Fr (fun k => k = b0 ∨ k = W.heap.size ∨ k = W.heap.size + 1) X Y → I p Y) (hIx : ∀ p X Y, Ix p X → Fr (fun k => k = b0 ∨ k = W.heap.size ∨ k = W.heap.size + 1) X Y → Ix p Y)
    (h0 : ∀ Y, Below W.heap.size W Y → Y.heap.size = W.heap.size + 2 → I [] Y) (a1 : Bs → Act)
    (hassign : ∀ (x : Bs) (X : World) (K : Act → World → Prop), K (a1 x) X →
      assign.wpIn (Fence.wide.inRound (W.heap.size + 1)) (n - 1 - 1) Tryz.prog (Exit.then K (fun _ _ _ => False)) { tmps := (ps.zip #[Value.string (B8 x)]).foldl (fun t (p, v) => t.setIfInBounds p v) a.tmps, defers := [] } X)
    (hbody : ∀ (pre : List Bs) (x : Bs) (X : World), I pre X → W.heap.size + 2 ≤ X.heap.size → pre ++ [x] <+: splitC 44 s → body.wpIn (Fence.wide.inRound (W.heap.size + 1)) (n - 1 - 1) Tryz.prog
      (fun e _ Y => (e = .normal ∧ I (pre ++ [x]) Y ∨ e = .ret ∧ Ix (pre ++ [x]) Y) ∧ W.heap.size + 2 ≤ Y.heap.size ∧ ∀ k, k = b0 ∨ k = b0 + 1 ∨ k = b0 + 2 ∨ k = W.heap.size ∨ k = W.heap.size + 1 → Y.heap[k]? = X.heap[k]?) (a1 x) X)
    (hdone : ∀ (X : World), I (splitC 44 s) X → X.heap[W.heap.size]? = some (.deferred (some [])) → Q .normal { a with defers := { target := .collected W.heap.size, args := #[] } :: a.defers } X)
    (hstop : ∀ (pre : List Bs) (X : World), pre <+: splitC 44 s → Ix pre X → X.heap[W.heap.size]? = some (.deferred (some [])) → Code.ret.wpIn Fence.wide n Tryz.prog Q { a with defers := { target := .collected W.heap.size, args := #[] } :: a.defers } X) :
    (Code.rangeFunc g ps assign body).wpIn Fence.wide n Tryz.prog Q a W := by
  refine wpIn_rangeFunc ?_
  intro fn hfn
  obtain ⟨D, hD⟩ : ∃ D, D = W.heap.size := ⟨_, rfl⟩
  obtain ⟨rec, hrec⟩ : ∃ rec : LoopState → Option Code → Loop, rec = fun st pe => { state := st, pending := pe, fn, tmps := a.tmps, params := ps, assign, body, defers := W.heap.size } := ⟨_, rfl⟩
  obtain ⟨W1, hW1⟩ : ∃ W1, (W.alloc (.deferred (some []))).alloc (.loop (rec .ready none)) = W1 := ⟨_, rfl⟩
  have hL1 : W1.heap[W.heap.size + 1]? = some (.loop (rec .ready none)) := by
    rw [← hW1]; have := World.alloc_heap_new (W.alloc (.deferred (some []))) (.loop (rec .ready none)); rwa [World.size_alloc] at this
  have hD1 : W1.heap[W.heap.size]? = some (.deferred (some [])) := by
    rw [← hW1]; exact (Below.heap_alloc _ _ _ (by simp)).trans (World.alloc_heap_new W _)
  have hb1 : Below W.heap.size W W1 := by rw [← hW1]; exact ((Below.refl _ W).alloc (Nat.le_refl _) _).alloc (by simp) _
  have hs1 : W1.heap.size = W.heap.size + 2 := by rw [← hW1]; simp
  refine ⟨W.heap.size + 1, [{ target := .collected W.heap.size, args := #[] }], W1, { target := .fn (.func 103) #[.pointer (some ⟨b0 + 1, 0, none⟩), .pointer (some ⟨b0, 0, none⟩), .pointer (some ⟨b0 + 2, 0, none⟩)], args := #[.func (.yield (W.heap.size + 1)) #[] #[]] }, W1, 103,
    #[.func (.yield (W.heap.size + 1)) #[] #[]] ++ #[.pointer (some ⟨b0 + 1, 0, none⟩), .pointer (some ⟨b0, 0, none⟩), .pointer (some ⟨b0 + 2, 0, none⟩)], W1, ?_, ?_, ?_, ?_, (fun h => by cases h), ?_⟩
  · rw [← hW1, hrec]; exact run_enterLoop_outer _ _ _ _ _
  · simp only [resolve, hg]
    simp [go_sem]
  · intro f' _; trivial
  · simp [invoke, go_sem]
  · refine (split_in (n - 1) (W.heap.size + 1) b0 s hs
      (fun pre X => I pre X ∧ W.heap.size + 2 ≤ X.heap.size ∧ X.heap[W.heap.size + 1]? = some (.loop (rec .ready none)) ∧ X.heap[W.heap.size]? = some (.deferred (some [])))
      (fun pre X => Ix pre X ∧ W.heap.size + 2 ≤ X.heap.size ∧ X.heap[W.heap.size + 1]? = some (.loop (rec .done (some .ret))) ∧ X.heap[W.heap.size]? = some (.deferred (some [])))
      (fun p X Y hp hf => ⟨hI p X Y hp.1 (hf.mono fun i _ h => .inl h), Nat.le_trans hp.2.1 hf.size, (hf.block _ (by omega) (fun (h : _ = b0) => by omega)).trans hp.2.2.1, (hf.block _ (by omega) (fun (h : _ = b0) => by omega)).trans hp.2.2.2⟩)
      ?_ W1 ⟨h0 W1 hb1 hs1, by omega, hL1, hD1⟩ (k0.below hb1 (by omega)) (k1.below hb1 (by omega)) (k2.below hb1 (by omega))).mono ?_
    · rintro pre x X ⟨hi, hsz, hl, hk⟩ hpre
      have hy := run_yield (P := Tryz.prog) (args := #[Value.string (B8 x)]) hl (by rw [hrec, hps]; rfl)
      rw [hrec] at hy
      refine ⟨fn, _, assign, body, hy, roundIn_of_wpIn hfn (hassign x X _ ?_)⟩
      refine ⟨_, run_beginRound hl (by rw [hrec]), ?_⟩
      obtain ⟨X2, hX2⟩ : ∃ X2, X2 = X.putObj (W.heap.size + 1) (.loop { rec .ready none with state := .busy }) := ⟨_, rfl⟩
      have hl2 : X2.heap[W.heap.size + 1]? = some (.loop { rec .ready none with state := .busy }) := by rw [hX2]; exact World.putObj_heap_same (by omega)
      have hk2 : X2.heap[W.heap.size]? = some (.deferred (some [])) := by rw [hX2]; exact (World.putObj_heap_other (by omega)).trans hk
      have hf2 : Fr (fun k => k = b0 ∨ k = W.heap.size ∨ k = W.heap.size + 1) X X2 := by rw [hX2]; exact (Fr.refl _ _).putObj (.inr (.inr rfl)) _
      have hb2 : ∀ k, k = b0 ∨ k = b0 + 1 ∨ k = b0 + 2 → X2.heap[k]? = X.heap[k]? := fun k hk => by rw [hX2]; exact World.putObj_heap_other (by omega)
      rw [← hX2]
      refine wpIn_mono (hbody pre x X2 (hI _ _ _ hi hf2) (by rw [hX2, World.putObj_size]; exact hsz) hpre) ?_
      rintro e a3 Y ⟨(⟨rfl, hi3⟩ | ⟨rfl, hi3⟩), hsz3, hk3⟩
      · have hl3 : Y.heap[W.heap.size + 1]? = some (.loop { rec .ready none with state := .busy }) := (hk3 _ (by simp)).trans hl2
        have hr := run_endRound (P := Tryz.prog) none hl3
        refine ⟨_, _, hr, .inl ⟨rfl, ⟨hI _ _ _ hi3 ((Fr.refl _ _).putObj (.inr (.inr rfl)) _), by rw [World.putObj_size]; exact hsz3, ?_, (World.putObj_heap_other (by omega)).trans ((hk3 _ (by simp)).trans hk2)⟩, ?_⟩⟩
        · rw [World.putObj_heap_same (by omega), hrec]; rfl
        · intro k hk'
          exact (World.putObj_heap_other (by omega)).trans ((hk3 _ (by omega)).trans (hb2 k hk'))
      · have hl3 : Y.heap[W.heap.size + 1]? = some (.loop { rec .ready none with state := .busy }) := (hk3 _ (by simp)).trans hl2
        have hr := run_endRound (P := Tryz.prog) (some .ret) hl3
        refine ⟨_, _, hr, .inr ⟨rfl, hIx _ _ _ hi3 ((Fr.refl _ _).putObj (.inr (.inr rfl)) _), by rw [World.putObj_size]; exact hsz3, ?_, (World.putObj_heap_other (by omega)).trans ((hk3 _ (by simp)).trans hk2)⟩⟩
        rw [World.putObj_heap_same (by omega), hrec]; rfl
    · rintro e X ⟨⟨v, rfl⟩, (⟨hi, hsz, hl, hk⟩ | ⟨pre, hpre, hi, hsz, hl, hk⟩)⟩
      · exact ⟨none, _, by have := run_endLoop (P := Tryz.prog) hl (by rw [hrec]; simp); rw [hrec] at this; exact this, hdone _ (hI _ _ _ hi ((Fr.refl _ _).putObj (.inr (.inr rfl)) _)) ((World.putObj_heap_other (by omega)).trans hk)⟩
      · exact ⟨some .ret, _, by have := run_endLoop (P := Tryz.prog) hl (by rw [hrec]; simp); rw [hrec] at this; exact this, hstop pre _ hpre (hIx _ _ _ hi ((Fr.refl _ _).putObj (.inr (.inr rfl)) _)) ((World.putObj_heap_other (by omega)).trans hk)⟩
end Go.Proofs.YthgefobcohlegaaGreatDoor
