/- block.Join: what it answers, plain, and what its walk leans on. -/
import Derived.Test.YthgefobcohlegaaGreatDoorMkqX
import Derived.Test.YthgefobcohlegaaGreatDoorMksX
import Derived.Deep.RegionHeld3
import Derived.Deep.Light
import Derived.Test.YthgefobcohlegaaGreatDoorMkcX
import Derived.Test.YthgefobcohlegaaGreatDoorMkiX
namespace Go.Proofs.YthgefobcohlegaaGreatDoor
open Go.RowKit
set_option linter.unusedVariables false

/-- A block as an argument. -/
structure BArg where
  fr : Int
  sp : Int
  A : Option Addr
  C : Option Addr
  n : Nat
  c : Nat
  m : Nat
  d : Nat
  N : List Bs
  K : List (List Nat)
def BArg.v (x : BArg) : Value := .agg #[.int .i64 x.fr, .int .i64 x.sp, .slice x.A x.n x.c, .slice x.C x.m x.d]
structure BArg.Ok (x : BArg) (W : World) : Prop where
  a : Rd W W.heap.size 1 x.A x.n (x.N.map fun s => .string (B8 s))
  k : Rd W W.heap.size 1 x.C x.m (x.K.map fun z => .string (bytesOf z))
  nl : ∀ s ∈ x.N, s.length ≤ 100000
  kl : ∀ z ∈ x.K, z.length ≤ 100000 ∧ ∀ b ∈ z, b < 256
theorem BArg.Ok.below {x : BArg} {W W' : World} (h : x.Ok W) (hb : Below W.heap.size W W') : x.Ok W' := ⟨(h.a.below hb).more hb.size, (h.k.below hb).more hb.size, h.nl, h.kl⟩
theorem RowsRd.of_own2 {w' : World} {base : Nat} {Au : Option Addr} {m cu : Nat} {ls : List RowV} (hown : w'.ownsRow base 58 2 (.slice Au m cu) m (rowC ls)) (hro : RowsOwn base w' ls) : RowsRd w' w'.heap.size Au m ls :=
  ⟨Rd.of_own hown, fun r hr => by
    obtain ⟨A', c', e, _, _, hrd⟩ := own_form (hro r hr)
    exact ⟨A', c', e, hrd⟩⟩
section
variable {x y : BArg}
end
theorem Pair.base {w : World} {base base' : Nat} {e : TypeId} {v1 v2 : Value} {n1 n2 : Nat} {xs1 xs2 : List Value} (h : Pair w base e v1 n1 xs1 v2 n2 xs2) (hb : base' ≤ base) : Pair w base' e v1 n1 xs1 v2 n2 xs2 := ⟨own_base h.l hb, own_base h.r hb, h.ap⟩
section
variable {es : Nat → Addr} {w w8 : World} {f3 g C : Nat} {R : (Nat × Int) × List (Bs × List Nat)} {v : Value} {f' s' : Int} {B1 B2 : Option Addr} {d1 d2 : Nat}
end
end Go.Proofs.YthgefobcohlegaaGreatDoor

namespace Go.Proofs.YthgefobcohlegaaGreatDoor
open Go.RowKit
set_option linter.unusedVariables false

theorem RowsRd.of_own {w' : World} {base : Nat} {Au : Option Addr} {m cu : Nat} {ls : List RowV} (hown : w'.ownsRow base 58 2 (.slice Au m cu) m (rowC ls)) (hro : RowsOwn base w' ls) : RowsRd w' w'.heap.size Au m ls :=
  ⟨Rd.of_own hown, fun r hr => by
    obtain ⟨A', c', e, _, _, hrd⟩ := own_form (hro r hr)
    exact ⟨A', c', e, hrd⟩⟩
theorem txS_nms (K : List (Bs × List Nat)) : txS K = (nmsOf K).map fun s => .string (B8 s) := by unfold txS nmsOf; rw [List.map_map]; rfl
theorem chS_chs (K : List (Bs × List Nat)) : chS K = (chsOf K).map fun x => .string (bytesOf x) := by unfold chS chsOf; rw [List.map_map]; rfl
theorem encR_names {rows : List Rw} {q : Nat} (h : ∀ r ∈ rows, r.1.length ≤ q) : ∀ s ∈ nmsOf (encR rows), s.length ≤ q := by
  intro s hs
  unfold nmsOf encR at hs
  rw [List.map_map] at hs
  obtain ⟨r, hr, rfl⟩ := List.mem_map.1 hs
  exact h r hr
theorem browP_len (l : List (Int × Int)) (hn : l.length ≤ 120) (hl : ∀ p ∈ l, 0 ≤ p.2 ∧ p.2 < 18446744073709551616) : 8 ≤ (rowP l).length ∧ (rowP l).length ≤ 39000 := by
  have h := ticksBits_le (tsOf l)
  have h2 : (tsOf l).length = l.length := List.length_map _
  have h3 := sumN_mP (vsOf l) (vsOf l).length (vsOf_lt hl) (Nat.le_refl _)
  have h4 : (vsOf l).length = l.length := List.length_map _
  have h5 : (maskB (vsOf l)).length ≤ 256 * (vsOf l).length := h3
  rw [h2] at h
  rw [h4] at h5
  unfold rowP
  rw [List.length_append, List.length_append, bitsN_len]
  omega
theorem bchunk_len (l : List (Int × Int)) (hn : l.length ≤ 120) (hl : ∀ p ∈ l, 0 ≤ p.2 ∧ p.2 < 18446744073709551616) : (chunkL l).length ≤ 100000 := by
  have h := browP_len l hn hl
  unfold chunkL
  rw [seal_len, packN_len]
  omega
/-- What Make's rows give. -/
structure Back (fr sp : Int) (L : List Rw) : Prop where
  bd : bndB fr sp = true
  n60 : L.length ≤ 60
  mke : makeR fr sp L = ((0, -1), encR L)
  rd : rowsR fr sp (nmsOf (encR L)) (chsOf (encR L)) = ((0, -1), L)
  ok : RowsOk fr (fr + sp) L
  ne : ∀ r ∈ L, r.2 ≠ []
  nm : ∀ r ∈ L, r.1.length ≤ 200
  vl : ∀ r ∈ L, ∀ p ∈ r.2, 0 ≤ p.2 ∧ p.2 < 18446744073709551616
theorem Back.of {fr sp : Int} {L : List Rw} (h : (makeR fr sp L).1.1 = 0) (hn : ∀ r ∈ L, r.1.length ≤ 200) (hv : ∀ r ∈ L, ∀ p ∈ r.2, 0 ≤ p.2 ∧ p.2 < 18446744073709551616) : Back fr sp (keepR L) ∧ makeR fr sp L = ((0, -1), encR (keepR L)) := by
  obtain ⟨h1, h2, h3, h4⟩ := makeR_inv h
  have hl : (keepR L).length ≤ 60 := Nat.le_trans (keep_len L) h2
  have hne : ∀ r ∈ keepR L, r.2 ≠ [] := fun r hr => by simpa using (List.mem_filter.1 hr).2
  have hv' : ∀ r ∈ keepR L, ∀ p ∈ r.2, 0 ≤ p.2 ∧ p.2 < 18446744073709551616 := fun r hr => hv r (List.mem_filter.1 hr).1
  exact ⟨⟨h1, hl, by rw [makeR_ok h1 hl h3.keep, keep_keep], rowsR_enc h1 hl h3.keep hne hv', h3.keep, hne, fun r hr => hn r (List.mem_filter.1 hr).1, hv'⟩, h4⟩
theorem Back.row {fr sp : Int} {L : List Rw} (h : Back fr sp L) {r : Rw} (hr : r ∈ L) : r.2.length ≤ 120 ∧ 1 ≤ r.2.length :=
  ⟨(ptF_zero.1 (h.ok.1 r hr).2.1).1, List.length_pos_iff.2 (h.ne r hr)⟩
theorem Back.names {fr sp : Int} {L : List Rw} (h : Back fr sp L) : ∀ s ∈ nmsOf (encR L), s.length ≤ 100000 := encR_names fun r hr => Nat.le_trans (h.nm r hr) (by decide)
theorem Back.chunks {fr sp : Int} {L : List Rw} (h : Back fr sp L) : ∀ x ∈ chsOf (encR L), x.length ≤ 100000 ∧ ∀ b ∈ x, b < 256 := by
  intro x hx
  unfold chsOf encR at hx
  rw [List.map_map] at hx
  obtain ⟨r, hr, rfl⟩ := List.mem_map.1 hx
  exact ⟨bchunk_len r.2 (h.row hr).1 (h.vl r hr), chunkL_256 r.2⟩
theorem Back.at {fr sp : Int} {L : List Rw} (h : Back fr sp L) {k : Nat} {r : Rw} (hr : L[k]? = some r) : betL fr (fr + sp - 1) (ptsOf L r.1) = r.2 := by
  rw [ptsOf_at h.ok.2 hr]
  exact bet_all (h.ok.1 r (List.mem_of_getElem? hr)).2.2
end Go.Proofs.YthgefobcohlegaaGreatDoor

namespace Go.Proofs.YthgefobcohlegaaGreatDoor
open Go.RowKit
set_option linter.unusedVariables false

/-- Points in memory. -/
structure PtV where
  v : Value
  pts : List (Int × Int)
/-- The blocks of S that were there have other types than these. -/
def Strange (S : Nat → Prop) (w : World) (T : List TypeId) : Prop := ∀ k, S k → k < w.heap.size → ∃ t cs, Blk w k t cs ∧ t ∉ T
theorem Strange.not {S : Nat → Prop} {w : World} {T : List TypeId} (h : Strange S w T) {k : Nat} {t : TypeId} {cs : Array Value} (hb : Blk w k t cs) (ht : t ∈ T) : ¬ S k := by
  intro hk
  obtain ⟨t', cs', hb', hn⟩ := h k hk hb.lt
  obtain rfl := blk_type hb hb'
  exact hn ht
theorem Strange.own {w : World} {base : Nat} {e : TypeId} {size n : Nat} {v : Value} {xs : List Value} {T : List TypeId} (ho : w.ownsRow base e size v n xs) (ht : e ∉ T) : Strange (fun k => v.ownBlock = some k) w T := by
  intro k hk _
  obtain ⟨cs, hc⟩ := own_typed ho hk
  exact ⟨e, cs, hc, ht⟩
theorem Strange.blk {w : World} {g : Nat} {e : TypeId} {cs : Array Value} {T : List TypeId} (hb : Blk w g e cs) (ht : e ∉ T) : Strange (fun k => k = g) w T := by
  intro k hk _
  subst hk
  exact ⟨e, cs, hb, ht⟩
/-- Names and points stand for these rows. -/
def SetIs (N : List Bs) (R : List PtV) (S : List (Bs × List (Int × Int))) : Prop := N = S.map (·.1) ∧ R.map (·.pts) = S.map (·.2)
theorem SetIs.len {N : List Bs} {R : List PtV} {S : List (Bs × List (Int × Int))} (h : SetIs N R S) : N.length = S.length ∧ R.length = S.length := by
  have h2 := congrArg List.length h.2
  rw [List.length_map, List.length_map] at h2
  exact ⟨by rw [h.1, List.length_map], h2⟩
theorem SetIs.snoc {N : List Bs} {R : List PtV} {S : List (Bs × List (Int × Int))} (h : SetIs N R S) (s : Bs) (r : PtV) : SetIs (N ++ [s]) (R ++ [r]) (S ++ [(s, r.pts)]) := by
  refine ⟨?_, ?_⟩
  · rw [List.map_append, ← h.1]; rfl
  · rw [List.map_append, List.map_append, h.2]; rfl
end Go.Proofs.YthgefobcohlegaaGreatDoor

namespace Go.Proofs.YthgefobcohlegaaGreatDoor
open Go.RowKit
set_option linter.unusedVariables false

/-- Whatever of S is cells has another type than these. -/
def Odd (S : Nat → Prop) (w : World) (T : List TypeId) : Prop := ∀ k t cs, S k → Blk w k t cs → t ∉ T
section
variable {S S' : Nat → Prop} {w : World} {T : List TypeId}
theorem Odd.not (h : Odd S w T) {k : Nat} {t : TypeId} {cs : Array Value} (hb : Blk w k t cs) (ht : t ∈ T) : ¬ S k := fun hk => h k t cs hk hb ht
theorem Odd.own (h : Odd S w T) {base : Nat} {e : TypeId} {size n : Nat} {v : Value} {xs : List Value} (ho : w.ownsRow base e size v n xs) (ht : e ∈ T) : ∀ k, v.ownBlock = some k → ¬ S k := by
  intro k hk
  obtain ⟨cs, hc⟩ := own_typed ho hk
  exact h.not hc ht
theorem Odd.of_own {base : Nat} {e : TypeId} {size n : Nat} {v : Value} {xs : List Value} (ho : w.ownsRow base e size v n xs) (ht : e ∉ T) : Odd (fun k => v.ownBlock = some k) w T := by
  intro k t cs hk hb
  obtain ⟨cs', hc⟩ := own_typed ho hk
  obtain rfl := blk_type hb hc
  exact ht
theorem Odd.of_blk {g : Nat} {e : TypeId} {cs : Array Value} (hb : Blk w g e cs) (ht : e ∉ T) : Odd (fun k => k = g) w T := by
  intro k t cs' hk hb'
  subst hk
  obtain rfl := blk_type hb' hb
  exact ht
theorem Odd.or (h : Odd S w T) (h' : Odd S' w T) : Odd (fun k => S k ∨ S' k) w T := fun k t cs hk hb => hk.elim (fun hk => h k t cs hk hb) (fun hk => h' k t cs hk hb)
theorem Odd.mono (h : Odd S w T) (hS : ∀ k, S' k → S k) : Odd S' w T := fun k t cs hk hb => h k t cs (hS k hk) hb
theorem Odd.sub {T' : List TypeId} (h : Odd S w T) (hT : ∀ t ∈ T', t ∈ T) : Odd S w T' := fun k t cs hk hb ht => h k t cs hk hb (hT t ht)
theorem Odd.none (w : World) (T : List TypeId) : Odd (fun _ => False) w T := fun k t cs hk => hk.elim
end

/-- A block in memory: its rows, its two slices. -/
structure BkV where
  fr : Int
  sp : Int
  rows : List Rw
  A : Option Addr
  a : Nat
  C : Option Addr
  c : Nat
def bkC (l : List BkV) : List Value := l.flatMap fun b => [.int .i64 b.fr, .int .i64 b.sp, .slice b.A b.rows.length b.a, .slice b.C b.rows.length b.c]
theorem bkC_snoc (l : List BkV) (b : BkV) : bkC (l ++ [b]) = bkC l ++ [.int .i64 b.fr, .int .i64 b.sp, .slice b.A b.rows.length b.a, .slice b.C b.rows.length b.c] := by unfold bkC; rw [List.flatMap_append, List.flatMap_singleton]
theorem bkC_one (l : List BkV) : ∀ u ∈ bkC l, u.oneCell' = true := by
  intro u hu
  obtain ⟨b, _, hb⟩ := List.mem_flatMap.1 hu
  simp at hb
  rcases hb with rfl | rfl | rfl | rfl <;> rfl
/-- One block's slices. -/
structure BkAt (w : World) (b : BkV) : Prop where
  nm : w.ownsRow 0 9 1 (.slice b.A b.rows.length b.a) b.rows.length (txS (encR b.rows))
  ch : w.ownsRow 0 9 1 (.slice b.C b.rows.length b.c) b.rows.length (chS (encR b.rows))
  ok : Back b.fr b.sp b.rows
theorem BkAt.fr {S : Nat → Prop} {w w' : World} {b : BkV} (h : BkAt w b) (hf : Fr S w w') (hS : Odd S w [9]) : BkAt w' b :=
  ⟨hf.own h.nm (hS.own h.nm (by simp)), hf.own h.ch (hS.own h.ch (by simp)), h.ok⟩
theorem BkAt.below {w w' : World} {b : BkV} (h : BkAt w b) (hb : Below w.heap.size w w') : BkAt w' b := h.fr (Fr.ofBel hb) (Odd.none _ _)
/-- As an argument. -/
theorem BkAt.arg {w : World} {b : BkV} (h : BkAt w b) : (BArg.mk b.fr b.sp b.A b.C b.rows.length b.a b.rows.length b.c (nmsOf (encR b.rows)) (chsOf (encR b.rows))).Ok w :=
  ⟨by show Rd w w.heap.size 1 b.A b.rows.length ((nmsOf (encR b.rows)).map fun s => .string (B8 s)); rw [← txS_nms]; exact Rd.of_own h.nm, by show Rd w w.heap.size 1 b.C b.rows.length ((chsOf (encR b.rows)).map fun x => .string (bytesOf x)); rw [← chS_chs]; exact Rd.of_own h.ch, h.ok.names, h.ok.chunks⟩
/-- A slice of blocks of one's own. -/
structure BksAt (w : World) (v : Value) (l : List BkV) : Prop where
  own : w.ownsRow 0 85 4 v l.length (bkC l)
  bk : ∀ b ∈ l, BkAt w b
theorem BksAt.nil (w : World) : BksAt w (.slice none 0 0) [] := ⟨World.ownsRow_nil _ _ _ _, fun b h => by cases h⟩
theorem BksAt.fr {S : Nat → Prop} {w w' : World} {v : Value} {l : List BkV} (h : BksAt w v l) (hf : Fr S w w') (hS : Odd S w [85, 9]) : BksAt w' v l :=
  ⟨hf.own h.own (hS.own h.own (by simp)), fun b hb => (h.bk b hb).fr hf (hS.sub (by simp))⟩
theorem BksAt.below {w w' : World} {v : Value} {l : List BkV} (h : BksAt w v l) (hb : Below w.heap.size w w') : BksAt w' v l := h.fr (Fr.ofBel hb) (Odd.none _ _)
/-- The blocks of memory that blocks lie in. -/
def BksS (v : Value) (l : List BkV) (k : Nat) : Prop := v.ownBlock = some k ∨ ∃ b ∈ l, (Value.slice b.A b.rows.length b.a).ownBlock = some k ∨ (Value.slice b.C b.rows.length b.c).ownBlock = some k
theorem BksAt.frS {S : Nat → Prop} {w w' : World} {v : Value} {l : List BkV} (h : BksAt w v l) (hf : Fr S w w') (hn : ∀ k, BksS v l k → ¬ S k) : BksAt w' v l :=
  ⟨hf.own h.own (fun k hk => hn k (.inl hk)), fun b hb => ⟨hf.own (h.bk b hb).nm (fun k hk => hn k (.inr ⟨b, hb, .inl hk⟩)), hf.own (h.bk b hb).ch (fun k hk => hn k (.inr ⟨b, hb, .inr hk⟩)), (h.bk b hb).ok⟩⟩
theorem BksAt.lt {w : World} {v : Value} {l : List BkV} (h : BksAt w v l) : ∀ k, BksS v l k → k < w.heap.size := by
  rintro k (hk | ⟨b, hb, hk | hk⟩)
  · exact (own_lt h.own k hk).2
  · exact (own_lt (h.bk b hb).nm k hk).2
  · exact (own_lt (h.bk b hb).ch k hk).2
/-- A block more. -/
theorem BksAt.snoc {w w' : World} {v v' : Value} {l : List BkV} {b : BkV} (h : BksAt w v l) (hb : BkAt w b) (hf : Fr (fun k => v.ownBlock = some k) w w') (ho : w'.ownsRow 0 85 4 v' (l.length + 1) (bkC l ++ [.int .i64 b.fr, .int .i64 b.sp, .slice b.A b.rows.length b.a, .slice b.C b.rows.length b.c])) : BksAt w' v' (l ++ [b]) := by
  have hS : Odd (fun k => v.ownBlock = some k) w [9] := Odd.of_own h.own (by decide)
  refine ⟨by rw [List.length_append, List.length_singleton, bkC_snoc]; exact ho, fun x hx => ?_⟩
  rcases List.mem_append.1 hx with hx | hx
  · exact (h.bk x hx).fr hf hS
  · rw [List.mem_singleton.1 hx]; exact hb.fr hf hS
/-- What stands at place i. -/
theorem BksAt.at_ {w : World} {v : Value} {l : List BkV} (h : BksAt w v l) {i : Nat} {b : BkV} (hi : l[i]? = some b) : ∃ g c, v = .slice (some ⟨g, 0, none⟩) l.length c ∧ w.cell? ⟨g, 4 * i, none⟩ = some (.int .i64 b.fr) ∧ w.cell? ⟨g, 4 * i + 1, none⟩ = some (.int .i64 b.sp) ∧ w.cell? ⟨g, 4 * i + 2, none⟩ = some (.slice b.A b.rows.length b.a) ∧ w.cell? ⟨g, 4 * i + 3, none⟩ = some (.slice b.C b.rows.length b.c) := by
  have hil := (List.getElem?_eq_some_iff.1 hi).1
  obtain ⟨g, c, e, _, _⟩ := own_some h.own (by omega)
  obtain ⟨A, c2, e2, _, _, hr⟩ := own_form h.own
  rw [e] at e2
  injection e2 with e2 _ e3
  obtain ⟨g2, o2, e4, _, hc⟩ := hr.2 (by omega)
  rw [← e2] at e4
  injection e4 with e4
  injection e4 with e4 e5
  subst e4
  have hfl : ∀ (l : List BkV) (i : Nat) (b : BkV), l[i]? = some b → ∀ j, j < 4 → (bkC l)[4 * i + j]? = [Value.int .i64 b.fr, .int .i64 b.sp, .slice b.A b.rows.length b.a, .slice b.C b.rows.length b.c][j]? := by
    intro l
    induction l with
    | nil => intro i b h; cases h
    | cons a l ih =>
      intro i b h j hj
      have hcons : bkC (a :: l) = [Value.int .i64 a.fr, .int .i64 a.sp, .slice a.A a.rows.length a.a, .slice a.C a.rows.length a.c] ++ bkC l := rfl
      rw [hcons]
      cases i with
      | zero =>
        obtain rfl := Option.some.inj h
        rw [List.getElem?_append_left (by simp; omega)]
        simp
      | succ i =>
        rw [List.getElem?_append_right (by simp; omega)]
        have := ih i b h j hj
        rw [← this]
        congr 1
        simp
        omega
  have h0 := hfl l i b hi 0 (by omega); have h1 := hfl l i b hi 1 (by omega); have h2 := hfl l i b hi 2 (by omega); have h3 := hfl l i b hi 3 (by omega)
  refine ⟨g, c, e, ?_, ?_, ?_, ?_⟩
  · have := hc (4 * i) _ h0; rwa [← e5, Nat.zero_add] at this
  · have := hc (4 * i + 1) _ h1; rwa [← e5, Nat.zero_add] at this
  · have := hc (4 * i + 2) _ h2; rwa [← e5, Nat.zero_add] at this
  · have := hc (4 * i + 3) _ h3; rwa [← e5, Nat.zero_add] at this
end Go.Proofs.YthgefobcohlegaaGreatDoor

namespace Go.Proofs.YthgefobcohlegaaGreatDoor
open Go.RowKit
set_option linter.unusedVariables false

structure LogInv (d : Dk) (done : List En) : Prop where
  ok : ∀ e ∈ done, EnOk e
  on : d.off = false → d.b = done.flatMap recL
  off : d.off = true → ∃ r, d.b = done.flatMap recL ++ r ∧ ∀ f, EnOk f → ¬ recL f <+: r
  len : d.b.length ≤ 65536
theorem LogInv.start (c : Int) : LogInv ⟨[], false, c⟩ [] := ⟨fun e h => (by cases h), fun _ => rfl, fun h => (by cases h), by simp⟩
theorem apF_z {d : Dk} {e : En} (h : (apF d e).1 = 0) : (rdF e.nm).1 = 0 ∧ tickB e.tick = true ∧ d.b.length + (recL e).length ≤ 65536 ∧ (wrD d (recL e)).2 = true := by
  unfold apF at h
  by_cases h1 : (rdF e.nm).1 ≠ 0
  · rw [if_pos h1] at h; exact absurd h h1
  rw [if_neg h1] at h
  by_cases h2 : tickB e.tick = false
  · rw [if_pos h2] at h; cases h
  rw [if_neg h2] at h
  by_cases h3 : 65536 < d.b.length + (recL e).length
  · rw [if_pos h3] at h; cases h
  rw [if_neg h3] at h
  by_cases h4 : (wrD d (recL e)).2 = true
  · exact ⟨by omega, by simpa using h2, by omega, h4⟩
  · rw [if_neg h4] at h; cases h
theorem apD_of {d : Dk} {e : En} (h1 : (rdF e.nm).1 = 0) (h2 : tickB e.tick = true) (h3 : d.b.length + (recL e).length ≤ 65536) : apD d e = (wrD d (recL e)).1 := by
  unfold apD
  rw [if_neg (fun h => h h1), if_neg (by rw [h2]; decide), if_neg (by omega)]
theorem apD_no {d : Dk} {e : En} (h : ¬ ((rdF e.nm).1 = 0 ∧ tickB e.tick = true ∧ d.b.length + (recL e).length ≤ 65536)) : apD d e = d := by
  unfold apD
  by_cases h1 : (rdF e.nm).1 ≠ 0
  · rw [if_pos h1]
  rw [if_neg h1]
  by_cases h2 : tickB e.tick = false
  · rw [if_pos h2]
  rw [if_neg h2]
  by_cases h3 : 65536 < d.b.length + (recL e).length
  · rw [if_pos h3]
  · exact absurd ⟨by omega, by simpa using h2, by omega⟩ h
theorem wrD_true {d : Dk} {s : Bs} (h : (wrD d s).2 = true) : d.off = false ∧ ¬ (0 ≤ d.cut ∧ d.cut < s.length) := by
  unfold wrD at h
  by_cases h1 : d.off = true
  · rw [if_pos h1] at h; cases h
  · rw [if_neg h1] at h
    by_cases h2 : 0 ≤ d.cut ∧ d.cut < s.length
    · rw [if_pos h2] at h; cases h
    · exact ⟨by simpa using h1, h2⟩
theorem LogInv.step {d : Dk} {done : List En} (h : LogInv d done) (e : En) (hb : e.bit < 18446744073709551616) :
    ((apF d e).1 = 0 → LogInv (apD d e) (done ++ [e])) ∧ ((apF d e).1 ≠ 0 → LogInv (apD d e) done) := by
  refine ⟨fun h0 => ?_, fun h0 => ?_⟩
  · obtain ⟨h1, h2, h3, h4⟩ := apF_z h0
    obtain ⟨h5, h6⟩ := wrD_true h4
    rw [apD_of h1 h2 h3, wrD_all h5 h6]
    refine ⟨fun x hx => ?_, fun _ => ?_, fun hh => (by cases hh), by simpa using h3⟩
    · rcases List.mem_append.1 hx with hx | hx
      · exact h.ok x hx
      · rw [List.mem_singleton.1 hx]; exact ⟨h1, h2, hb⟩
    · show d.b ++ recL e = _
      rw [h.on h5, List.flatMap_append, List.flatMap_singleton]
  · by_cases hc : (rdF e.nm).1 = 0 ∧ tickB e.tick = true ∧ d.b.length + (recL e).length ≤ 65536
    · obtain ⟨h1, h2, h3⟩ := hc
      have hlen : (apD d e).b.length ≤ 65536 := apD_len h.len e
      rw [apD_of h1 h2 h3] at hlen ⊢
      have h4 : (wrD d (recL e)).2 = false := by
        unfold apF at h0
        rw [if_neg (fun h => h h1), if_neg (by rw [h2]; decide), if_neg (by omega)] at h0
        by_cases h4 : (wrD d (recL e)).2 = true
        · rw [if_pos h4] at h0; exact absurd rfl h0
        · simpa using h4
      by_cases hoff : d.off = true
      · rw [wrD_off hoff]; exact h
      · have hoff' : d.off = false := by simpa using hoff
        by_cases h6 : 0 ≤ d.cut ∧ d.cut < (recL e).length
        · rw [wrD_cut hoff' h6.1 h6.2] at hlen ⊢
          refine ⟨h.ok, fun hh => (by cases hh), fun _ => ⟨(recL e).take d.cut.toNat, ?_, ?_⟩, hlen⟩
          · show d.b ++ _ = _
            rw [h.on hoff']
          · exact rec_cut ⟨h1, h2, hb⟩ (by omega)
        · rw [wrD_all hoff' h6] at h4; cases h4
    · rw [apD_no hc]; exact h
theorem no_rec_nil : ∀ f, EnOk f → ¬ recL f <+: [] := fun f _ h => rec_ne f (List.prefix_nil.1 h)
theorem LogInv.parts {d : Dk} {done : List En} (h : LogInv d done) : ∃ r, d.b = done.flatMap recL ++ r ∧ ∀ f, EnOk f → ¬ recL f <+: r := by
  cases hd : d.off with
  | false => exact ⟨[], by rw [h.on hd, List.append_nil], no_rec_nil⟩
  | true => exact h.off hd
theorem LogInv.read {d : Dk} {done : List En} (h : LogInv d done) {l : List En} {n : Nat} (hr : IsRead d.b l n) : l = done ∧ d.b.take n = done.flatMap recL := by
  obtain ⟨r, e, hn⟩ := h.parts
  have h2 := IsRead.of h.ok hn
  rw [← e] at h2
  obtain ⟨rfl, _⟩ := hr.uniq h2
  exact ⟨rfl, hr.pre⟩
/-- The record that is appended last. -/
def z9 : En := ⟨[122, 61, 57], 1, 2⟩
end Go.Proofs.YthgefobcohlegaaGreatDoor
