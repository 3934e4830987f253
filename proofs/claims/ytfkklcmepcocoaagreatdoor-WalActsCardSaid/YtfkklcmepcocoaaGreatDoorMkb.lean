/- A slice of bytes that is appended to: whatever room it has lies there and is not frozen. -/
import Derived.Test.YtfkklcmepcocoaaGreatDoorBase
import Derived.Test.YtfkklcmepcocoaaGreatDoorConvB
import Derived.ArgAppend
import Derived.Test.YtfkklcmepcocoaaGreatDoorWalRdN
import Derived.Test.YtfkklcmepcocoaaGreatDoorLabChk
import Derived.Test.YtfkklcmepcocoaaGreatDoorReader
import Derived.BigQuiet
import Derived.Deep.RegionLaw
namespace Go.Proofs.YtfkklcmepcocoaaGreatDoor
open Go.RowKit
set_option linter.unusedVariables false

/-- Block k is a row of bytes. -/
def U8B (w : World) (k : Nat) : Prop := ∃ cs fz, w.heap[k]? = some (.cells cs 5 fz)
theorem U8B.lt {w : World} {k : Nat} (h : U8B w k) : k < w.heap.size := by
  obtain ⟨_, _, h⟩ := h
  exact (Array.getElem?_eq_some_iff.1 h).1
theorem U8B.ne_blk {w : World} {k g : Nat} {t : TypeId} {cs : Array Value} (h : U8B w k) (hg : Blk w g t cs) (ht : t ≠ 5) : k ≠ g := by
  rintro rfl
  obtain ⟨_, _, h⟩ := h
  have e := Option.some.inj (h.symm.trans hg)
  injection e with _ e
  exact ht e.symm
theorem U8B.ne_own {w : World} {k base : Nat} {e : TypeId} {size n : Nat} {v : Value} {xs : List Value} (h : U8B w k) (ho : w.ownsRow base e size v n xs) (ht : e ≠ 5) : v.ownBlock ≠ some k := by
  rcases ho.2 with ⟨rfl, _⟩ | ⟨g, cap, cur, rfl, _, hh, _⟩
  · simp [Value.ownBlock]
  · intro hk
    have : g = k := by simpa [Value.ownBlock] using hk
    subst this
    obtain ⟨_, _, h⟩ := h
    have e := Option.some.inj (h.symm.trans hh)
    injection e with _ e
    exact ht e.symm
structure Buf (w : World) (v : Value) (n : Nat) (xs : List Value) : Prop where
  form : ∃ A c, v = .slice A n c ∧ n ≤ c ∧ c ≤ maxLen ∧ Rd w w.heap.size 1 A n xs ∧ (n < c → ∃ g o, A = some ⟨g, o, none⟩ ∧ ∀ j, n ≤ j → j < c → (w.cell? ⟨g, o + j, none⟩).isSome = true ∧ w.frozen? ⟨g, o + j, none⟩ = false)
  row : ∀ k, v.ownBlock = some k → U8B w k
theorem rd_fr {S : Nat → Prop} {w w' : World} {size n c : Nat} {A : Option Addr} {xs : List Value} (h : Rd w w.heap.size size A n xs) (hf : Fr S w w') (hn : ∀ k, (Value.slice A n c).ownBlock = some k → ¬ S k) : Rd w' w'.heap.size size A n xs := by
  refine ⟨h.1, fun h0 => ?_⟩
  obtain ⟨b, o, e, hb, hc⟩ := h.2 h0
  subst e
  exact ⟨b, o, rfl, Nat.lt_of_lt_of_le hb hf.size, fun j u hu => (World.cell?_of_block (hf.block b hb (hn b rfl))).trans (hc j u hu)⟩
theorem Buf.fr {S : Nat → Prop} {w w' : World} {v : Value} {n : Nat} {xs : List Value} (h : Buf w v n xs) (hf : Fr S w w') (hn : ∀ k, v.ownBlock = some k → ¬ S k) : Buf w' v n xs := by
  obtain ⟨⟨A, c, rfl, h1, h2, h3, h4⟩, hr⟩ := h
  refine ⟨⟨A, c, rfl, h1, h2, rd_fr h3 hf hn, fun hc => ?_⟩, fun k hk => ?_⟩
  · obtain ⟨g, o, rfl, h5⟩ := h4 hc
    have hg := hf.block g (hr g rfl).lt (hn g rfl)
    refine ⟨g, o, rfl, fun j a b => ?_⟩
    rw [World.cell?_of_block (a := ⟨g, o + j, none⟩) hg, World.frozen?_of_block (a := ⟨g, o + j, none⟩) hg]
    exact h5 j a b
  · obtain ⟨cs, fz, hg⟩ := hr k hk
    exact ⟨cs, fz, (hf.block k (hr k hk).lt (hn k hk)).trans hg⟩
theorem Buf.of_own {w : World} {base : Nat} {v : Value} {n : Nat} {xs : List Value} (h : w.ownsRow base 5 1 v n xs) : Buf w v n xs := by
  rcases h.2 with ⟨rfl, rfl⟩ | ⟨g, cap, cur, rfl, hb, hg, hnc, hcm, hcs, htake⟩
  · exact ⟨⟨none, 0, rfl, Nat.le_refl _, Nat.zero_le _, Rd.of_own h, fun h => absurd h (Nat.lt_irrefl 0)⟩, fun k hk => (by cases hk)⟩
  · refine ⟨⟨_, cap, rfl, hnc, hcm, Rd.of_own h, fun _ => ⟨g, 0, rfl, fun j h1 h2 => ⟨?_, frozen_of_row w g (0 + j) cur _ hg⟩⟩⟩, fun k hk => ?_⟩
    · rw [cell_of_row w g (0 + j) cur _ _ hg, Array.getElem?_eq_getElem (by omega)]
      rfl
    · have : g = k := by simpa [Value.ownBlock] using hk
      subst this
      exact ⟨_, _, hg⟩
theorem Buf.lt {w : World} {v : Value} {n : Nat} {xs : List Value} (h : Buf w v n xs) : ∀ k, v.ownBlock = some k → k < w.heap.size := fun k hk => (h.row k hk).lt
theorem grownBy_set (w : World) (g i : Nat) (u : Value) : w.grownBy (w.setCell ⟨g, i, none⟩ u) (some g) :=
  ⟨rfl, rfl, rfl, by simp [World.setCell], fun k _ hk => Below.heap_setCell _ _ _ _ (fun e => hk (by simp [e]))⟩
theorem U8B.set {w : World} {k g i : Nat} (h : U8B w k) (u : Value) : U8B (w.setCell ⟨g, i, none⟩ u) k := by
  obtain ⟨cs, fz, h⟩ := h
  by_cases e : g = k
  · subst e
    exact ⟨cs.setIfInBounds i u, fz, by simp [World.setCell, Array.getElem?_modify, h]⟩
  · exact ⟨cs, fz, (Below.heap_setCell w ⟨g, i, none⟩ u k (fun e2 => e e2.symm)).trans h⟩
section
variable {P : Program} {w : World}
theorem run_append_buf (t ty : TypeId) (i : TypeInfo) (ht : P.underlying t = some (.slice 5)) (hi : P.info? 5 = some i) (hz : i.zero = some (.int .u8 0))
    (hsize : i.size = 1) (hby : i.bytes = 1)
    (v : Value) (n : Nat) (xs : List Value) (hbuf : Buf w v n xs) (b o c : Nat) (u : Value) (hr : w.cell? ⟨b, o, none⟩ = some u) (h1 : u.oneCell' = true)
    (h63 : n + 1 ≤ 140737488355328) :
    ∃ v' w', (Builtin.append_ #[t, t] ty #[v, .slice (some ⟨b, o, none⟩) 1 c]).run P w = .ok v' w' ∧ Buf w' v' (n + 1) (xs ++ [u]) ∧ w.grownBy w' v.ownBlock ∧ (∀ k, v'.ownBlock = some k → v.ownBlock = some k ∨ w.heap.size ≤ k) := by
  obtain ⟨⟨A, cap, rfl, hnc, hcm, hrd, hroom⟩, hrow⟩ := hbuf
  have hone : ∀ x ∈ [u], x.oneCell' = true := fun x hx => by rw [List.mem_singleton.1 hx]; exact h1
  have hnews : ∀ (j : Nat) x, [u][j]? = some x → w.cell? ((⟨b, o, none⟩ : Addr).add j) = some x := by
    intro j x hx
    obtain ⟨hj, rfl⟩ := List.getElem?_eq_some_iff.1 hx
    have hj0 : j = 0 := by simp at hj; exact hj
    subst hj0
    rw [add_at]; exact hr
  by_cases hfull : n < cap
  · obtain ⟨g, o1, rfl, hc⟩ := hroom hfull
    have hgl : g < w.heap.size := (hrow g rfl).lt
    obtain ⟨s1, s2⟩ := hc n (Nat.le_refl _) hfull
    have hrun := run_append_room_cells (P := P) w t ty 5 i ht hi g o1 n cap ⟨b, o, none⟩ 1 c [u] (by rw [hsize]; rfl) hnews hone (by omega)
      (fun j hj => by have : j = 0 := by simpa using hj
                      subst this; rw [hsize, Nat.mul_one, Nat.add_zero]; exact s1) (fun j hj => by have : j = 0 := by simpa using hj
                                                                                                   subst this; rw [hsize, Nat.mul_one, Nat.add_zero]; exact s2)
    rw [hsize, Nat.mul_one] at hrun
    refine ⟨_, _, hrun, ⟨⟨_, cap, rfl, by omega, hcm, ⟨by rw [List.length_append, hrd.1]; simp, fun _ => ⟨g, o1, rfl, ?_, fun j x hx => ?_⟩⟩, fun hlt => ⟨g, o1, rfl, fun j a1 a2 => ?_⟩⟩, fun k hk => ?_⟩, grownBy_set _ _ _ _, fun k hk => .inl hk⟩
    · show g < (w.setCell ⟨g, o1 + n, none⟩ u).heap.size
      simpa [World.setCell] using hgl
    · show (w.setCell ⟨g, o1 + n, none⟩ u).cell? _ = _
      have hl : xs.length = n := by simpa using hrd.1
      rcases Nat.lt_or_ge j n with hj | hj
      · rw [World.cell?_setCell_other _ _ _ _ (by intro e; injection e; omega)]
        obtain ⟨b2, o2, e2, _, hcell⟩ := hrd.2 (by omega)
        injection e2 with e2
        injection e2 with e3 e4
        subst e3; subst e4
        exact hcell j x (by rw [← hx, List.getElem?_append_left (by omega)])
      · rw [List.getElem?_append_right (by omega)] at hx
        obtain ⟨hj2, rfl⟩ := List.getElem?_eq_some_iff.1 hx
        have : j = n := by simp at hj2; omega
        subst this
        obtain ⟨y, hy⟩ := Option.isSome_iff_exists.1 s1
        rw [World.cell?_setCell_same _ _ _ hy]
        simp [hl]
    · show ((w.setCell ⟨g, o1 + n, none⟩ u).cell? _).isSome = true ∧ (w.setCell ⟨g, o1 + n, none⟩ u).frozen? _ = false
      rw [World.frozen?_setCell, World.cell?_setCell_other _ _ _ _ (by intro e; injection e; omega)]
      exact hc j (by omega) a2
    · exact (hrow k hk).set u
  · obtain rfl : n = cap := by omega
    have hml : n + 1 ≤ maxLen := by unfold maxLen; omega
    cases A with
    | none =>
      have hn : n = 0 := by
        rcases Nat.eq_zero_or_pos n with h | h
        · exact h
        · obtain ⟨_, _, e, _⟩ := hrd.2 h; cases e
      subst hn
      have hx : xs = [] := List.eq_nil_of_length_eq_zero (by simpa using hrd.1)
      subst hx
      obtain ⟨v', w', hrun, r1, r2, _⟩ := run_append_own (P := P) w w.heap.size t ty 5 i _ 1 1 ht hi hz hsize hby rfl (by decide) (.slice none 0 0) 0 [] (World.ownsRow_nil w _ _ 1) ⟨b, o, none⟩ 1 c [u] rfl hnews hone hml (by omega) (Nat.le_refl _)
      exact ⟨v', w', hrun, Buf.of_own r1, r2, fun k hk => .inr (own_lt r1 k hk).1⟩
    | some a0 =>
      obtain ⟨v', w', hrun, r1, r2⟩ := run_append_arg_grows (P := P) w t ty 5 i _ 1 1 ht hi hz hsize hby rfl (by decide) a0 n n xs hrd.1 (fun j x hu => by
        have hn1 : 0 < n := by
          have h0 := hrd.1
          have hj := (List.getElem?_eq_some_iff.1 hu).1
          omega
        obtain ⟨b0, o0, e0, _, hc⟩ := hrd.2 hn1
        injection e0 with e0
        subst e0
        rw [Addr.add_lit]; exact hc j x hu) ⟨b, o, none⟩ 1 c [u] rfl hnews (by omega) hml (by omega)
      exact ⟨v', w', hrun, Buf.of_own r1, ⟨r2.os, r2.tape, r2.output, r2.size, fun k hk _ => r2.block k hk (by simp)⟩, fun k hk => .inr (own_lt r1 k hk).1⟩
theorem wpList_append_buf {ops : Array Oper} {rest : List Oper} {o : Oper} {a : Act} {Q : Exit → Act → World → Prop} (hgd : o.guard = none) (s x : Operand) (t : TypeId)
    (ho : o.op = .call { callee := .builtin .append, args := #[s, x], argTypes := #[t, t] })
    (i : TypeInfo) (ht : P.underlying t = some (.slice 5)) (hi : P.info? 5 = some i) (hz : i.zero = some (.int .u8 0)) (hsize : i.size = 1) (hby : i.bytes = 1)
    (v : Value) (n : Nat) (xs : List Value) (hs : a.eval s = v) (hbuf : Buf w v n xs)
    (b of c : Nat) (u : Value) (hx : a.eval x = .slice (some ⟨b, of, none⟩) 1 c) (hr : w.cell? ⟨b, of, none⟩ = some u) (h1 : u.oneCell' = true) (h63 : n + 1 ≤ 140737488355328)
    (h : ∀ v' w', Buf w' v' (n + 1) (xs ++ [u]) → w.grownBy w' v.ownBlock → (∀ k, v'.ownBlock = some k → v.ownBlock = some k ∨ w.heap.size ≤ k) → wpList P ops Q rest (a.put o.dst v') w') : wpList P ops Q (o :: rest) a w := by
  refine wpList_plain hgd fun K hK => ?_
  obtain ⟨v', w', hrun, h2, h3, h4⟩ := run_append_buf (P := P) (w := w) t o.type i ht hi hz hsize hby v n xs hbuf b of c u hr h1 h63
  unfold Oper.wp execOp
  simp only [ho, resolve, invoke, builtin, Sem.run_bind, Sem.run_pure, Result.andThen_ok, List.map_toArray, List.map_cons, List.map_nil, hs, hx, hrun]
  exact hK _ _ (h v' w' h2 h3 h4)
theorem step_append_buf {ops : Array Oper} {o : Oper} {a : Act} {K : Act → World → Prop} {Q : Exit → Act → World → Prop} {E : Prop} (hgd : o.guard = none) (s x : Operand) (t : TypeId)
    (ho : o.op = .call { callee := .builtin .append, args := #[s, x], argTypes := #[t, t] })
    (i : TypeInfo) (ht : P.underlying t = some (.slice 5)) (hi : P.info? 5 = some i) (hz : i.zero = some (.int .u8 0)) (hsize : i.size = 1) (hby : i.bytes = 1)
    (v : Value) (n : Nat) (xs : List Value) (hs : a.eval s = v) (hbuf : Buf w v n xs)
    (b of c : Nat) (u : Value) (hx : a.eval x = .slice (some ⟨b, of, none⟩) 1 c) (hr : w.cell? ⟨b, of, none⟩ = some u) (h1 : u.oneCell' = true) (h63 : n + 1 ≤ 140737488355328)
    (h : ∀ v' w', Buf w' v' (n + 1) (xs ++ [u]) → w.grownBy w' v.ownBlock → (∀ k, v'.ownBlock = some k → v.ownBlock = some k ∨ w.heap.size ≤ k) → K (a.put o.dst v') w') :
    if Region.wanted o (yielded ops a.tmps) = true then Oper.wp P o a w K Q else E := by
  rw [if_pos (by simp [Region.wanted, hgd])]
  obtain ⟨v', w', hrun, h2, h3, h4⟩ := run_append_buf (P := P) (w := w) t o.type i ht hi hz hsize hby v n xs hbuf b of c u hr h1 h63
  unfold Oper.wp execOp
  simp only [ho, resolve, invoke, builtin, Sem.run_bind, Sem.run_pure, Result.andThen_ok, List.map_toArray, List.map_cons, List.map_nil, hs, hx, hrun]
  exact h v' w' h2 h3 h4
end
/-- What a conversion of a text to bytes makes. -/
theorem Buf.conv (w : World) (s : ByteArray) (hs : s.size ≤ 1000000) :
    Buf (Lib.bytesWorld w 5 s) (.slice (some ⟨w.heap.size, 0, none⟩) s.size (grownCap w s.size 0 5)) s.size (s.data.toList.map fun x : UInt8 => Value.int .u8 (x.toNat : Int)) := by
  have hge := grownCap_ge w s.size 0 5
  have hcm : grownCap w s.size 0 5 ≤ maxLen := grownCap_le_maxLen w s.size 0 _ (by unfold maxLen; omega)
  have hB := Lib.bytesWorld_at_new w 5 s
  have hd : s.data.size = s.size := rfl
  have hcs : (Lib.bytesCells w 5 s).size = grownCap w s.size 0 5 := by
    unfold Lib.bytesCells
    rw [Array.size_append, Array.size_map, Array.size_replicate, hd]; omega
  refine ⟨⟨_, _, rfl, hge, hcm, ⟨by simp, fun _ => ⟨_, 0, rfl, by rw [Lib.bytesWorld_size]; omega, fun j u hu => ?_⟩⟩, fun _ => ⟨_, 0, rfl, fun j h1 h2 => ⟨?_, ?_⟩⟩⟩, fun k hk => ?_⟩
  · rw [Nat.zero_add]
    have hj : j < s.size := by have := (List.getElem?_eq_some_iff.1 hu).1; simpa using this
    rw [Lib.bytesWorld_cell w _ s j hj]
    rw [List.getElem?_map] at hu
    rw [List.getD_eq_getElem?_getD]
    obtain ⟨x, hx, rfl⟩ := Option.map_eq_some_iff.1 hu
    rw [hx]; rfl
  · rw [Nat.zero_add, cell_of_row _ _ j _ _ _ hB, Array.getElem?_eq_getElem (by omega)]; rfl
  · rw [Nat.zero_add]
    simp only [World.frozen?, hB, Bool.and_eq_false_iff, decide_eq_false_iff_not]
    left; omega
  · have : w.heap.size = k := by simpa [Value.ownBlock] using hk
    subst this
    exact ⟨_, _, hB⟩
end Go.Proofs.YtfkklcmepcocoaaGreatDoor

namespace Go.Proofs.YtfkklcmepcocoaaGreatDoor
open Go.RowKit
set_option linter.unusedVariables false

/-- A disk: its bytes; is its power off; how many bytes until power fails (-1: it does not). -/
structure Dk where
  b : Bs
  off : Bool
  cut : Int
/-- Bytes are written one by one; did all go? -/
def wrD (d : Dk) (s : Bs) : Dk × Bool :=
  if d.off = true then (d, false) else if 0 ≤ d.cut ∧ d.cut < s.length then (⟨d.b ++ s.take d.cut.toNat, true, 0⟩, false) else (⟨d.b ++ s, false, if d.cut < 0 then -1 else d.cut - s.length⟩, true)
theorem wrD_off {d : Dk} (h : d.off = true) (s : Bs) : wrD d s = (d, false) := if_pos h
theorem wrD_cut {d : Dk} (h : d.off = false) {s : Bs} (h0 : 0 ≤ d.cut) (h1 : d.cut < s.length) : wrD d s = (⟨d.b ++ s.take d.cut.toNat, true, 0⟩, false) := by
  unfold wrD; rw [if_neg (by rw [h]; decide), if_pos ⟨h0, h1⟩]
theorem wrD_all {d : Dk} (h : d.off = false) {s : Bs} (h1 : ¬ (0 ≤ d.cut ∧ d.cut < s.length)) : wrD d s = (⟨d.b ++ s, false, if d.cut < 0 then -1 else d.cut - s.length⟩, true) := by
  unfold wrD; rw [if_neg (by rw [h]; decide), if_neg h1]
/-- What is wrong with an append: its number, and its place. -/
def apF (d : Dk) (e : En) : Nat × Int :=
  if (rdF e.nm).1 ≠ 0 then rdF e.nm else if tickB e.tick = false then (2, -1) else if 65536 < d.b.length + (recL e).length then (7, -1) else if (wrD d (recL e)).2 = true then (0, -1) else (10, -1)
/-- What it leaves. -/
def apD (d : Dk) (e : En) : Dk :=
  if (rdF e.nm).1 ≠ 0 then d else if tickB e.tick = false then d else if 65536 < d.b.length + (recL e).length then d else (wrD d (recL e)).1
theorem wrD_len (d : Dk) (s : Bs) : (wrD d s).1.b.length ≤ d.b.length + s.length := by
  unfold wrD
  split
  · dsimp only; omega
  · split
    · dsimp only; rw [List.length_append, List.length_take]; omega
    · dsimp only; rw [List.length_append]; omega
theorem apD_len {d : Dk} (h : d.b.length ≤ 65536) (e : En) : (apD d e).b.length ≤ 65536 := by
  unfold apD
  split
  · exact h
  · split
    · exact h
    · split
      · exact h
      · have := wrD_len d (recL e); omega
/-- A cut that may be. -/
def CutOk (c : Int) : Prop := -1 ≤ c ∧ c < 9223372036854775808
theorem wrD_cutOk {d : Dk} (h : CutOk d.cut) (s : Bs) : CutOk (wrD d s).1.cut := by
  unfold CutOk at h ⊢
  unfold wrD
  split
  · exact h
  · split
    · dsimp only; omega
    · rename_i h1
      dsimp only
      split <;> omega
theorem apD_cutOk {d : Dk} (h : CutOk d.cut) (e : En) : CutOk (apD d e).cut := by
  unfold apD
  split
  · exact h
  · split
    · exact h
    · split
      · exact h
      · exact wrD_cutOk h _

def bytC (b : Bs) : List Value := b.map fun x : UInt8 => Value.int .u8 (x.toNat : Int)
theorem bytC_nats (b : Bs) : bytC b = (natsOf b).map fun x : Nat => Value.int .u8 (x : Int) := by unfold bytC natsOf; rw [List.map_map]; rfl
/-- A disk in memory: its block, its slice. -/
structure DiskAt (w : World) (q : Nat) (v : Value) (d : Dk) : Prop where
  hd : Blk w q 113 #[v, .bool d.off, .int .i64 d.cut]
  buf : Buf w v d.b.length (bytC d.b)
  ok : CutOk d.cut
/-- The blocks that a disk lies in. -/
def DkS (q : Nat) (v : Value) (k : Nat) : Prop := k = q ∨ v.ownBlock = some k
theorem DiskAt.ne {w : World} {q : Nat} {v : Value} {d : Dk} (h : DiskAt w q v d) : v.ownBlock ≠ some q := fun e => (h.buf.row q e).ne_blk h.hd (by decide) rfl
theorem DiskAt.S_lt {w : World} {q : Nat} {v : Value} {d : Dk} (h : DiskAt w q v d) : ∀ k, DkS q v k → k < w.heap.size := by
  rintro k (rfl | hk)
  · exact h.hd.lt
  · exact h.buf.lt k hk
theorem DiskAt.fr {S : Nat → Prop} {w w' : World} {q : Nat} {v : Value} {d : Dk} (h : DiskAt w q v d) (hf : Fr S w w') (hn : ∀ k, DkS q v k → ¬ S k) : DiskAt w' q v d :=
  ⟨hf.blk h.hd (hn q (.inl rfl)), h.buf.fr hf (fun k hk => hn k (.inr hk)), h.ok⟩
theorem Fr.ofB {B : Nat} {w w' : World} (h : Below B w w') (hB : w.heap.size ≤ B) : Fr (fun _ => False) w w' := ⟨h.os, h.tape, h.output, h.size, fun k hk _ => h.block k (Nat.lt_of_lt_of_le hk hB)⟩
theorem DiskAt.below {B : Nat} {w w' : World} {q : Nat} {v : Value} {d : Dk} (h : DiskAt w q v d) (hb : Below B w w') (hB : w.heap.size ≤ B) : DiskAt w' q v d := h.fr (Fr.ofB hb hB) (fun _ _ h => h)
/-- The disk has turned; nothing else that was there has. -/
structure DStep (w w' : World) (q : Nat) (v : Value) (v' : Value) (d' : Dk) : Prop where
  at_ : DiskAt w' q v' d'
  fr : Fr (DkS q v) w w'
  mv : ∀ k, v'.ownBlock = some k → v.ownBlock = some k ∨ w.heap.size ≤ k
theorem DStep.trans {w w1 w2 : World} {q : Nat} {v v1 v2 : Value} {d1 d2 : Dk} (h1 : DStep w w1 q v v1 d1) (h2 : DStep w1 w2 q v1 v2 d2) : DStep w w2 q v v2 d2 := by
  refine ⟨h2.at_, Fr.trans h1.fr h2.fr (fun i hi hk => ?_), fun k hk => ?_⟩
  · rcases hk with rfl | hk
    · exact .inl rfl
    · rcases h1.mv i hk with h | h
      · exact .inr h
      · omega
  · rcases h2.mv k hk with h | h
    · exact h1.mv k h
    · exact .inr (Nat.le_trans h1.fr.size h)
theorem DStep.ofBelow {B : Nat} {w w' : World} {q : Nat} {v : Value} {d : Dk} (h : DiskAt w q v d) (hb : Below B w w') (hB : w.heap.size ≤ B) : DStep w w' q v v d :=
  ⟨h.below hb hB, (Fr.ofB hb hB).mono (fun _ _ h => h.elim), fun k hk => .inl hk⟩
theorem DStep.before {B : Nat} {w w1 w' : World} {q : Nat} {v v' : Value} {d d' : Dk} (h0 : DiskAt w q v d) (hb : Below B w w1) (hB : w.heap.size ≤ B) (h : DStep w1 w' q v v' d') : DStep w w' q v v' d' := (DStep.ofBelow h0 hb hB).trans h
theorem DStep.behind {B : Nat} {w w1 w' : World} {q : Nat} {v v' : Value} {d' : Dk} (h : DStep w w1 q v v' d') (hb : Below B w1 w') (hB : w1.heap.size ≤ B) : DStep w w' q v v' d' := h.trans (DStep.ofBelow h.at_ hb hB)
/-- All that the disk lies in is the law's own. -/
def DkLo (B q : Nat) (v : Value) : Prop := ∀ k, DkS q v k → B ≤ k
theorem DStep.lo {B : Nat} {w w' : World} {q : Nat} {v v' : Value} {d' : Dk} (h : DStep w w' q v v' d') (hl : DkLo B q v) (hB : B ≤ w.heap.size) : DkLo B q v' := by
  rintro k (rfl | hk)
  · exact hl _ (.inl rfl)
  · rcases h.mv k hk with h | h
    · exact hl k (.inr h)
    · omega
theorem DStep.below {B : Nat} {w w' : World} {q : Nat} {v v' : Value} {d' : Dk} (h : DStep w w' q v v' d') (hl : DkLo B q v) (hB : B ≤ w.heap.size) : Below B w w' :=
  h.fr.below hB (fun k hk hs => by have := hl k hs; omega)
/-- A row of another type is as it was. -/
theorem DStep.own {w w' : World} {q : Nat} {v v' : Value} {d d' : Dk} (h0 : DiskAt w q v d) (h : DStep w w' q v v' d') {base : Nat} {e : TypeId} {size n : Nat} {x : Value} {xs : List Value} (ho : w.ownsRow base e size x n xs) (h1 : e ≠ 113) (h2 : e ≠ 5) : w'.ownsRow base e size x n xs := by
  refine h.fr.own ho (fun k hk hs => ?_)
  rcases hs with rfl | hs
  · exact own_ne_blk ho h0.hd h1 hk.symm
  · exact (h0.buf.row k hs).ne_own ho h2 hk
theorem DStep.blk {w w' : World} {q : Nat} {v v' : Value} {d d' : Dk} (h0 : DiskAt w q v d) (h : DStep w w' q v v' d') {g : Nat} {t : TypeId} {cs : Array Value} (ho : Blk w g t cs) (h1 : t ≠ 113) (h2 : t ≠ 5) : Blk w' g t cs := by
  refine h.fr.blk ho (fun hs => ?_)
  rcases hs with rfl | hs
  · exact Blk.ne_ ho h0.hd h1 rfl
  · exact (h0.buf.row g hs).ne_blk ho h2 rfl
end Go.Proofs.YtfkklcmepcocoaaGreatDoor

namespace Go.Proofs.YtfkklcmepcocoaaGreatDoor
open Go.RowKit
set_option linter.unusedVariables false

theorem bytC_snoc {s : Bs} {k : Nat} {c : UInt8} (b : Bs) (h : s[k]? = some c) : bytC (b ++ s.take (k + 1)) = bytC (b ++ s.take k) ++ [.int .u8 (c.toNat : Int)] := by
  rw [take_snoc h, ← List.append_assoc]
  unfold bytC
  rw [List.map_append]; rfl
theorem bytC_len (b : Bs) : (bytC b).length = b.length := by unfold bytC; rw [List.length_map]
/-- One byte more, and one fewer until power fails. -/
theorem dw_step {wr W wa : World} {q : Nat} {v1 v2 : Value} {d1 : Dk} {c : UInt8} {c2 : Int} (h : DiskAt wr q v1 d1) (hf : Fr (fun _ => False) wr W) (hgr : W.grownBy wa v1.ownBlock) (hb : Buf wa v2 (d1.b.length + 1) (bytC d1.b ++ [.int .u8 (c.toNat : Int)]))
    (hmv : ∀ k, v2.ownBlock = some k → v1.ownBlock = some k ∨ W.heap.size ≤ k) (hc : CutOk c2) :
    DStep wr ((wa.setCell ⟨q, 0, none⟩ v2).setCell ⟨q, 2, none⟩ (.int .i64 c2)) q v1 v2 ⟨d1.b ++ [c], d1.off, c2⟩ := by
  have hfa : Fr (fun k => v1.ownBlock = some k) wr wa := (hf.mono (fun _ _ h => h.elim)).grown hgr (fun k hk => .inr hk)
  have qa := hfa.blk h.hd h.ne
  have hz : Fr (fun k => k = q) wa ((wa.setCell ⟨q, 0, none⟩ v2).setCell ⟨q, 2, none⟩ (.int .i64 c2)) :=
    Fr.setCell (S := fun k => k = q) (Fr.setCell (S := fun k => k = q) (Fr.refl _ _) (p := ⟨q, 0, none⟩) (.inr rfl) v2) (p := ⟨q, 2, none⟩) (.inr rfl) _
  refine ⟨⟨(qa.set_ 0 v2).set_ 2 _, ?_, hc⟩, Fr.trans (hfa.mono fun k _ hk => .inr hk) hz (fun k _ hk => .inl hk), fun k hk => ?_⟩
  · have e1 : (d1.b ++ [c]).length = d1.b.length + 1 := by rw [List.length_append]; rfl
    have e2 : bytC (d1.b ++ [c]) = bytC d1.b ++ [.int .u8 (c.toNat : Int)] := by unfold bytC; rw [List.map_append]; rfl
    show Buf _ v2 (d1.b ++ [c]).length (bytC (d1.b ++ [c]))
    rw [e1, e2]
    exact hb.fr hz (fun k hk e => (hb.row k hk).ne_blk qa (by decide) e)
  · rcases hmv k hk with h1 | h1
    · exact .inl h1
    · exact .inr (Nat.le_trans hf.size h1)
/-- Two fields of a disk turn. -/
theorem dset {w : World} {q : Nat} {v : Value} {d d' : Dk} (h : DiskAt w q v d) (hb : d'.b = d.b) (hc : CutOk d'.cut) (wz : World) (hz : Fr (fun k => k = q) w wz) (hd : Blk wz q 113 #[v, .bool d'.off, .int .i64 d'.cut]) : DStep w wz q v v d' := by
  refine ⟨⟨hd, ?_, hc⟩, hz.mono (fun k _ hk => .inl hk), fun k hk => .inl hk⟩
  rw [hb]
  exact h.buf.fr hz (fun k hk e => h.ne (by rw [hk, e]))
theorem fr_set (w : World) (q i : Nat) (u : Value) : Fr (fun k => k = q) w (w.setCell ⟨q, i, none⟩ u) := Fr.setCell (S := fun k => k = q) (Fr.refl _ _) (p := ⟨q, i, none⟩) (.inr rfl) u
def WPost (es : Nat → Addr) (w : World) (q : Nat) (v : Value) (d : Dk) (s : Bs) (e : Ending) (w' : World) : Prop :=
  ((wrD d s).2 = true → e = .returned .nilIface) ∧ ((wrD d s).2 = false → e = .returned (sentV (es 9))) ∧ ∃ v', DStep w w' q v v' (wrD d s).1
set_option maxHeartbeats 4000000 in
set_option maxRecDepth 100000 in
theorem dwrite_off {es : Nat → Addr} {B q : Nat} {v : Value} {d : Dk} (s : Bs) (w : World) (hD : DiskAt w q v d) (hlo : DkLo B q v) (g1 : w.cell? ⟨gErr 9, 0, none⟩ = some (sentV (es 9))) (gB : gErr 9 < B) (hs : 1 ≤ s.length) (hs2 : s.length ≤ 100000) (ho : d.off = true) :
    Calls Tryz.prog 59 #[.pointer (some ⟨q, 0, none⟩), .string (B8 s)] w (WPost es w q v d s) := by
  have hsz : (B8 s).size = s.length := B8_size s
  obtain ⟨n, hn⟩ : ∃ n, n = s.length := ⟨_, rfl⟩
  rw [← hn] at hsz hs hs2
  have c1 : w.cell? ⟨q, 1, none⟩ = some (.bool true) := by rw [← ho]; exact hD.hd.cell 1
  have f1 := hD.hd.frozen 1
  have hq : B ≤ q := hlo q (.inl rfl)
  have hne : gErr 9 ≠ q := by omega
  have Hst := Lib.hid (show DStep w (w.setCell ⟨q, 1, none⟩ (.bool true)) q v v d from dset hD rfl hD.ok _ (fr_set w q 1 _) (by
    have := hD.hd.set_ 1 (.bool true)
    rw [ho]; rw [ho] at this; exact this))
  have Hw := Lib.hid (wrD_off ho s)
  have G1 : w.cell? ⟨3, 0, none⟩ = some (sentV (es 9)) := g1
  have hne2 : 3 ≠ q := hne
  have hn1 : (0 : Int) < n := by omega
  clear hD hlo g1 gB ho hn hne hq
  generalize B8 s = st at hsz
  go_enter Tryz.func59, Tryz.ntmps59
  go_wp2
  go_loopw [5, 8] (fun _ iv wr => iv = .int .i64 0 ∧ wr = w) (fun _ _ _ => 0)
  case atStart => exact ⟨rfl, rfl⟩
  case round =>
    obtain ⟨rfl, rfl⟩ := hrel
    go_wp2
    go_ret
    refine ⟨fun h => (by rw [Hw.out] at h; cases h), fun _ => rfl, v, ?_⟩
    rw [Hw.out]; exact Hst.out
/-- How much is left when k bytes are written. -/
def cutK (c : Int) (k : Nat) : Int := if c < 0 then -1 else c - k
theorem cutK_ok {c : Int} (h : CutOk c) {k : Nat} (hk : 0 ≤ c → (k : Int) ≤ c) : CutOk (cutK c k) := by
  unfold CutOk at h ⊢
  unfold cutK
  split
  · omega
  · have := hk (by omega); omega
set_option maxHeartbeats 4000000 in
set_option maxRecDepth 100000 in
theorem dwrite_on {es : Nat → Addr} {B q : Nat} {v : Value} {d : Dk} (s : Bs) (w : World) (hD : DiskAt w q v d) (hlo : DkLo B q v) (hB : B ≤ w.heap.size) (g1 : w.cell? ⟨gErr 9, 0, none⟩ = some (sentV (es 9))) (gB : gErr 9 < B) (hs2 : d.b.length + s.length ≤ 1000000) (ho : d.off = false) :
    Calls Tryz.prog 59 #[.pointer (some ⟨q, 0, none⟩), .string (B8 s)] w (WPost es w q v d s) := by
  have hsz : (B8 s).size = s.length := B8_size s
  have Hat := Lib.hid (fun i (h : i < (B8 s).size) => show ((B8 s)[i]).toNat = (s.getD i 0).toNat from B8_at s i h)
  obtain ⟨n, hn⟩ : ∃ n, n = s.length := ⟨_, rfl⟩
  rw [← hn] at hsz hs2
  have Hn := Lib.hid hn
  have H0 := Lib.hid hD; have Hlo := Lib.hid hlo; have Ho := Lib.hid ho
  have hok : CutOk d.cut := hD.ok
  have HG := Lib.hid (fun W (hb : Below B w W) => show W.cell? ⟨gErr 9, 0, none⟩ = some (sentV (es 9)) from (hb.cell (p := ⟨gErr 9, 0, none⟩) gB).trans g1)
  have hq : B ≤ q := hlo q (.inl rfl)
  have hne2 : 3 ≠ q := fun e => by have : gErr 9 = q := e; omega
  obtain ⟨i0, hi, hz0, hz1, hz2⟩ := info_parts infoU8
  have Hi := Lib.hid hi; have Hz0 := Lib.hid hz0; have Hz1 := Lib.hid hz1; have Hz2 := Lib.hid hz2
  have HB := Lib.hid hB
  generalize hst : B8 s = st at hsz Hat ⊢
  unfold CutOk at hok
  clear hD hlo g1 ho hn hi hz0 hz1 hz2 hB hst gB
  go_enter Tryz.func59, Tryz.ntmps59
  go_wp2
  go_loopw [5, 8] (fun _ iv wr => ∃ (k : Nat) (v1 : Value), k ≤ n ∧ (0 ≤ d.cut → (k : Int) ≤ d.cut) ∧ iv = .int .i64 k ∧ DStep w wr q v v1 ⟨d.b ++ s.take k, false, cutK d.cut k⟩) (fun _ iv _ => n - (intOf iv).toNat)
  case atStart =>
    refine ⟨0, v, Nat.zero_le _, fun h => h, rfl, ?_⟩
    have e : (⟨d.b ++ s.take 0, false, cutK d.cut 0⟩ : Dk) = d := by
      have e1 : cutK d.cut 0 = d.cut := by unfold cutK; split <;> omega
      rw [e1, ← Ho.out, List.take_zero, List.append_nil]
    rw [e]
    exact DStep.ofBelow H0.out (Below.refl _ _) (Nat.le_refl _)
  case round =>
    obtain ⟨k, v1, hk, hkc, rfl, hst⟩ := hrel
    have HS := Lib.hid hst
    have hbel := hst.below Hlo.out HB.out
    have G1 : wr.cell? ⟨3, 0, none⟩ = some (sentV (es 9)) := HG.out _ hbel
    have c0 : wr.cell? ⟨q, 0, none⟩ = some v1 := hst.at_.hd.cell 0
    have c1 : wr.cell? ⟨q, 1, none⟩ = some (.bool false) := hst.at_.hd.cell 1
    have c2 : wr.cell? ⟨q, 2, none⟩ = some (.int .i64 (cutK d.cut k)) := hst.at_.hd.cell 2
    have hql : q < wr.heap.size := hst.at_.hd.lt
    have f0 := hst.at_.hd.frozen 0; have f1 := hst.at_.hd.frozen 1; have f2 := hst.at_.hd.frozen 2
    clear hst hbel
    by_cases hkn : k < n
    · have hkn' : (k : Int) < n := by omega
      by_cases hcut : 0 ≤ d.cut ∧ d.cut = k
      · have hcz : cutK d.cut k = 0 := by unfold cutK; rw [if_neg (by omega)]; omega
        rw [hcz] at c2
        have Hst := Lib.hid (show DStep w (wr.setCell ⟨q, 1, none⟩ (.bool true)) q v v1 ⟨d.b ++ s.take k, true, 0⟩ from
          HS.out.trans (dset (d' := ⟨d.b ++ s.take k, true, 0⟩) HS.out.at_ rfl ⟨by show (-1 : Int) ≤ 0; decide, by show (0 : Int) < 9223372036854775808; decide⟩ _ (fr_set wr q 1 (.bool true)) (by
            have := HS.out.at_.hd.set_ 1 (.bool true)
            dsimp only at this
            rw [hcz] at this; exact this)))
        have Hw := Lib.hid (show wrD d s = (⟨d.b ++ s.take k, true, 0⟩, false) by
          have := wrD_cut Ho.out (s := s) hcut.1 (by rw [← Hn.out]; omega)
          rw [this]
          have e : d.cut.toNat = k := by omega
          rw [e])
        clear hcz hcut hkc
        go_wp2
        go_ret
        refine ⟨fun h => (by rw [Hw.out] at h; cases h), fun _ => rfl, v1, ?_⟩
        rw [Hw.out]; exact Hst.out
      · obtain ⟨c, hc⟩ : ∃ c, s[k]? = some c := ⟨_, List.getElem?_eq_getElem (by rw [← Hn.out]; exact hkn)⟩
        have hk1 : k < st.size := by omega
        have x0 := Hat.out k hk1
        have hg : s.getD k 0 = c := by rw [List.getD_eq_getElem?_getD, hc]; rfl
        rw [hg] at x0
        have Hc := Lib.hid hc
        have hcn : ¬ cutK d.cut k = 0 := by unfold cutK; split <;> omega
        have hcnb : (cutK d.cut k == 0) = false := by rw [beq_eq_false_iff_ne]; exact hcn
        have hcr : -1 ≤ cutK d.cut k ∧ cutK d.cut k < 9223372036854775808 := by
          unfold cutK; split <;> omega
        obtain ⟨hcr1, hcr2⟩ := hcr
        have Hnx := Lib.hid (show CutOk (cutK d.cut (k + 1)) ∧ (cutK d.cut k - 1 < -1 → cutK d.cut (k + 1) = -1) ∧ (-1 ≤ cutK d.cut k - 1 → cutK d.cut (k + 1) = cutK d.cut k - 1) ∧ (0 ≤ d.cut → ((k + 1 : Nat) : Int) ≤ d.cut) from by
          unfold CutOk cutK; refine ⟨?_, ?_, ?_, ?_⟩ <;> (try split) <;> omega)
        have Hck := Lib.hid (show cutK d.cut k = cutK d.cut k from rfl)
        generalize cutK d.cut k = ck at c2 hcn hcnb hcr1 hcr2 Hnx HS
        obtain ⟨N, hN⟩ : ∃ N, N = (d.b ++ s.take k).length := ⟨_, rfl⟩
        have hl63 : N + 1 ≤ 140737488355328 := by rw [hN, List.length_append, List.length_take]; omega
        have HN := Lib.hid hN
        have HBuf := Lib.hid (fun W (hf : Fr (fun _ => False) wr W) => show Buf W v1 N (bytC (d.b ++ s.take k)) from by rw [hN]; exact HS.out.at_.buf.fr hf (fun _ _ h => h))
        have HF := Lib.hid (fun W wa (hf : Fr (fun _ => False) wr W) (hgr : W.grownBy wa v1.ownBlock) => show wa.cell? ⟨q, 0, none⟩ = some v1 ∧ wa.cell? ⟨q, 1, none⟩ = some (.bool false) ∧ wa.cell? ⟨q, 2, none⟩ = some (.int .i64 ck) ∧ wa.frozen? ⟨q, 0, none⟩ = false ∧ wa.frozen? ⟨q, 2, none⟩ = false from by
          have hfa : Fr (fun k => v1.ownBlock = some k) wr wa := (hf.mono (fun _ _ h => h.elim)).grown hgr (fun k hk => .inr hk)
          have qa := hfa.blk HS.out.at_.hd HS.out.at_.ne
          exact ⟨qa.cell 0, qa.cell 1, qa.cell 2, qa.frozen 0, qa.frozen 2⟩)
        clear hc hg hcut hkc hN
        go_wp2
        go_region_law ((refine step_append_buf (by rfl) (.tmp 30) (.tmp 34) _ (by rfl) i0 Tryz.underlying111 Hi.out Hz0.out Hz1.out Hz2.out v1 _ _ (by rfl) (HBuf.out _ (by repeat (first | exact Fr.refl _ _ | refine Fr.drew ?_ | refine Fr.alloc ?_ _))) wr.heap.size 0 1 (.int .u8 (c.toNat : Int)) (by rfl) ((Blk.new wr 5 #[.int .u8 (c.toNat : Int)]).cell 0) (by rfl) hl63 ?_; intro v2 wa hbuf2 hgr hmv; have hbf := hbuf2.form; rw [HN.out] at hbuf2; have HE := Lib.hid (fun c2 (hc2 : CutOk c2) => dw_step HS.out.at_ (by repeat (first | exact Fr.refl _ _ | refine Fr.drew ?_ | refine Fr.alloc ?_ _)) hgr hbuf2 hmv hc2); clear hbuf2 hmv; obtain ⟨A2, cc2, rfl, _, _, _, _⟩ := hbf; obtain ⟨y0, y1, y2, y3, y4⟩ := HF.out _ wa (by repeat (first | exact Fr.refl _ _ | refine Fr.drew ?_ | refine Fr.alloc ?_ _)) hgr; clear hgr))
        all_goals
          go_wp2
          go_roundw
          case rel =>
            obtain ⟨h1, h2, h3, h4⟩ := Hnx.out
            have e1 : max (-1) (ck - 1) = cutK d.cut (k + 1) := by
              rcases Int.lt_or_le (ck - 1) (-1) with h | h
              · rw [h2 h, Int.max_eq_left (by omega)]
              · rw [h3 h, Int.max_eq_right h]
            have e2 : d.b ++ s.take (k + 1) = (d.b ++ s.take k) ++ [c] := by rw [take_snoc Hc.out, List.append_assoc]
            refine ⟨k + 1, .slice A2 (N + 1) cc2, by omega, h4, by go_num, ?_⟩
            rw [e1, e2]
            exact HS.out.trans (HE.out _ h1)
          case measure => simp [intOf]; omega
    · obtain rfl : k = n := by omega
      have Hw := Lib.hid (show wrD d s = (⟨d.b ++ s, false, cutK d.cut k⟩, true) by
        rw [wrD_all Ho.out (by rw [← Hn.out]; omega), ← Hn.out]; rfl)
      have e : s.take k = s := List.take_of_length_le (by rw [← Hn.out]; exact Nat.le_refl _)
      have Hst := Lib.hid (show DStep w wr q v v1 ⟨d.b ++ s, false, cutK d.cut k⟩ by have := HS.out; rw [e] at this; exact this)
      clear e hkc
      go_wp2
      go_ret
      refine ⟨fun _ => rfl, fun h => (by rw [Hw.out] at h; cases h), v1, ?_⟩
      rw [Hw.out]; exact Hst.out
end Go.Proofs.YtfkklcmepcocoaaGreatDoor

namespace Go.Proofs.YtfkklcmepcocoaaGreatDoor
open Go.RowKit
set_option linter.unusedVariables false

section
variable {es : Nat → Addr} {B q : Nat} {v : Value} {d : Dk}
theorem don_any (w : World) (hD : DiskAt w q v d) :
    Calls Tryz.prog 24 #[.pointer (some ⟨q, 0, none⟩)] w fun e w' => e = .returned (.tuple #[]) ∧ DStep w w' q v v ⟨d.b, false, -1⟩ := by
  have c1 : w.cell? ⟨q, 1, none⟩ = some (.bool d.off) := hD.hd.cell 1
  have c2 : w.cell? ⟨q, 2, none⟩ = some (.int .i64 d.cut) := hD.hd.cell 2
  have f1 := hD.hd.frozen 1; have f2 := hD.hd.frozen 2
  have Hst := Lib.hid (show DStep w ((w.setCell ⟨q, 1, none⟩ (.bool false)).setCell ⟨q, 2, none⟩ (.int .i64 (-1))) q v v ⟨d.b, false, -1⟩ from
    dset (d' := ⟨d.b, false, -1⟩) hD rfl ⟨by show (-1 : Int) ≤ -1; decide, by show (-1 : Int) < 9223372036854775808; decide⟩ _ ((fr_set w q 1 _).trans (fr_set _ q 2 _) (fun _ _ h => h)) ((hD.hd.set_ 1 (.bool false)).set_ 2 (.int .i64 (-1))))
  clear hD
  go_enter Tryz.func24, Tryz.ntmps24
  go_wp2
  go_end0
  exact ⟨rfl, Hst.out⟩
theorem dbytes_any (w : World) (hD : DiskAt w q v d) :
    Calls Tryz.prog 29 #[.pointer (some ⟨q, 0, none⟩)] w fun e w' => e = .returned (.string (B8 d.b)) ∧ w = w' := by
  have c0 : w.cell? ⟨q, 0, none⟩ = some v := hD.hd.cell 0
  obtain ⟨A, c, rfl, _, _, hr, _⟩ := hD.buf.form
  rw [bytC_nats] at hr
  have hc := conv_bytes w A _ c _ hr (natsOf_256 d.b)
  rw [bytesOf_nats] at hc
  clear hD hr
  generalize B8 d.b = sb at hc ⊢
  generalize d.b.length = n at c0 hc
  go_enter Tryz.func29, Tryz.ntmps29
  go_wp2
  go_ret
  exact ⟨rfl, rfl⟩
theorem dcut_neg (w : World) (n : Int) (hn : n < 0) (g1 : w.cell? ⟨gErr 1, 0, none⟩ = some (sentV (es 1))) :
    Calls Tryz.prog 22 #[.pointer (some ⟨q, 0, none⟩), .int .i64 n] w fun e w' => e = .returned (sentV (es 1)) ∧ w = w' := by
  have G1 : w.cell? ⟨0, 0, none⟩ = some (sentV (es 1)) := g1
  clear g1
  go_enter Tryz.func22, Tryz.ntmps22
  go_wp2
  go_ret
  exact ⟨rfl, rfl⟩
theorem dcut_off (w : World) (hD : DiskAt w q v d) (n : Int) (hn : 0 ≤ n) (ho : d.off = true) (g1 : w.cell? ⟨gErr 9, 0, none⟩ = some (sentV (es 9))) :
    Calls Tryz.prog 22 #[.pointer (some ⟨q, 0, none⟩), .int .i64 n] w fun e w' => e = .returned (sentV (es 9)) ∧ w = w' := by
  have G1 : w.cell? ⟨3, 0, none⟩ = some (sentV (es 9)) := g1
  have c1 : w.cell? ⟨q, 1, none⟩ = some (.bool true) := by rw [← ho]; exact hD.hd.cell 1
  have hn2 : ¬ n < 0 := by omega
  clear g1 hD ho
  go_enter Tryz.func22, Tryz.ntmps22
  go_wp2
  go_ret
  exact ⟨rfl, rfl⟩
theorem dcut_ok (w : World) (hD : DiskAt w q v d) (n : Int) (hn : 0 ≤ n) (hx : n < 9223372036854775808) (ho : d.off = false) :
    Calls Tryz.prog 22 #[.pointer (some ⟨q, 0, none⟩), .int .i64 n] w fun e w' => e = .returned .nilIface ∧ DStep w w' q v v ⟨d.b, false, n⟩ := by
  have c1 : w.cell? ⟨q, 1, none⟩ = some (.bool false) := by rw [← ho]; exact hD.hd.cell 1
  have c2 : w.cell? ⟨q, 2, none⟩ = some (.int .i64 d.cut) := hD.hd.cell 2
  have f2 := hD.hd.frozen 2
  have hn2 : ¬ n < 0 := by omega
  have Hst := Lib.hid (show DStep w (w.setCell ⟨q, 2, none⟩ (.int .i64 n)) q v v ⟨d.b, false, n⟩ from
    dset (d' := ⟨d.b, false, n⟩) hD rfl ⟨by show (-1 : Int) ≤ n; omega, hx⟩ _ (fr_set w q 2 (.int .i64 n)) (by have := hD.hd.set_ 2 (.int .i64 n); rw [ho] at this; exact this))
  clear hD ho
  go_enter Tryz.func22, Tryz.ntmps22
  go_wp2
  go_ret
  exact ⟨rfl, Hst.out⟩
theorem dpower_any (w : World) (hD : DiskAt w q v d) :
    Calls Tryz.prog 30 #[.pointer (some ⟨q, 0, none⟩)] w fun e w' => e = .returned (.bool (!d.off)) ∧ w = w' := by
  have c1 : w.cell? ⟨q, 1, none⟩ = some (.bool d.off) := hD.hd.cell 1
  clear hD
  generalize d.off = o at c1 ⊢
  cases o
  · go_enter Tryz.func30, Tryz.ntmps30
    go_wp2
    go_ret
    exact ⟨rfl, rfl⟩
  · go_enter Tryz.func30, Tryz.ntmps30
    go_wp2
    go_ret
    exact ⟨rfl, rfl⟩
theorem dclear_off (w : World) (hD : DiskAt w q v d) (ho : d.off = true) (g1 : w.cell? ⟨gErr 9, 0, none⟩ = some (sentV (es 9))) :
    Calls Tryz.prog 25 #[.pointer (some ⟨q, 0, none⟩)] w fun e w' => e = .returned (sentV (es 9)) ∧ w = w' := by
  have G1 : w.cell? ⟨3, 0, none⟩ = some (sentV (es 9)) := g1
  have c1 : w.cell? ⟨q, 1, none⟩ = some (.bool true) := by rw [← ho]; exact hD.hd.cell 1
  clear g1 hD ho
  go_enter Tryz.func25, Tryz.ntmps25
  go_wp2
  go_ret
  exact ⟨rfl, rfl⟩
theorem dclear_ok (w : World) (hD : DiskAt w q v d) (ho : d.off = false) :
    Calls Tryz.prog 25 #[.pointer (some ⟨q, 0, none⟩)] w fun e w' => e = .returned .nilIface ∧ DStep w w' q v (.slice none 0 0) ⟨[], false, d.cut⟩ := by
  have c0 : w.cell? ⟨q, 0, none⟩ = some v := hD.hd.cell 0
  have c1 : w.cell? ⟨q, 1, none⟩ = some (.bool false) := by rw [← ho]; exact hD.hd.cell 1
  have f0 := hD.hd.frozen 0
  have Hst := Lib.hid (show DStep w (w.setCell ⟨q, 0, none⟩ (.slice none 0 0)) q v (.slice none 0 0) ⟨[], false, d.cut⟩ from by
    refine ⟨⟨?_, Buf.of_own (World.ownsRow_nil _ 0 _ 1), hD.ok⟩, (fr_set w q 0 _).mono (fun _ _ h => .inl h), fun k hk => (by cases hk)⟩
    have := hD.hd.set_ 0 (.slice none 0 0)
    rw [ho] at this; exact this)
  obtain ⟨A, c, rfl, _⟩ := hD.buf.form
  clear hD ho
  go_enter Tryz.func25, Tryz.ntmps25
  go_wp2
  go_ret
  exact ⟨rfl, Hst.out⟩
end
set_option maxRecDepth 100000 in
theorem dnew_any (b : Bs) (hl : b.length ≤ 65536) (w : World) :
    Calls Tryz.prog 17 #[.string (B8 b)] w fun e w' => ∃ q v, e = .returned (.tuple #[.pointer (some ⟨q, 0, none⟩), .nilIface]) ∧ DiskAt w' q v ⟨b, false, -1⟩ ∧ DkLo w.heap.size q v ∧ Below w.heap.size w w' := by
  have hsz : (B8 b).size = b.length := B8_size b
  have hcv := Lib.run_convert_string_bytes (P := Tryz.prog) w 9 111 5 (B8 b) Tryz.underlying9 Tryz.underlying111 Tryz.underlying5
  have hbuf := Buf.conv w (B8 b) (by omega)
  rw [hsz, B8_data] at hbuf
  have hb1 := bytesW_below w 5 (B8 b)
  have hs1 := Lib.bytesWorld_size w 5 (B8 b)
  obtain ⟨W, hW⟩ : ∃ W, W = Lib.bytesWorld w 5 (B8 b) := ⟨_, rfl⟩
  obtain ⟨cp, hcp⟩ : ∃ cp, cp = grownCap w (B8 b).size 0 5 := ⟨_, rfl⟩
  rw [← hW] at hbuf hb1 hs1 hcv
  rw [← hsz, ← hcp, hsz] at hbuf
  rw [← hcp, hsz] at hcv
  have Hfin := Lib.hid (show DiskAt (W.alloc (.cells #[.slice (some ⟨w.heap.size, 0, none⟩) b.length cp, .bool false, .int .i64 (-1)] 113)) W.heap.size (.slice (some ⟨w.heap.size, 0, none⟩) b.length cp) ⟨b, false, -1⟩ ∧ DkLo w.heap.size W.heap.size (.slice (some ⟨w.heap.size, 0, none⟩) b.length cp) ∧ Below w.heap.size w (W.alloc (.cells #[.slice (some ⟨w.heap.size, 0, none⟩) b.length cp, .bool false, .int .i64 (-1)] 113)) from by
    refine ⟨⟨Blk.new _ _ _, hbuf.fr (Fr.ofB (Below.alloc (Below.refl W.heap.size W) (Nat.le_refl _) _) (Nat.le_refl _)) (fun _ _ h => h), by show (-1 : Int) ≤ -1; decide, by show (-1 : Int) < 9223372036854775808; decide⟩, ?_, Below.alloc hb1 hb1.size _⟩
    rintro k (rfl | hk)
    · omega
    · have : w.heap.size = k := by simpa [Value.ownBlock] using hk
      omega)
  clear hbuf hb1 hW hcp
  generalize hst : B8 b = st at hsz hcv ⊢
  have hl2 : st.size ≤ 65536 := by omega
  generalize b.length = n at hsz hl Hfin hcv
  clear hst
  go_enter Tryz.func17, Tryz.ntmps17
  go_wp2
  go_ret2
  have h := Hfin.out
  rw [hs1] at h
  exact ⟨_, _, rfl, h.1, h.2.1, h.2.2⟩
end Go.Proofs.YtfkklcmepcocoaaGreatDoor
