/- A slice of bytes that is appended to: whatever room it has lies there and is not frozen. -/
import Derived.Test.YtfkklcmepcocoaaDoorBase
import Derived.Test.YtfkklcmepcocoaaDoorConvBQ
import Derived.ArgAppend
namespace Go.Proofs.YtfkklcmepcocoaaDoor
open Go.RowKit
set_option linter.unusedVariables false

/-- Block k is a row of bytes. -/
def U8B (w : World) (k : Nat) : Prop := ∃ cs fz, w.heap[k]? = some (.cells cs 5 fz)
theorem U8B.lt {w : World} {k : Nat} (h : U8B w k) : k < w.heap.size := by
  obtain ⟨_, _, h⟩ := h
  exact (Array.getElem?_eq_some_iff.1 h).1
theorem U8B.ne_blk {w : World} {k g : Nat} {t : TypeId} {cs : Array Value} (h : U8B w k) (hg : Blk w g t cs) (ht : t ≠ 5) : k ≠ g := by
  rintro rfl
  obtain ⟨_, _, h⟩ := h
  have e := Option.some.inj (h.symm.trans hg)
  injection e with _ e
  exact ht e.symm
theorem U8B.ne_own {w : World} {k base : Nat} {e : TypeId} {size n : Nat} {v : Value} {xs : List Value} (h : U8B w k) (ho : w.ownsRow base e size v n xs) (ht : e ≠ 5) : v.ownBlock ≠ some k := by
  rcases ho.2 with ⟨rfl, _⟩ | ⟨g, cap, cur, rfl, _, hh, _⟩
  · simp [Value.ownBlock]
  · intro hk
    have : g = k := by simpa [Value.ownBlock] using hk
    subst this
    obtain ⟨_, _, h⟩ := h
    have e := Option.some.inj (h.symm.trans hh)
    injection e with _ e
    exact ht e.symm
structure Buf (w : World) (v : Value) (n : Nat) (xs : List Value) : Prop where
  form : ∃ A c, v = .slice A n c ∧ n ≤ c ∧ c ≤ maxLen ∧ Rd w w.heap.size 1 A n xs ∧ (n < c → ∃ g o, A = some ⟨g, o, none⟩ ∧ ∀ j, n ≤ j → j < c → (w.cell? ⟨g, o + j, none⟩).isSome = true ∧ w.frozen? ⟨g, o + j, none⟩ = false)
  row : ∀ k, v.ownBlock = some k → U8B w k
theorem rd_fr {S : Nat → Prop} {w w' : World} {size n c : Nat} {A : Option Addr} {xs : List Value} (h : Rd w w.heap.size size A n xs) (hf : Fr S w w') (hn : ∀ k, (Value.slice A n c).ownBlock = some k → ¬ S k) : Rd w' w'.heap.size size A n xs := by
  refine ⟨h.1, fun h0 => ?_⟩
  obtain ⟨b, o, e, hb, hc⟩ := h.2 h0
  subst e
  exact ⟨b, o, rfl, Nat.lt_of_lt_of_le hb hf.size, fun j u hu => (World.cell?_of_block (hf.block b hb (hn b rfl))).trans (hc j u hu)⟩
theorem Buf.fr {S : Nat → Prop} {w w' : World} {v : Value} {n : Nat} {xs : List Value} (h : Buf w v n xs) (hf : Fr S w w') (hn : ∀ k, v.ownBlock = some k → ¬ S k) : Buf w' v n xs := by
  obtain ⟨⟨A, c, rfl, h1, h2, h3, h4⟩, hr⟩ := h
  refine ⟨⟨A, c, rfl, h1, h2, rd_fr h3 hf hn, fun hc => ?_⟩, fun k hk => ?_⟩
  · obtain ⟨g, o, rfl, h5⟩ := h4 hc
    have hg := hf.block g (hr g rfl).lt (hn g rfl)
    refine ⟨g, o, rfl, fun j a b => ?_⟩
    rw [World.cell?_of_block (a := ⟨g, o + j, none⟩) hg, World.frozen?_of_block (a := ⟨g, o + j, none⟩) hg]
    exact h5 j a b
  · obtain ⟨cs, fz, hg⟩ := hr k hk
    exact ⟨cs, fz, (hf.block k (hr k hk).lt (hn k hk)).trans hg⟩
theorem Buf.of_own {w : World} {base : Nat} {v : Value} {n : Nat} {xs : List Value} (h : w.ownsRow base 5 1 v n xs) : Buf w v n xs := by
  rcases h.2 with ⟨rfl, rfl⟩ | ⟨g, cap, cur, rfl, hb, hg, hnc, hcm, hcs, htake⟩
  · exact ⟨⟨none, 0, rfl, Nat.le_refl _, Nat.zero_le _, Rd.of_own h, fun h => absurd h (Nat.lt_irrefl 0)⟩, fun k hk => (by cases hk)⟩
  · refine ⟨⟨_, cap, rfl, hnc, hcm, Rd.of_own h, fun _ => ⟨g, 0, rfl, fun j h1 h2 => ⟨?_, frozen_of_row w g (0 + j) cur _ hg⟩⟩⟩, fun k hk => ?_⟩
    · rw [cell_of_row w g (0 + j) cur _ _ hg, Array.getElem?_eq_getElem (by omega)]
      rfl
    · have : g = k := by simpa [Value.ownBlock] using hk
      subst this
      exact ⟨_, _, hg⟩
theorem Buf.lt {w : World} {v : Value} {n : Nat} {xs : List Value} (h : Buf w v n xs) : ∀ k, v.ownBlock = some k → k < w.heap.size := fun k hk => (h.row k hk).lt
theorem grownBy_set (w : World) (g i : Nat) (u : Value) : w.grownBy (w.setCell ⟨g, i, none⟩ u) (some g) :=
  ⟨rfl, rfl, rfl, by simp [World.setCell], fun k _ hk => Below.heap_setCell _ _ _ _ (fun e => hk (by simp [e]))⟩
theorem U8B.set {w : World} {k g i : Nat} (h : U8B w k) (u : Value) : U8B (w.setCell ⟨g, i, none⟩ u) k := by
  obtain ⟨cs, fz, h⟩ := h
  by_cases e : g = k
  · subst e
    exact ⟨cs.setIfInBounds i u, fz, by simp [World.setCell, Array.getElem?_modify, h]⟩
  · exact ⟨cs, fz, (Below.heap_setCell w ⟨g, i, none⟩ u k (fun e2 => e e2.symm)).trans h⟩
section
variable {P : Program} {w : World}
theorem run_append_buf (t ty : TypeId) (i : TypeInfo) (ht : P.underlying t = some (.slice 5)) (hi : P.info? 5 = some i) (hz : i.zero = some (.int .u8 0))
    (hsize : i.size = 1) (hby : i.bytes = 1)
    (v : Value) (n : Nat) (xs : List Value) (hbuf : Buf w v n xs) (b o c : Nat) (u : Value) (hr : w.cell? ⟨b, o, none⟩ = some u) (h1 : u.oneCell' = true)
    (h63 : n + 1 ≤ 140737488355328) :
    ∃ v' w', (Builtin.append_ #[t, t] ty #[v, .slice (some ⟨b, o, none⟩) 1 c]).run P w = .ok v' w' ∧ Buf w' v' (n + 1) (xs ++ [u]) ∧ w.grownBy w' v.ownBlock ∧ (∀ k, v'.ownBlock = some k → v.ownBlock = some k ∨ w.heap.size ≤ k) := by
  obtain ⟨⟨A, cap, rfl, hnc, hcm, hrd, hroom⟩, hrow⟩ := hbuf
  have hone : ∀ x ∈ [u], x.oneCell' = true := fun x hx => by rw [List.mem_singleton.1 hx]; exact h1
  have hnews : ∀ (j : Nat) x, [u][j]? = some x → w.cell? ((⟨b, o, none⟩ : Addr).add j) = some x := by
    intro j x hx
    obtain ⟨hj, rfl⟩ := List.getElem?_eq_some_iff.1 hx
    have hj0 : j = 0 := by simp at hj; exact hj
    subst hj0
    rw [add_at]; exact hr
  by_cases hfull : n < cap
  · obtain ⟨g, o1, rfl, hc⟩ := hroom hfull
    have hgl : g < w.heap.size := (hrow g rfl).lt
    obtain ⟨s1, s2⟩ := hc n (Nat.le_refl _) hfull
    have hrun := run_append_room_cells (P := P) w t ty 5 i ht hi g o1 n cap ⟨b, o, none⟩ 1 c [u] (by rw [hsize]; rfl) hnews hone (by omega)
      (fun j hj => by have : j = 0 := by simpa using hj
                      subst this; rw [hsize, Nat.mul_one, Nat.add_zero]; exact s1) (fun j hj => by have : j = 0 := by simpa using hj
                                                                                                   subst this; rw [hsize, Nat.mul_one, Nat.add_zero]; exact s2)
    rw [hsize, Nat.mul_one] at hrun
    refine ⟨_, _, hrun, ⟨⟨_, cap, rfl, by omega, hcm, ⟨by rw [List.length_append, hrd.1]; simp, fun _ => ⟨g, o1, rfl, ?_, fun j x hx => ?_⟩⟩, fun hlt => ⟨g, o1, rfl, fun j a1 a2 => ?_⟩⟩, fun k hk => ?_⟩, grownBy_set _ _ _ _, fun k hk => .inl hk⟩
    · show g < (w.setCell ⟨g, o1 + n, none⟩ u).heap.size
      simpa [World.setCell] using hgl
    · show (w.setCell ⟨g, o1 + n, none⟩ u).cell? _ = _
      have hl : xs.length = n := by simpa using hrd.1
      rcases Nat.lt_or_ge j n with hj | hj
      · rw [World.cell?_setCell_other _ _ _ _ (by intro e; injection e; omega)]
        obtain ⟨b2, o2, e2, _, hcell⟩ := hrd.2 (by omega)
        injection e2 with e2
        injection e2 with e3 e4
        subst e3; subst e4
        exact hcell j x (by rw [← hx, List.getElem?_append_left (by omega)])
      · rw [List.getElem?_append_right (by omega)] at hx
        obtain ⟨hj2, rfl⟩ := List.getElem?_eq_some_iff.1 hx
        have : j = n := by simp at hj2; omega
        subst this
        obtain ⟨y, hy⟩ := Option.isSome_iff_exists.1 s1
        rw [World.cell?_setCell_same _ _ _ hy]
        simp [hl]
    · show ((w.setCell ⟨g, o1 + n, none⟩ u).cell? _).isSome = true ∧ (w.setCell ⟨g, o1 + n, none⟩ u).frozen? _ = false
      rw [World.frozen?_setCell, World.cell?_setCell_other _ _ _ _ (by intro e; injection e; omega)]
      exact hc j (by omega) a2
    · exact (hrow k hk).set u
  · obtain rfl : n = cap := by omega
    have hml : n + 1 ≤ maxLen := by unfold maxLen; omega
    cases A with
    | none =>
      have hn : n = 0 := by
        rcases Nat.eq_zero_or_pos n with h | h
        · exact h
        · obtain ⟨_, _, e, _⟩ := hrd.2 h; cases e
      subst hn
      have hx : xs = [] := List.eq_nil_of_length_eq_zero (by simpa using hrd.1)
      subst hx
      obtain ⟨v', w', hrun, r1, r2, _⟩ := run_append_own (P := P) w w.heap.size t ty 5 i _ 1 1 ht hi hz hsize hby rfl (by decide) (.slice none 0 0) 0 [] (World.ownsRow_nil w _ _ 1) ⟨b, o, none⟩ 1 c [u] rfl hnews hone hml (by omega) (Nat.le_refl _)
      exact ⟨v', w', hrun, Buf.of_own r1, r2, fun k hk => .inr (own_lt r1 k hk).1⟩
    | some a0 =>
      obtain ⟨v', w', hrun, r1, r2⟩ := run_append_arg_grows (P := P) w t ty 5 i _ 1 1 ht hi hz hsize hby rfl (by decide) a0 n n xs hrd.1 (fun j x hu => by
        have hn1 : 0 < n := by
          have h0 := hrd.1
          have hj := (List.getElem?_eq_some_iff.1 hu).1
          omega
        obtain ⟨b0, o0, e0, _, hc⟩ := hrd.2 hn1
        injection e0 with e0
        subst e0
        rw [Addr.add_lit]; exact hc j x hu) ⟨b, o, none⟩ 1 c [u] rfl hnews (by omega) hml (by omega)
      exact ⟨v', w', hrun, Buf.of_own r1, ⟨r2.os, r2.tape, r2.output, r2.size, fun k hk _ => r2.block k hk (by simp)⟩, fun k hk => .inr (own_lt r1 k hk).1⟩
theorem wpList_append_buf {ops : Array Oper} {rest : List Oper} {o : Oper} {a : Act} {Q : Exit → Act → World → Prop} (hgd : o.guard = none) (s x : Operand) (t : TypeId)
    (ho : o.op = .call { callee := .builtin .append, args := #[s, x], argTypes := #[t, t] })
    (i : TypeInfo) (ht : P.underlying t = some (.slice 5)) (hi : P.info? 5 = some i) (hz : i.zero = some (.int .u8 0)) (hsize : i.size = 1) (hby : i.bytes = 1)
    (v : Value) (n : Nat) (xs : List Value) (hs : a.eval s = v) (hbuf : Buf w v n xs)
    (b of c : Nat) (u : Value) (hx : a.eval x = .slice (some ⟨b, of, none⟩) 1 c) (hr : w.cell? ⟨b, of, none⟩ = some u) (h1 : u.oneCell' = true) (h63 : n + 1 ≤ 140737488355328)
    (h : ∀ v' w', Buf w' v' (n + 1) (xs ++ [u]) → w.grownBy w' v.ownBlock → (∀ k, v'.ownBlock = some k → v.ownBlock = some k ∨ w.heap.size ≤ k) → wpList P ops Q rest (a.put o.dst v') w') : wpList P ops Q (o :: rest) a w := by
  refine wpList_plain hgd fun K hK => ?_
  obtain ⟨v', w', hrun, h2, h3, h4⟩ := run_append_buf (P := P) (w := w) t o.type i ht hi hz hsize hby v n xs hbuf b of c u hr h1 h63
  unfold Oper.wp execOp
  simp only [ho, resolve, invoke, builtin, Sem.run_bind, Sem.run_pure, Result.andThen_ok, List.map_toArray, List.map_cons, List.map_nil, hs, hx, hrun]
  exact hK _ _ (h v' w' h2 h3 h4)
theorem step_append_buf {ops : Array Oper} {o : Oper} {a : Act} {K : Act → World → Prop} {Q : Exit → Act → World → Prop} {E : Prop} (hgd : o.guard = none) (s x : Operand) (t : TypeId)
    (ho : o.op = .call { callee := .builtin .append, args := #[s, x], argTypes := #[t, t] })
    (i : TypeInfo) (ht : P.underlying t = some (.slice 5)) (hi : P.info? 5 = some i) (hz : i.zero = some (.int .u8 0)) (hsize : i.size = 1) (hby : i.bytes = 1)
    (v : Value) (n : Nat) (xs : List Value) (hs : a.eval s = v) (hbuf : Buf w v n xs)
    (b of c : Nat) (u : Value) (hx : a.eval x = .slice (some ⟨b, of, none⟩) 1 c) (hr : w.cell? ⟨b, of, none⟩ = some u) (h1 : u.oneCell' = true) (h63 : n + 1 ≤ 140737488355328)
    (h : ∀ v' w', Buf w' v' (n + 1) (xs ++ [u]) → w.grownBy w' v.ownBlock → (∀ k, v'.ownBlock = some k → v.ownBlock = some k ∨ w.heap.size ≤ k) → K (a.put o.dst v') w') :
    if Region.wanted o (yielded ops a.tmps) = true then Oper.wp P o a w K Q else E := by
  rw [if_pos (by simp [Region.wanted, hgd])]
  obtain ⟨v', w', hrun, h2, h3, h4⟩ := run_append_buf (P := P) (w := w) t o.type i ht hi hz hsize hby v n xs hbuf b of c u hr h1 h63
  unfold Oper.wp execOp
  simp only [ho, resolve, invoke, builtin, Sem.run_bind, Sem.run_pure, Result.andThen_ok, List.map_toArray, List.map_cons, List.map_nil, hs, hx, hrun]
  exact h v' w' h2 h3 h4
end
/-- What a conversion of a text to bytes makes. -/
theorem Buf.conv (w : World) (s : ByteArray) (hs : s.size ≤ 1000000) :
    Buf (Lib.bytesWorld w 5 s) (.slice (some ⟨w.heap.size, 0, none⟩) s.size (grownCap w s.size 0 5)) s.size (s.data.toList.map fun x : UInt8 => Value.int .u8 (x.toNat : Int)) := by
  have hge := grownCap_ge w s.size 0 5
  have hcm : grownCap w s.size 0 5 ≤ maxLen := grownCap_le_maxLen w s.size 0 _ (by unfold maxLen; omega)
  have hB := Lib.bytesWorld_at_new w 5 s
  have hd : s.data.size = s.size := rfl
  have hcs : (Lib.bytesCells w 5 s).size = grownCap w s.size 0 5 := by
    unfold Lib.bytesCells
    rw [Array.size_append, Array.size_map, Array.size_replicate, hd]; omega
  refine ⟨⟨_, _, rfl, hge, hcm, ⟨by simp, fun _ => ⟨_, 0, rfl, by rw [Lib.bytesWorld_size]; omega, fun j u hu => ?_⟩⟩, fun _ => ⟨_, 0, rfl, fun j h1 h2 => ⟨?_, ?_⟩⟩⟩, fun k hk => ?_⟩
  · rw [Nat.zero_add]
    have hj : j < s.size := by have := (List.getElem?_eq_some_iff.1 hu).1; simpa using this
    rw [Lib.bytesWorld_cell w _ s j hj]
    rw [List.getElem?_map] at hu
    rw [List.getD_eq_getElem?_getD]
    obtain ⟨x, hx, rfl⟩ := Option.map_eq_some_iff.1 hu
    rw [hx]; rfl
  · rw [Nat.zero_add, cell_of_row _ _ j _ _ _ hB, Array.getElem?_eq_getElem (by omega)]; rfl
  · rw [Nat.zero_add]
    simp only [World.frozen?, hB, Bool.and_eq_false_iff, decide_eq_false_iff_not]
    left; omega
  · have : w.heap.size = k := by simpa [Value.ownBlock] using hk
    subst this
    exact ⟨_, _, hB⟩
end Go.Proofs.YtfkklcmepcocoaaDoor
