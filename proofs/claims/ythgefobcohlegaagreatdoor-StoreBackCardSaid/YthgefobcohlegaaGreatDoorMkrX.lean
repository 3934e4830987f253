/- Rows gathered by name in a map; the names sorted: plain, and the map's words. -/
import Derived.Test.YthgefobcohlegaaGreatDoorMkqX
import Derived.Maps.OwnSet
import Derived.Maps.RangeWalk
import Derived.Sort.KeysCollected
import Derived.Test.YthgefobcohlegaaGreatDoorKeysX
import Derived.Laws.Bits64
import Derived.Test.YthgefobcohlegaaGreatDoorMkcX
import Derived.OwnWalk
import Derived.BigQuiet
import Derived.Lib.AppendZerosOnto
import Derived.Lib.AppendZeros
import Derived.Lib.SliceRun
namespace Go.Proofs.YthgefobcohlegaaGreatDoor
open Go.RowKit Go.Maps Go.Sort
set_option linter.unusedVariables false

/-- What a slice reads as. -/
def sliceR (v : Value) : Option (DataW Unit × List MemPlace) := match v with
  | .slice (some ⟨b, o, none⟩) n c => some (.agg [.lit (.int .i64 (b : Int)), .lit (.int .i64 (o : Int)), .lit (.int .i64 (n : Int)), .lit (.int .i64 (c : Int))], [])
  | .slice none n c => some (.agg [.lit (.int .i64 (n : Int)), .lit (.int .i64 (c : Int))], [])
  | _ => none
theorem lit_inj {a b : Nat} (h : (DataW.lit (.int .i64 (a : Int)) : DataW Unit) = .lit (.int .i64 (b : Int))) : a = b := by
  injection h with h
  injection h with _ h
  omega
theorem sliceR_inj {u v : Value} {d : DataW Unit} {p q : List MemPlace} (hu : sliceR u = some (d, p)) (hv : sliceR v = some (d, q)) : u = v := by
  unfold sliceR at hu hv
  split at hu
  · split at hv
    · have e := (congrArg Prod.fst (Option.some.inj hu)).trans (congrArg Prod.fst (Option.some.inj hv)).symm
      simp only [DataW.agg.injEq, List.cons.injEq, and_true] at e
      obtain ⟨e1, e2, e3, e4⟩ := e
      rw [lit_inj e1, lit_inj e2, lit_inj e3, lit_inj e4]
    · have e := (congrArg Prod.fst (Option.some.inj hu)).trans (congrArg Prod.fst (Option.some.inj hv)).symm
      simp at e
    · cases hv
  · split at hv
    · have e := (congrArg Prod.fst (Option.some.inj hu)).trans (congrArg Prod.fst (Option.some.inj hv)).symm
      simp at e
    · have e := (congrArg Prod.fst (Option.some.inj hu)).trans (congrArg Prod.fst (Option.some.inj hv)).symm
      simp only [DataW.agg.injEq, List.cons.injEq, and_true] at e
      obtain ⟨e1, e2⟩ := e
      rw [lit_inj e1, lit_inj e2]
    · cases hv
  · cases hu
/-- All points of a name, row by row. -/
def catP (l : List Rw) (s : Bs) : List (Int × Int) := (l.filter fun r => decide (r.1 = s)).flatMap (·.2)
theorem catP_append (a b : List Rw) (s : Bs) : catP (a ++ b) s = catP a s ++ catP b s := by unfold catP; rw [List.filter_append, List.flatMap_append]
theorem catP_yes (l : List Rw) (r : Rw) : catP (l ++ [r]) r.1 = catP l r.1 ++ r.2 := by rw [catP_append]; simp [catP]
theorem catP_no (l : List Rw) (r : Rw) (s : Bs) (h : r.1 ≠ s) : catP (l ++ [r]) s = catP l s := by rw [catP_append]; simp [catP, h]
theorem catP_none {l : List Rw} {s : Bs} (h : ∀ r ∈ l, r.1 ≠ s) : catP l s = [] := by
  unfold catP
  rw [List.filter_eq_nil_iff.2 (fun r hr => by simpa using h r hr)]
  rfl
def onceN : List Bs → List Bs
  | [] => []
  | a :: l => if (onceN l).contains a then onceN l else a :: onceN l
theorem onceN_mem {a : Bs} : ∀ {l : List Bs}, a ∈ onceN l ↔ a ∈ l
  | [] => Iff.rfl
  | b :: l => by
    unfold onceN
    split
    · rename_i h
      have h1 := List.contains_iff_mem.1 h
      rw [onceN_mem, List.mem_cons]
      constructor
      · exact .inr
      · rintro (rfl | h2)
        · exact onceN_mem.1 h1
        · exact h2
    · rw [List.mem_cons, List.mem_cons, onceN_mem]
theorem onceN_nodup : ∀ l : List Bs, (onceN l).Nodup
  | [] => List.Pairwise.nil
  | b :: l => by
    unfold onceN
    split
    · exact onceN_nodup l
    · rename_i h
      exact List.nodup_cons.2 ⟨fun h2 => h (List.contains_iff_mem.2 h2), onceN_nodup l⟩
/-- The names, rising, each once. -/
def srtN (l : List Rw) : List Bs := (onceN (l.map Prod.fst)).mergeSort leB
/-- Entries of a map of rows. -/
structure CatM (E : List RowV) (l : List Rw) : Prop where
  nd : (E.map (·.nm)).Nodup
  mem : ∀ s, (∃ r ∈ E, r.nm = s) ↔ ∃ r ∈ l, r.1 = s
  pts : ∀ r ∈ E, r.pts = catP l r.nm
theorem CatM.nil : CatM [] [] := ⟨List.Pairwise.nil, fun s => ⟨fun ⟨_, h, _⟩ => (by cases h), fun ⟨_, h, _⟩ => (by cases h)⟩, fun r h => (by cases h)⟩
def putE (E : List RowV) (x : RowV) : List RowV := E.filter (fun r => decide (r.nm ≠ x.nm)) ++ [x]
theorem putE_mem {E : List RowV} {x r : RowV} : r ∈ putE E x ↔ (r ∈ E ∧ r.nm ≠ x.nm) ∨ r = x := by
  unfold putE
  rw [List.mem_append, List.mem_filter, List.mem_singleton]
  simp
theorem CatM.put {E : List RowV} {l : List Rw} (h : CatM E l) (r : Rw) (v : Value) : CatM (putE E ⟨r.1, catP l r.1 ++ r.2, v⟩) (l ++ [r]) := by
  refine ⟨?_, fun s => ?_, fun x hx => ?_⟩
  · unfold putE
    rw [List.map_append, List.nodup_append]
    refine ⟨List.Pairwise.sublist (List.filter_sublist.map _) h.nd, by simp, fun a ha b hb => ?_⟩
    obtain ⟨q, hq, rfl⟩ := List.mem_map.1 ha
    simp only [List.map_singleton, List.mem_singleton] at hb
    rw [hb]
    simpa using (List.mem_filter.1 hq).2
  · constructor
    · rintro ⟨x, hx, rfl⟩
      rcases putE_mem.1 hx with ⟨hx, _⟩ | rfl
      · obtain ⟨y, hy, e⟩ := (h.mem x.nm).1 ⟨x, hx, rfl⟩
        exact ⟨y, List.mem_append.2 (.inl hy), e⟩
      · exact ⟨r, by simp, rfl⟩
    · rintro ⟨y, hy, rfl⟩
      rcases List.mem_append.1 hy with hy | hy
      · by_cases e : y.1 = r.1
        · exact ⟨_, putE_mem.2 (.inr rfl), e.symm⟩
        · obtain ⟨x, hx, e2⟩ := (h.mem y.1).2 ⟨y, hy, rfl⟩
          exact ⟨x, putE_mem.2 (.inl ⟨hx, fun e3 => e (e2.symm.trans e3)⟩), e2⟩
      · obtain rfl := List.mem_singleton.1 hy
        exact ⟨_, putE_mem.2 (.inr rfl), rfl⟩
  · rcases putE_mem.1 hx with ⟨hx, hne⟩ | rfl
    · rw [h.pts x hx, catP_no _ _ _ (fun e => hne e.symm)]
    · exact (catP_yes l r).symm
theorem CatM.none {E : List RowV} {l : List Rw} (h : CatM E l) {s : Bs} (hn : ∀ r ∈ E, r.nm ≠ s) : catP l s = [] :=
  catP_none fun r hr e => by
    obtain ⟨x, hx, e2⟩ := (h.mem s).2 ⟨r, hr, e⟩
    exact hn x hx e2
theorem putE_len {E : List RowV} {x : RowV} (hn : (E.map (·.nm)).Nodup) : (putE E x).length = if E.any (fun r => r.nm == x.nm) then E.length else E.length + 1 := by
  unfold putE
  rw [List.length_append, List.length_singleton]
  induction E with
  | nil => rfl
  | cons a E ih =>
    rw [List.map_cons, List.nodup_cons] at hn
    have ih := ih hn.2
    rw [List.filter_cons, List.any_cons]
    by_cases e : a.nm = x.nm
    · have hno : ∀ r ∈ E, r.nm ≠ x.nm := fun r hr e2 => hn.1 (List.mem_map.2 ⟨r, hr, e2.trans e.symm⟩)
      rw [List.filter_eq_self.2 (fun r hr => by simpa using hno r hr)]
      simp [e]
    · simp only [e, ne_eq, not_false_eq_true, decide_true, if_true, List.length_cons]
      rw [show (a.nm == x.nm) = false by simpa using e, Bool.false_or]
      simp only [ne_eq] at ih ⊢
      split at ih <;> rename_i h1
      · rw [if_pos h1]; omega
      · rw [if_neg h1]; omega
/-- The map's datum says just these entries. -/
def DOfS (D : DataW Unit) (E : List RowV) : Prop :=
  Maps.size D = E.length ∧ (∀ s : Bs, Maps.has D (.string s) = E.any fun x => x.nm == s) ∧ ∀ x ∈ E, ∀ z, sliceR x.v = some (D.atKey (.string x.nm) z, [])
theorem DOfS.nil : DOfS (.map []) [] := ⟨rfl, fun _ => rfl, fun x h => by cases h⟩
theorem DOfS.put {D : DataW Unit} {E : List RowV} (h : DOfS D E) (ht : Tidy D) (hn : (E.map (·.nm)).Nodup) (x : RowV) {d : DataW Unit} (hx : sliceR x.v = some (d, [])) : DOfS (D.put (.string x.nm) d) (putE E x) := by
  refine ⟨?_, fun u => ?_, fun z hz w => ?_⟩
  · rw [Maps.size_put ht, h.2.1, putE_len hn, h.1]
  · by_cases hu : x.nm = u
    · subst hu
      rw [Maps.has_put_same ht.isMap (show WideAt.IsKeyLit (.string x.nm) from trivial)]
      symm
      rw [List.any_eq_true]
      exact ⟨x, putE_mem.2 (.inr rfl), by simp⟩
    · rw [Maps.has_put_other (fun e => hu (by injection e with e; exact e.symm)), h.2.1 u, Bool.eq_iff_iff, List.any_eq_true, List.any_eq_true]
      constructor
      · rintro ⟨y, hy, e⟩
        exact ⟨y, putE_mem.2 (.inl ⟨hy, fun e2 => hu (e2.symm.trans (by simpa using e))⟩), e⟩
      · rintro ⟨y, hy, e⟩
        rcases putE_mem.1 hy with ⟨hy, _⟩ | rfl
        · exact ⟨y, hy, e⟩
        · exact absurd (by simpa using e) hu
  · rcases putE_mem.1 hz with ⟨hz, hne⟩ | rfl
    · rw [Maps.atKey_put_other (fun e => hne (by injection e))]
      exact h.2.2 z hz w
    · rw [Maps.atKey_put_same ht.isMap (show WideAt.IsKeyLit (.string z.nm) from trivial)]
      exact hx
theorem mStrKeyed : Keyed Tryz.prog 9 := string_keyed Tryz.underlying9
theorem mKeyStr {s : Bs} (h : s.length ≤ 1000000) : keyOf Tryz.prog 9 (.string (B8 s)) = some (.string s) := by
  have := WideMaps.keyOf_string_mk (P := Tryz.prog) Tryz.underlying9 (s := B8 s) (by rw [B8_size]; unfold maxLen; omega)
  rw [this]
  rfl
theorem mZero (w : World) : (zeroValue 54).run Tryz.prog w = .ok (.slice none 0 0) w := by kernel_rfl
/-- A map of rows in memory. -/
structure MapAt (w : World) (mb N : Nat) (D : DataW Unit) (E : List RowV) (l : List Rw) : Prop where
  mp : w.ownsMap Tryz.prog 9 sliceR mb N D
  dof : DOfS D E
  cat : CatM E l
  rd : ∀ r ∈ E, ∃ A c, r.v = .slice A r.pts.length c ∧ Rd w w.heap.size 2 A r.pts.length (ptsC r.pts)
theorem MapAt.below {w w' : World} {mb N : Nat} {D : DataW Unit} {E : List RowV} {l : List Rw} (h : MapAt w mb N D E l) (hb : Below w.heap.size w w') : MapAt w' mb N D E l := by
  refine ⟨?_, h.dof, h.cat, fun r hr => ?_⟩
  · obtain ⟨es, clock, h1, h2, h3, h4⟩ := h.mp
    exact ⟨es, clock, (hb.block _ h.mp.lt).trans h1, h2, h3, h4⟩
  · obtain ⟨A, c, e, hrd⟩ := h.rd r hr
    exact ⟨A, c, e, (hrd.below hb).more hb.size⟩
/-- A look at the map, in a later world. -/
theorem MapAt.lookB {w w' : World} {mb N : Nat} {D : DataW Unit} {E : List RowV} {l : List Rw} (h : MapAt w mb N D E l) (hb : Below w.heap.size w w') (s : Bs) (hs : s.length ≤ 1000000) :
    ∃ A c, (Instr.lookup 173 (.map (some mb)) (.string (B8 s)) false).run Tryz.prog w' = .ok (.slice A (catP l s).length c) w' ∧ Rd w w.heap.size 2 A (catP l s).length (ptsC (catP l s)) := by
  obtain ⟨v, ps, hrun, hv⟩ := (h.below hb).mp.lookup mStrKeyed Tryz.underlying173 (mZero w') (zd := .agg [.lit (.int .i64 0), .lit (.int .i64 0)]) (zp := []) rfl (mKeyStr hs)
  by_cases hx : ∃ x ∈ E, x.nm = s
  · obtain ⟨x, hx, rfl⟩ := hx
    have := sliceR_inj hv (h.dof.2.2 x hx _)
    subst this
    obtain ⟨A, c, e, hr⟩ := h.rd x hx
    rw [← h.cat.pts x hx]
    exact ⟨A, c, by rw [← e]; exact hrun, hr⟩
  · have hno : ∀ r ∈ E, r.nm ≠ s := fun r hr e => hx ⟨r, hr, e⟩
    have hh : Maps.has D (.string s) = false := by
      rw [h.dof.2.1 s, List.any_eq_false]
      intro r hr
      simpa using hno r hr
    rw [Maps.atKey_of_not_has hh] at hv
    have := sliceR_inj (v := .slice none 0 0) (q := []) hv rfl
    subst this
    rw [h.cat.none hno]
    exact ⟨none, 0, hrun, Rd.nil⟩
theorem MapAt.look {w : World} {mb N : Nat} {D : DataW Unit} {E : List RowV} {l : List Rw} (h : MapAt w mb N D E l) (s : Bs) (hs : s.length ≤ 1000000) :
    ∃ A c, (Instr.lookup 173 (.map (some mb)) (.string (B8 s)) false).run Tryz.prog w = .ok (.slice A (catP l s).length c) w ∧ Rd w w.heap.size 2 A (catP l s).length (ptsC (catP l s)) := h.lookB (Below.refl _ _) s hs
/-- The map is written: one name's slice is anew. -/
theorem MapAt.put {w w' : World} {mb N : Nat} {D : DataW Unit} {E : List RowV} {l : List Rw} (h : MapAt w mb N D E l) (r : Rw) {A : Option Addr} {c : Nat} {d : DataW Unit}
    (hd : sliceR (.slice A (catP l r.1 ++ r.2).length c) = some (d, [])) (hr : Rd w w.heap.size 2 A (catP l r.1 ++ r.2).length (ptsC (catP l r.1 ++ r.2)))
    (hm : w'.ownsMap Tryz.prog 9 sliceR mb (N + 1) (D.put (.string r.1) d)) (hg : w.grownBy w' (some mb)) :
    MapAt w' mb (N + 1) (D.put (.string r.1) d) (putE E ⟨r.1, catP l r.1 ++ r.2, .slice A (catP l r.1 ++ r.2).length c⟩) (l ++ [r]) := by
  have keep : ∀ {A : Option Addr} {n : Nat} {xs : List Value} {size : Nat}, size ≠ 0 → Rd w w.heap.size size A n xs → Rd w' w'.heap.size size A n xs := fun {A n xs size} hs hrd => by
    refine ⟨hrd.1, fun hn => ?_⟩
    obtain ⟨b, o, e, hb, hc⟩ := hrd.2 hn
    refine ⟨b, o, e, Nat.lt_of_lt_of_le hb hg.size, fun j u hu => ?_⟩
    have hc0 := hc j u hu
    have hne : b ≠ mb := by
      rintro rfl
      obtain ⟨es, clock, h1, _⟩ := h.mp
      simp [World.cell?, h1] at hc0
    exact (World.cell?_of_block (hg.block b hb (fun e => hne (Option.some.inj e)))).trans hc0
  refine ⟨hm, h.dof.put (h.mp.tidy mStrKeyed) h.cat.nd ⟨r.1, _, _⟩ hd, h.cat.put r _, fun x hx => ?_⟩
  rcases putE_mem.1 hx with ⟨hx, _⟩ | rfl
  · obtain ⟨A', c', e, hrd⟩ := h.rd x hx
    exact ⟨A', c', e, keep (by decide) hrd⟩
  · exact ⟨A, c, rfl, keep (by decide) hr⟩
/-- The map's keys, sorted, are the names. -/
theorem MapAt.keys {w : World} {mb N : Nat} {D : DataW Unit} {E : List RowV} {l : List Rw} (h : MapAt w mb N D E l) {ss : List (List UInt8)} (hp : ss.Perm (strKeys D)) : ss.mergeSort leB = srtN l := by
  obtain ⟨es, rfl, hes, _⟩ := h.mp.entries mStrKeyed
  obtain ⟨es2, he2, hk⟩ := h.mp.keysOf
  injection he2 with he2
  subst he2
  have hn : (onceN (l.map Prod.fst)).Nodup := onceN_nodup _
  have hp2 : (onceN (l.map Prod.fst)).Perm (strKeys (.map es)) := by
    refine perm_strKeys hes (fun p hp => ?_) hn (fun x => ?_)
    · obtain ⟨v, hv⟩ := hk p hp
      obtain ⟨x, _, hx, _⟩ := Maps.keyOf_str Tryz.underlying9 hv
      exact ⟨x, hx⟩
    · rw [h.dof.2.1 x, List.any_eq_true, onceN_mem, List.mem_map]
      constructor
      · rintro ⟨r, hr, rfl⟩
        obtain ⟨y, hy, e⟩ := (h.cat.mem r.1).2 ⟨r, hr, rfl⟩
        exact ⟨y, hy, by simpa using e⟩
      · rintro ⟨y, hy, e⟩
        obtain ⟨r, hr, e2⟩ := (h.cat.mem y.nm).1 ⟨y, hy, rfl⟩
        exact ⟨r, hr, e2.trans (by simpa using e)⟩
  exact mergeSort_of_perm (hp.trans hp2.symm)
end Go.Proofs.YthgefobcohlegaaGreatDoor

namespace Go.Proofs
open Go.RowKit Go.Maps Go.Sort Go.Shelf
end Go.Proofs

namespace Go.Proofs.YthgefobcohlegaaGreatDoor
open Go
set_option linter.unusedVariables false

def mergeP : List (Int × Int) → List (Int × Int) → List (Int × Int)
  | [], b => b
  | a :: l1, [] => a :: l1
  | a :: l1, b :: l2 => if a.1 < b.1 then a :: mergeP l1 (b :: l2) else if b.1 < a.1 then b :: mergeP (a :: l1) l2 else mergeP l1 (b :: l2)
termination_by a b => a.length + b.length
theorem merge_nil (a : List (Int × Int)) : mergeP a [] = a := by cases a <;> rw [mergeP]
theorem merge_lt {a b : Int × Int} {l1 l2 : List (Int × Int)} (h : a.1 < b.1) : mergeP (a :: l1) (b :: l2) = a :: mergeP l1 (b :: l2) := by rw [mergeP, if_pos h]
theorem merge_gt {a b : Int × Int} {l1 l2 : List (Int × Int)} (h : b.1 < a.1) : mergeP (a :: l1) (b :: l2) = b :: mergeP (a :: l1) l2 := by rw [mergeP, if_neg (by omega), if_pos h]
theorem merge_eq {a b : Int × Int} {l1 l2 : List (Int × Int)} (h : a.1 = b.1) : mergeP (a :: l1) (b :: l2) = mergeP l1 (b :: l2) := by rw [mergeP, if_neg (by omega), if_neg (by omega)]
theorem merge_len (a b : List (Int × Int)) : (mergeP a b).length ≤ a.length + b.length := by
  fun_induction mergeP a b with
  | case1 => simp
  | case2 => simp
  | case3 a l1 b l2 h ih => simp only [List.length_cons] at *; omega
  | case4 a l1 b l2 h h2 ih => simp only [List.length_cons] at *; omega
  | case5 a l1 b l2 h h2 ih => simp only [List.length_cons] at *; omega
end Go.Proofs.YthgefobcohlegaaGreatDoor

namespace Go.Proofs.YthgefobcohlegaaGreatDoor
open Go.RowKit
set_option linter.unusedVariables false

theorem ptsC_append (a b : List (Int × Int)) : ptsC (a ++ b) = ptsC a ++ ptsC b := by simp [ptsC]
theorem ptsC_len (a : List (Int × Int)) : (ptsC a).length = a.length * 2 := flat_len (fun p : Int × Int => [Value.int .i64 p.1, Value.int .u64 p.2]) 2 (fun _ => rfl) a
end Go.Proofs.YthgefobcohlegaaGreatDoor

namespace Go.Proofs.YthgefobcohlegaaGreatDoor
open Go.RowKit
set_option linter.unusedVariables false

/-- A slice value, and the cells that it reads as. -/
structure Sl where
  A : Option Addr
  n : Nat
  c : Nat
  xs : List Value
def Sl.v (s : Sl) : Value := .slice s.A s.n s.c
def sumS (ss : List Sl) : Nat := (ss.map Sl.n).sum
theorem sumS_next {ss : List Sl} {k : Nat} {s : Sl} (h : ss[k]? = some s) : sumS (ss.take (k + 1)) = sumS (ss.take k) + s.n := by
  unfold sumS; rw [take_snoc h, List.map_append, List.sum_append]; simp
theorem sumS_le (ss : List Sl) (k : Nat) : sumS (ss.take k) ≤ sumS ss := by
  have h : sumS ss = sumS (ss.take k) + sumS (ss.drop k) := by
    conv => lhs; rw [← List.take_append_drop k ss]
    unfold sumS; rw [List.map_append, List.sum_append]
  omega
theorem xsS_next {ss : List Sl} {k : Nat} {s : Sl} (h : ss[k]? = some s) : (ss.take (k + 1)).flatMap Sl.xs = (ss.take k).flatMap Sl.xs ++ s.xs := by
  rw [take_snoc h, List.flatMap_append]; simp
theorem cc_append {w wr wa : World} {v v' : Value} {m r : Nat} {l xs : List Value} (hown : wr.ownsRow w.heap.size 39 2 v m l) (hb : Below w.heap.size w wr)
    (hown' : wa.ownsRow w.heap.size 39 2 v' (m + r) (l ++ xs)) (hgr : wr.grownBy wa v.ownBlock) :
    wa.ownsRow w.heap.size 39 2 v' (m + r) (l ++ xs) ∧ Below w.heap.size w wa :=
  ⟨hown', Below.grown hb hgr hb.size (fun g hg => (own_lt hown g hg).1)⟩

theorem grow_zero (w : World) : Calls Tryz.prog 118 #[.slice none 0 0, .int .i64 0] w fun e w' => e = .returned (.slice none 0 0) ∧ w = w' := by
  go_enter Tryz.func118, Tryz.ntmps118
  go_wp2
  go_ret
  exact ⟨rfl, rfl⟩
set_option maxRecDepth 100000 in
set_option maxHeartbeats 4000000 in
theorem grow_pos (n : Nat) (w : World) (h0 : 0 < n) (hn : n ≤ 100000) :
    Calls Tryz.prog 118 #[.slice none 0 0, .int .i64 n] w fun e w' => ∃ v, e = .returned v ∧ w'.ownsRow w.heap.size 39 2 v 0 [] ∧ Below w.heap.size w w' := by
  obtain ⟨i0, hi, hz0, hz1, hz2⟩ := info_parts infoPt
  have hold : (Builtin.firstCells i0.size 0 (.slice none 0 0)).run Tryz.prog w.drew = .ok ([] : List Value).toArray w.drew := run_firstCells_none w.drew i0.size 0 0 0
  have hrz : ∀ ty, (Builtin.append_ #[54, 3] ty #[.slice none 0 0, .int .i64 (n : Int)]).run Tryz.prog w =
      .ok (.slice (some ⟨w.heap.size, 0, none⟩) n (grownCap w n 0 39)) (w.drew.alloc (.cells (#[] ++ Builtin.zeroCells (Value.agg #[.int .i64 0, .int .u64 0]).cells n ++ Builtin.zeroCells (Value.agg #[.int .i64 0, .int .u64 0]).cells (grownCap w n 0 39 - n)) 39)) := fun ty => by
    have h := Lib.run_append_grow_zeros w 54 3 ty 39 i0 (.agg #[.int .i64 0, .int .u64 0]) .i64 .i64 Tryz.underlying54 Tryz.underlying3 hi hz0 none 0 0 [] hold n h0 (by rw [hz1]; decide) (by omega) (by omega)
      (by rw [hz2]; omega) (by rw [hz2, Nat.zero_add]; exact growslice_fits h0 (by omega))
    rw [Nat.zero_add] at h
    exact h
  have hGn : n ≤ grownCap w n 0 39 := grownCap_ge w _ _ _
  have hGm : grownCap w n 0 39 ≤ maxLen := grownCap_le_maxLen w n 0 39 (by unfold maxLen; omega)
  generalize grownCap w n 0 39 = G at hrz hGn hGm
  have hown : (w.drew.alloc (.cells (#[] ++ Builtin.zeroCells (Value.agg #[.int .i64 0, .int .u64 0]).cells n ++ Builtin.zeroCells (Value.agg #[.int .i64 0, .int .u64 0]).cells (G - n)) 39)).ownsRow w.heap.size 39 2 (.slice (some ⟨w.heap.size, 0, none⟩) 0 G) 0 [] := by
    refine ⟨rfl, .inr ⟨w.heap.size, G, _, rfl, Nat.le_refl _, Blk.new w.drew _ _, Nat.zero_le _, hGm, ?_, by simp⟩⟩
    rw [Array.size_append, Array.size_append, size_zeroCells, size_zeroCells]
    show 0 + n * 2 + (G - n) * 2 = G * 2
    omega
  have hbel : Below w.heap.size w (w.drew.alloc (.cells (#[] ++ Builtin.zeroCells (Value.agg #[.int .i64 0, .int .u64 0]).cells n ++ Builtin.zeroCells (Value.agg #[.int .i64 0, .int .u64 0]).cells (G - n)) 39)) := Below.alloc (Below.refl _ w).drew (Nat.le_refl _) _
  generalize hW : w.drew.alloc (.cells (#[] ++ Builtin.zeroCells (Value.agg #[.int .i64 0, .int .u64 0]).cells n ++ Builtin.zeroCells (Value.agg #[.int .i64 0, .int .u64 0]).cells (G - n)) 39) = W at hrz hown hbel
  have Hrz := Lib.hid hrz; have Hown := Lib.hid hown; have Hbel := Lib.hid hbel
  have hG63 : (G : Int) ≤ 9223372036854775807 := by unfold maxLen at hGm; omega
  have h0' : (0 : Int) < (n : Int) := by omega
  clear hrz hown hbel hW hold hi hz0 hz1 hz2 hGm
  go_enter Tryz.func118, Tryz.ntmps118
  go_wp2_with (at_builtin; refine Lib.wpList_append_run _ rfl _ _ _ _ rfl _ _ rfl rfl _ _ (Hrz.out _) ?_)
  go_ret
  exact ⟨_, rfl, Hown.out, Hbel.out⟩

set_option maxRecDepth 100000 in
set_option maxHeartbeats 4000000 in
theorem concat_any (g m c : Nat) (ss : List Sl) (w : World) (hg : Rd w w.heap.size 1 (some ⟨g, 0, none⟩) m (ss.map Sl.v)) (hss : ∀ s ∈ ss, Rd w w.heap.size 2 s.A s.n s.xs ∧ ∀ u ∈ s.xs, u.oneCell' = true)
    (hm : m ≤ 1000) (hsum : sumS ss ≤ 100000) :
    Calls Tryz.prog 88 #[.slice (some ⟨g, 0, none⟩) m c] w fun e w' => ∃ v, e = .returned v ∧ w'.ownsRow w.heap.size 39 2 v (sumS ss) (ss.flatMap Sl.xs) ∧ Below w.heap.size w w' := by
  have hlen : ss.length = m := by have := hg.1; rw [List.length_map] at this; omega
  obtain ⟨i0, hi, hz0, hz1, hz2⟩ := info_parts infoPt
  have Hi := Lib.hid hi; have Hz0 := Lib.hid hz0; have Hz1 := Lib.hid hz1; have Hz2 := Lib.hid hz2
  have Hg := Lib.hid hg; have Hss := Lib.hid hss; have Hlen := Lib.hid hlen; have Hsum := Lib.hid hsum
  clear hi hz0 hz1 hz2 hg hss hlen hsum
  go_enter Tryz.func88, Tryz.ntmps88
  go_wp2
  go_loop [3, 11] (fun z iv => ∃ k : Nat, k ≤ m ∧ iv = .int .i64 k ∧ z = .int .i64 (sumS (ss.take k))) (fun _ iv => m - (intOf iv).toNat)
  case atStart => exact ⟨0, Nat.zero_le _, rfl, rfl⟩
  case round =>
    obtain ⟨k, hk, rfl, rfl⟩ := hrel
    by_cases hkm : k < m
    · obtain ⟨b, o, s, hA, hb, hs, hc⟩ := Hg.out.at1 hkm
      injection hA with hA
      injection hA with hA1 hA2
      subst hA1; subst hA2
      obtain ⟨z, hz⟩ : ∃ z, z = sumS (ss.take k) := ⟨_, rfl⟩
      have hnx := sumS_next hs
      have hle := sumS_le ss (k + 1)
      have hsm := Hsum.out
      rw [← hz] at hnx ⊢
      have hz2 : z + s.n ≤ 100000 := by omega
      have Hnx := Lib.hid hnx
      unfold Sl.v at hc
      rw [Nat.zero_add] at hc
      clear hs hz hnx hle hsm
      go_wp2
      go_round
      case rel => exact ⟨k + 1, by omega, by go_num, by rw [Hnx.out]; go_num⟩
      case measure => simp [intOf]; omega
    · obtain rfl : k = m := by omega
      have htk : ss.take k = ss := List.take_of_length_le (by rw [Hlen.out]; exact Nat.le_refl _)
      rw [htk]
      obtain ⟨z, hz⟩ : ∃ z, z = sumS ss := ⟨_, rfl⟩
      rw [← hz]
      have hz1 : z ≤ 100000 := by rw [hz]; exact Hsum.out
      have Hz := Lib.hid hz
      clear hz htk
      have hgrow : Calls Tryz.prog 118 #[.slice none 0 0, .int .i64 z] w fun e w' => ∃ v, e = .returned v ∧ w'.ownsRow w.heap.size 39 2 v 0 [] ∧ Below w.heap.size w w' := by
        rcases Nat.eq_zero_or_pos z with h0 | h0
        · subst h0
          exact (grow_zero w).mono fun e w' ⟨he, hw⟩ => ⟨_, he, by rw [← hw]; exact World.ownsRow_nil _ _ _ _, by rw [← hw]; exact Below.refl _ _⟩
        · exact grow_pos z w h0 hz1
      have Hgrow := Lib.hid hgrow
      clear hgrow
      go_wp2_with fail
      refine Hgrow.out.mono ?_
      rintro e w1 ⟨v, rfl, hown, hbel⟩
      have Hown := Lib.hid hown; have Hbel := Lib.hid hbel
      clear hown hbel
      go_wp2
      go_loopw [6, 27] (fun o iv wr => ∃ j : Nat, j ≤ k ∧ iv = .int .i64 j ∧ wr.ownsRow w.heap.size 39 2 o (sumS (ss.take j)) ((ss.take j).flatMap Sl.xs) ∧ Below w.heap.size w wr) (fun _ iv _ => k - (intOf iv).toNat)
      case atStart => exact ⟨0, Nat.zero_le _, rfl, Hown.out, Hbel.out⟩
      case round =>
        obtain ⟨j, hj, rfl, hown, hbel⟩ := hrel
        obtain ⟨Ao, co, rfl, _, _, _⟩ := own_form hown
        have hws : w.heap.size ≤ wr.heap.size := hbel.size
        have Hown2 := Lib.hid hown; have Hbel2 := Lib.hid hbel
        clear hown hbel
        by_cases hjk : j < k
        · obtain ⟨b, o, s, hA, hb, hs, hc⟩ := (Hg.out.below Hbel2.out).at1 hjk
          injection hA with hA
          injection hA with hA1 hA2
          subst hA1; subst hA2
          obtain ⟨hsr, hs1⟩ := Hss.out s (List.mem_of_getElem? hs)
          have hnx := sumS_next hs
          have hxn := xsS_next hs
          have hle := sumS_le ss (j + 1)
          have hsm := Hsum.out
          obtain ⟨q, hq⟩ : ∃ q, q = sumS (ss.take j) := ⟨_, rfl⟩
          obtain ⟨cur, hcur⟩ : ∃ cur, cur = (ss.take j).flatMap Sl.xs := ⟨_, rfl⟩
          rw [← hq] at hnx Hown2 ⊢
          rw [← hcur] at hxn Hown2
          have hk63 : q + s.n ≤ maxLen := by unfold maxLen; omega
          have hk8 : (q + s.n) * 16 ≤ 140737488355328 := by omega
          have Hnx := Lib.hid hnx; have Hxn := Lib.hid hxn; have Hs1 := Lib.hid hs1
          have Hsr := Lib.hid ((hsr.below Hbel2.out).more hws)
          unfold Sl.v at hc
          rw [Nat.zero_add] at hc
          clear hs hq hcur hnx hxn hle hsm hs1 hsr
          go_wp2_with (at_builtin; refine wpList_append_rd _ rfl (.tmp 31) (.tmp 32) _ rfl w.heap.size 39 i0 (.agg #[.int .i64 0, .int .u64 0]) 2 16 Tryz.underlying54 Hi.out Hz0.out Hz1.out Hz2.out rfl (by decide) (.slice Ao q co) q _ rfl Hown2.out _ _ s.n s.c s.xs rfl Hsr.out Hs1.out hk63 hk8 hws ?_; intro v' wa hown' hgr hat; have HR := Lib.hid (cc_append Hown2.out Hbel2.out hown' hgr); clear hown' hgr hat)
          go_roundw
          case rel => exact ⟨j + 1, by omega, by go_num, by rw [Hnx.out, Hxn.out]; exact HR.out.1, HR.out.2⟩
          case measure => simp [intOf]; omega
        · obtain rfl : j = k := by omega
          have htk : ss.take j = ss := List.take_of_length_le (by rw [Hlen.out]; exact Nat.le_refl _)
          rw [htk] at Hown2 ⊢
          have Hz2 := Hz
          go_wp2
          go_ret
          exact ⟨_, rfl, Hown2.out, Hbel2.out⟩
end Go.Proofs.YthgefobcohlegaaGreatDoor
