/- Rows gathered by name in a map; the names sorted: plain, and the map's words. -/
import Derived.Test.YtpbgonpmpjpljaaGreatDoorMknX
import Derived.Maps.OwnSet
import Derived.Maps.RangeWalk
import Derived.Sort.KeysCollected
import Derived.Test.YtpbgonpmpjpljaaGreatDoorKeysX
import Derived.Test.YtpbgonpmpjpljaaGreatDoorMkpX
import Derived.Test.YtpbgonpmpjpljaaGreatDoorMklX
import Derived.Test.YtpbgonpmpjpljaaGreatDoorMkmX
import Derived.Deep.RegionHeld3
namespace Go.Proofs.YtpbgonpmpjpljaaGreatDoor
open Go.RowKit Go.Maps Go.Sort
set_option linter.unusedVariables false

/-- What a slice reads as. -/
def sliceR (v : Value) : Option (DataW Unit × List MemPlace) := match v with
  | .slice (some ⟨b, o, none⟩) n c => some (.agg [.lit (.int .i64 (b : Int)), .lit (.int .i64 (o : Int)), .lit (.int .i64 (n : Int)), .lit (.int .i64 (c : Int))], [])
  | .slice none n c => some (.agg [.lit (.int .i64 (n : Int)), .lit (.int .i64 (c : Int))], [])
  | _ => none
theorem lit_inj {a b : Nat} (h : (DataW.lit (.int .i64 (a : Int)) : DataW Unit) = .lit (.int .i64 (b : Int))) : a = b := by
  injection h with h
  injection h with _ h
  omega
theorem sliceR_inj {u v : Value} {d : DataW Unit} {p q : List MemPlace} (hu : sliceR u = some (d, p)) (hv : sliceR v = some (d, q)) : u = v := by
  unfold sliceR at hu hv
  split at hu
  · split at hv
    · have e := (congrArg Prod.fst (Option.some.inj hu)).trans (congrArg Prod.fst (Option.some.inj hv)).symm
      simp only [DataW.agg.injEq, List.cons.injEq, and_true] at e
      obtain ⟨e1, e2, e3, e4⟩ := e
      rw [lit_inj e1, lit_inj e2, lit_inj e3, lit_inj e4]
    · have e := (congrArg Prod.fst (Option.some.inj hu)).trans (congrArg Prod.fst (Option.some.inj hv)).symm
      simp at e
    · cases hv
  · split at hv
    · have e := (congrArg Prod.fst (Option.some.inj hu)).trans (congrArg Prod.fst (Option.some.inj hv)).symm
      simp at e
    · have e := (congrArg Prod.fst (Option.some.inj hu)).trans (congrArg Prod.fst (Option.some.inj hv)).symm
      simp only [DataW.agg.injEq, List.cons.injEq, and_true] at e
      obtain ⟨e1, e2⟩ := e
      rw [lit_inj e1, lit_inj e2]
    · cases hv
  · cases hu
/-- All points of a name, row by row. -/
def catP (l : List Rw) (s : Bs) : List (Int × Int) := (l.filter fun r => decide (r.1 = s)).flatMap (·.2)
theorem catP_append (a b : List Rw) (s : Bs) : catP (a ++ b) s = catP a s ++ catP b s := by unfold catP; rw [List.filter_append, List.flatMap_append]
theorem catP_yes (l : List Rw) (r : Rw) : catP (l ++ [r]) r.1 = catP l r.1 ++ r.2 := by rw [catP_append]; simp [catP]
theorem catP_no (l : List Rw) (r : Rw) (s : Bs) (h : r.1 ≠ s) : catP (l ++ [r]) s = catP l s := by rw [catP_append]; simp [catP, h]
theorem catP_none {l : List Rw} {s : Bs} (h : ∀ r ∈ l, r.1 ≠ s) : catP l s = [] := by
  unfold catP
  rw [List.filter_eq_nil_iff.2 (fun r hr => by simpa using h r hr)]
  rfl
def onceN : List Bs → List Bs
  | [] => []
  | a :: l => if (onceN l).contains a then onceN l else a :: onceN l
theorem onceN_mem {a : Bs} : ∀ {l : List Bs}, a ∈ onceN l ↔ a ∈ l
  | [] => Iff.rfl
  | b :: l => by
    unfold onceN
    split
    · rename_i h
      have h1 := List.contains_iff_mem.1 h
      rw [onceN_mem, List.mem_cons]
      constructor
      · exact .inr
      · rintro (rfl | h2)
        · exact onceN_mem.1 h1
        · exact h2
    · rw [List.mem_cons, List.mem_cons, onceN_mem]
theorem onceN_nodup : ∀ l : List Bs, (onceN l).Nodup
  | [] => List.Pairwise.nil
  | b :: l => by
    unfold onceN
    split
    · exact onceN_nodup l
    · rename_i h
      exact List.nodup_cons.2 ⟨fun h2 => h (List.contains_iff_mem.2 h2), onceN_nodup l⟩
/-- The names, rising, each once. -/
def srtN (l : List Rw) : List Bs := (onceN (l.map Prod.fst)).mergeSort leB
/-- The rows of all names, names rising. -/
def bothR (l : List Rw) : List Rw := (srtN l).map fun s => (s, catP l s)
/-- Entries of a map of rows. -/
structure CatM (E : List RowV) (l : List Rw) : Prop where
  nd : (E.map (·.nm)).Nodup
  mem : ∀ s, (∃ r ∈ E, r.nm = s) ↔ ∃ r ∈ l, r.1 = s
  pts : ∀ r ∈ E, r.pts = catP l r.nm
theorem CatM.nil : CatM [] [] := ⟨List.Pairwise.nil, fun s => ⟨fun ⟨_, h, _⟩ => (by cases h), fun ⟨_, h, _⟩ => (by cases h)⟩, fun r h => (by cases h)⟩
def putE (E : List RowV) (x : RowV) : List RowV := E.filter (fun r => decide (r.nm ≠ x.nm)) ++ [x]
theorem putE_mem {E : List RowV} {x r : RowV} : r ∈ putE E x ↔ (r ∈ E ∧ r.nm ≠ x.nm) ∨ r = x := by
  unfold putE
  rw [List.mem_append, List.mem_filter, List.mem_singleton]
  simp
theorem CatM.put {E : List RowV} {l : List Rw} (h : CatM E l) (r : Rw) (v : Value) : CatM (putE E ⟨r.1, catP l r.1 ++ r.2, v⟩) (l ++ [r]) := by
  refine ⟨?_, fun s => ?_, fun x hx => ?_⟩
  · unfold putE
    rw [List.map_append, List.nodup_append]
    refine ⟨List.Pairwise.sublist (List.filter_sublist.map _) h.nd, by simp, fun a ha b hb => ?_⟩
    obtain ⟨q, hq, rfl⟩ := List.mem_map.1 ha
    simp only [List.map_singleton, List.mem_singleton] at hb
    rw [hb]
    simpa using (List.mem_filter.1 hq).2
  · constructor
    · rintro ⟨x, hx, rfl⟩
      rcases putE_mem.1 hx with ⟨hx, _⟩ | rfl
      · obtain ⟨y, hy, e⟩ := (h.mem x.nm).1 ⟨x, hx, rfl⟩
        exact ⟨y, List.mem_append.2 (.inl hy), e⟩
      · exact ⟨r, by simp, rfl⟩
    · rintro ⟨y, hy, rfl⟩
      rcases List.mem_append.1 hy with hy | hy
      · by_cases e : y.1 = r.1
        · exact ⟨_, putE_mem.2 (.inr rfl), e.symm⟩
        · obtain ⟨x, hx, e2⟩ := (h.mem y.1).2 ⟨y, hy, rfl⟩
          exact ⟨x, putE_mem.2 (.inl ⟨hx, fun e3 => e (e2.symm.trans e3)⟩), e2⟩
      · obtain rfl := List.mem_singleton.1 hy
        exact ⟨_, putE_mem.2 (.inr rfl), rfl⟩
  · rcases putE_mem.1 hx with ⟨hx, hne⟩ | rfl
    · rw [h.pts x hx, catP_no _ _ _ (fun e => hne e.symm)]
    · exact (catP_yes l r).symm
theorem CatM.none {E : List RowV} {l : List Rw} (h : CatM E l) {s : Bs} (hn : ∀ r ∈ E, r.nm ≠ s) : catP l s = [] :=
  catP_none fun r hr e => by
    obtain ⟨x, hx, e2⟩ := (h.mem s).2 ⟨r, hr, e⟩
    exact hn x hx e2
theorem putE_len {E : List RowV} {x : RowV} (hn : (E.map (·.nm)).Nodup) : (putE E x).length = if E.any (fun r => r.nm == x.nm) then E.length else E.length + 1 := by
  unfold putE
  rw [List.length_append, List.length_singleton]
  induction E with
  | nil => rfl
  | cons a E ih =>
    rw [List.map_cons, List.nodup_cons] at hn
    have ih := ih hn.2
    rw [List.filter_cons, List.any_cons]
    by_cases e : a.nm = x.nm
    · have hno : ∀ r ∈ E, r.nm ≠ x.nm := fun r hr e2 => hn.1 (List.mem_map.2 ⟨r, hr, e2.trans e.symm⟩)
      rw [List.filter_eq_self.2 (fun r hr => by simpa using hno r hr)]
      simp [e]
    · simp only [e, ne_eq, not_false_eq_true, decide_true, if_true, List.length_cons]
      rw [show (a.nm == x.nm) = false by simpa using e, Bool.false_or]
      simp only [ne_eq] at ih ⊢
      split at ih <;> rename_i h1
      · rw [if_pos h1]; omega
      · rw [if_neg h1]; omega
/-- The map's datum says just these entries. -/
def DOfS (D : DataW Unit) (E : List RowV) : Prop :=
  Maps.size D = E.length ∧ (∀ s : Bs, Maps.has D (.string s) = E.any fun x => x.nm == s) ∧ ∀ x ∈ E, ∀ z, sliceR x.v = some (D.atKey (.string x.nm) z, [])
theorem DOfS.nil : DOfS (.map []) [] := ⟨rfl, fun _ => rfl, fun x h => by cases h⟩
theorem DOfS.put {D : DataW Unit} {E : List RowV} (h : DOfS D E) (ht : Tidy D) (hn : (E.map (·.nm)).Nodup) (x : RowV) {d : DataW Unit} (hx : sliceR x.v = some (d, [])) : DOfS (D.put (.string x.nm) d) (putE E x) := by
  refine ⟨?_, fun u => ?_, fun z hz w => ?_⟩
  · rw [Maps.size_put ht, h.2.1, putE_len hn, h.1]
  · by_cases hu : x.nm = u
    · subst hu
      rw [Maps.has_put_same ht.isMap (show WideAt.IsKeyLit (.string x.nm) from trivial)]
      symm
      rw [List.any_eq_true]
      exact ⟨x, putE_mem.2 (.inr rfl), by simp⟩
    · rw [Maps.has_put_other (fun e => hu (by injection e with e; exact e.symm)), h.2.1 u, Bool.eq_iff_iff, List.any_eq_true, List.any_eq_true]
      constructor
      · rintro ⟨y, hy, e⟩
        exact ⟨y, putE_mem.2 (.inl ⟨hy, fun e2 => hu (e2.symm.trans (by simpa using e))⟩), e⟩
      · rintro ⟨y, hy, e⟩
        rcases putE_mem.1 hy with ⟨hy, _⟩ | rfl
        · exact ⟨y, hy, e⟩
        · exact absurd (by simpa using e) hu
  · rcases putE_mem.1 hz with ⟨hz, hne⟩ | rfl
    · rw [Maps.atKey_put_other (fun e => hne (by injection e))]
      exact h.2.2 z hz w
    · rw [Maps.atKey_put_same ht.isMap (show WideAt.IsKeyLit (.string z.nm) from trivial)]
      exact hx
theorem mStrKeyed : Keyed Tryz.prog 9 := string_keyed Tryz.underlying9
theorem mKeyStr {s : Bs} (h : s.length ≤ 1000000) : keyOf Tryz.prog 9 (.string (B8 s)) = some (.string s) := by
  have := WideMaps.keyOf_string_mk (P := Tryz.prog) Tryz.underlying9 (s := B8 s) (by rw [B8_size]; unfold maxLen; omega)
  rw [this]
  rfl
theorem mZero (w : World) : (zeroValue 32).run Tryz.prog w = .ok (.slice none 0 0) w := by kernel_rfl
/-- A map of rows in memory. -/
structure MapAt (w : World) (mb N : Nat) (D : DataW Unit) (E : List RowV) (l : List Rw) : Prop where
  mp : w.ownsMap Tryz.prog 9 sliceR mb N D
  dof : DOfS D E
  cat : CatM E l
  rd : ∀ r ∈ E, ∃ A c, r.v = .slice A r.pts.length c ∧ Rd w w.heap.size 2 A r.pts.length (ptsC r.pts)
theorem MapAt.below {w w' : World} {mb N : Nat} {D : DataW Unit} {E : List RowV} {l : List Rw} (h : MapAt w mb N D E l) (hb : Below w.heap.size w w') : MapAt w' mb N D E l := by
  refine ⟨?_, h.dof, h.cat, fun r hr => ?_⟩
  · obtain ⟨es, clock, h1, h2, h3, h4⟩ := h.mp
    exact ⟨es, clock, (hb.block _ h.mp.lt).trans h1, h2, h3, h4⟩
  · obtain ⟨A, c, e, hrd⟩ := h.rd r hr
    exact ⟨A, c, e, (hrd.below hb).more hb.size⟩
/-- A look at the map, in a later world. -/
theorem MapAt.lookB {w w' : World} {mb N : Nat} {D : DataW Unit} {E : List RowV} {l : List Rw} (h : MapAt w mb N D E l) (hb : Below w.heap.size w w') (s : Bs) (hs : s.length ≤ 1000000) :
    ∃ A c, (Instr.lookup 116 (.map (some mb)) (.string (B8 s)) false).run Tryz.prog w' = .ok (.slice A (catP l s).length c) w' ∧ Rd w w.heap.size 2 A (catP l s).length (ptsC (catP l s)) := by
  obtain ⟨v, ps, hrun, hv⟩ := (h.below hb).mp.lookup mStrKeyed Tryz.underlying116 (mZero w') (zd := .agg [.lit (.int .i64 0), .lit (.int .i64 0)]) (zp := []) rfl (mKeyStr hs)
  by_cases hx : ∃ x ∈ E, x.nm = s
  · obtain ⟨x, hx, rfl⟩ := hx
    have := sliceR_inj hv (h.dof.2.2 x hx _)
    subst this
    obtain ⟨A, c, e, hr⟩ := h.rd x hx
    rw [← h.cat.pts x hx]
    exact ⟨A, c, by rw [← e]; exact hrun, hr⟩
  · have hno : ∀ r ∈ E, r.nm ≠ s := fun r hr e => hx ⟨r, hr, e⟩
    have hh : Maps.has D (.string s) = false := by
      rw [h.dof.2.1 s, List.any_eq_false]
      intro r hr
      simpa using hno r hr
    rw [Maps.atKey_of_not_has hh] at hv
    have := sliceR_inj (v := .slice none 0 0) (q := []) hv rfl
    subst this
    rw [h.cat.none hno]
    exact ⟨none, 0, hrun, Rd.nil⟩
theorem MapAt.look {w : World} {mb N : Nat} {D : DataW Unit} {E : List RowV} {l : List Rw} (h : MapAt w mb N D E l) (s : Bs) (hs : s.length ≤ 1000000) :
    ∃ A c, (Instr.lookup 116 (.map (some mb)) (.string (B8 s)) false).run Tryz.prog w = .ok (.slice A (catP l s).length c) w ∧ Rd w w.heap.size 2 A (catP l s).length (ptsC (catP l s)) := h.lookB (Below.refl _ _) s hs
/-- The map is written: one name's slice is anew. -/
theorem MapAt.put {w w' : World} {mb N : Nat} {D : DataW Unit} {E : List RowV} {l : List Rw} (h : MapAt w mb N D E l) (r : Rw) {A : Option Addr} {c : Nat} {d : DataW Unit}
    (hd : sliceR (.slice A (catP l r.1 ++ r.2).length c) = some (d, [])) (hr : Rd w w.heap.size 2 A (catP l r.1 ++ r.2).length (ptsC (catP l r.1 ++ r.2)))
    (hm : w'.ownsMap Tryz.prog 9 sliceR mb (N + 1) (D.put (.string r.1) d)) (hg : w.grownBy w' (some mb)) :
    MapAt w' mb (N + 1) (D.put (.string r.1) d) (putE E ⟨r.1, catP l r.1 ++ r.2, .slice A (catP l r.1 ++ r.2).length c⟩) (l ++ [r]) := by
  have keep : ∀ {A : Option Addr} {n : Nat} {xs : List Value} {size : Nat}, size ≠ 0 → Rd w w.heap.size size A n xs → Rd w' w'.heap.size size A n xs := fun {A n xs size} hs hrd => by
    refine ⟨hrd.1, fun hn => ?_⟩
    obtain ⟨b, o, e, hb, hc⟩ := hrd.2 hn
    refine ⟨b, o, e, Nat.lt_of_lt_of_le hb hg.size, fun j u hu => ?_⟩
    have hc0 := hc j u hu
    have hne : b ≠ mb := by
      rintro rfl
      obtain ⟨es, clock, h1, _⟩ := h.mp
      simp [World.cell?, h1] at hc0
    exact (World.cell?_of_block (hg.block b hb (fun e => hne (Option.some.inj e)))).trans hc0
  refine ⟨hm, h.dof.put (h.mp.tidy mStrKeyed) h.cat.nd ⟨r.1, _, _⟩ hd, h.cat.put r _, fun x hx => ?_⟩
  rcases putE_mem.1 hx with ⟨hx, _⟩ | rfl
  · obtain ⟨A', c', e, hrd⟩ := h.rd x hx
    exact ⟨A', c', e, keep (by decide) hrd⟩
  · exact ⟨A, c, rfl, keep (by decide) hr⟩
/-- The map's keys, sorted, are the names. -/
theorem MapAt.keys {w : World} {mb N : Nat} {D : DataW Unit} {E : List RowV} {l : List Rw} (h : MapAt w mb N D E l) {ss : List (List UInt8)} (hp : ss.Perm (strKeys D)) : ss.mergeSort leB = srtN l := by
  obtain ⟨es, rfl, hes, _⟩ := h.mp.entries mStrKeyed
  obtain ⟨es2, he2, hk⟩ := h.mp.keysOf
  injection he2 with he2
  subst he2
  have hn : (onceN (l.map Prod.fst)).Nodup := onceN_nodup _
  have hp2 : (onceN (l.map Prod.fst)).Perm (strKeys (.map es)) := by
    refine perm_strKeys hes (fun p hp => ?_) hn (fun x => ?_)
    · obtain ⟨v, hv⟩ := hk p hp
      obtain ⟨x, _, hx, _⟩ := Maps.keyOf_str Tryz.underlying9 hv
      exact ⟨x, hx⟩
    · rw [h.dof.2.1 x, List.any_eq_true, onceN_mem, List.mem_map]
      constructor
      · rintro ⟨r, hr, rfl⟩
        obtain ⟨y, hy, e⟩ := (h.cat.mem r.1).2 ⟨r, hr, rfl⟩
        exact ⟨y, hy, by simpa using e⟩
      · rintro ⟨y, hy, e⟩
        obtain ⟨r, hr, e2⟩ := (h.cat.mem y.nm).1 ⟨y, hy, rfl⟩
        exact ⟨r, hr, e2.trans (by simpa using e)⟩
  exact mergeSort_of_perm (hp.trans hp2.symm)
end Go.Proofs.YtpbgonpmpjpljaaGreatDoor

namespace Go.Proofs
open Go.RowKit Go.Maps Go.Sort Go.Shelf
theorem Tryz.sortsP (m : Nat) : AnyZ.SortsIn Tryz.prog Tryz.sorted61_ren Fence.wide m :=
  ⟨fun blk off cap ss W hH hblk hsz => callsIn_wide.2 (AnyM.slices_Sort_string Tryz.sort91 blk off cap ss W hH hblk hsz),
   fun p cap W => callsIn_wide.2 (AnyM.slices_Sort_string_none Tryz.sort91 p cap W)⟩
theorem Tryz.mapsKeysP (mb : Option Nat) (W : World) : Calls Tryz.prog 62 #[.map mb] W fun e w' => e = .returned (.func (.func 92) #[] #[.pointer (some ⟨W.heap.size, 0, none⟩)]) ∧ w' = W.alloc (.cells #[.map mb] 116) :=
  callsIn_wide.1 (AnyZ.keys_in Tryz.keys62 Fence.wide 5 trivial rfl mb W)
set_option maxHeartbeats 1000000 in
theorem Tryz.sortedKeysP {H : Type} (b nn : Nat) (D0 : DataW H) (R : Value → Option (DataW H × List MemPlace)) (w : World) (hown : w.ownsMap Tryz.prog 9 R b nn D0) (hmax : Maps.size D0 ≤ maxLen) (hbytes : Maps.size D0 * 16 ≤ 140737488355328) :
    Calls Tryz.prog 61 #[.func (.func 92) #[] #[.pointer (some ⟨w.heap.size, 0, none⟩)]] (w.alloc (.cells #[.map (some b)] 116)) fun e w' => ∃ (v : Value) (ss : List (List UInt8)), e = .returned v ∧ ss.Perm (strKeys D0) ∧
      w'.ownsRow (w.alloc (.cells #[.map (some b)] 116)).heap.size 9 1 v ss.length ((ss.mergeSort (fun x y => decide (x ≤ y))).map encStr) ∧ (v = .slice none 0 0 ↔ ss = []) ∧ Below (w.alloc (.cells #[.map (some b)] 116)).heap.size (w.alloc (.cells #[.map (some b)] 116)) w' := by
  refine (callsIn_wide (n := 5)).1 ?_
  have hbl := hown.lt
  have hseq : SeqGives Fence.wide 2 Tryz.prog 92 #[.pointer (some ⟨w.heap.size, 0, none⟩)] encStr (fun ss => ss.Perm (strKeys D0)) (Maps.size D0) (w.alloc (.cells #[.map (some b)] 116)) :=
    AnyZ.keys_gives (ρ := Tryz.keys62_ren) { Tryz.keys62 with } Fence.wide _ trivial rfl (by omega) w.heap.size b nn D0 _ (by simp) (by simp) (by
      obtain ⟨es, clock, hb, Ft, hs, hD⟩ := hown
      exact ⟨es, clock, (Below.heap_alloc _ _ b hbl).trans hb, Ft, hs, hD⟩)
  exact AnyZ.sorted_in Tryz.sorted61 Fence.wide 5 trivial trivial trivial trivial rfl (by omega) (Tryz.sortsP _) (enters_of Tryz.func91 (by kernel_rfl) rfl) 92 #[.pointer (some ⟨w.heap.size, 0, none⟩)] trivial (enters_of Tryz.func92 (by kernel_rfl) rfl) _ _ hmax hbytes _ hseq
end Go.Proofs

namespace Go.Proofs.YtpbgonpmpjpljaaGreatDoor
open Go.RowKit
set_option linter.unusedVariables false

theorem cc_appendR {w wr wa : World} {v v' : Value} {m r : Nat} {l xs : List Value} (hown : wr.ownsRow w.heap.size 59 2 v m l) (hb : Below w.heap.size w wr)
    (hown' : wa.ownsRow w.heap.size 59 2 v' (m + r) (l ++ xs)) (hgr : wr.grownBy wa v.ownBlock) :
    wa.ownsRow w.heap.size 59 2 v' (m + r) (l ++ xs) ∧ Below w.heap.size w wa :=
  ⟨hown', Below.grown hb hgr hb.size (fun g hg => (own_lt hown g hg).1)⟩

theorem grow_zeroR (w : World) : Calls Tryz.prog 88 #[.slice none 0 0, .int .i64 0] w fun e w' => e = .returned (.slice none 0 0) ∧ w = w' := by
  go_enter Tryz.func88, Tryz.ntmps88
  go_wp2
  go_ret
  exact ⟨rfl, rfl⟩
set_option maxRecDepth 100000 in
set_option maxHeartbeats 4000000 in
theorem grow_posR (n : Nat) (w : World) (h0 : 0 < n) (hn : n ≤ 100000) :
    Calls Tryz.prog 88 #[.slice none 0 0, .int .i64 n] w fun e w' => ∃ v, e = .returned v ∧ w'.ownsRow w.heap.size 59 2 v 0 [] ∧ Below w.heap.size w w' := by
  obtain ⟨i0, hi, hz0, hz1, hz2⟩ := info_parts infoRow
  have hold : (Builtin.firstCells i0.size 0 (.slice none 0 0)).run Tryz.prog w.drew = .ok ([] : List Value).toArray w.drew := run_firstCells_none w.drew i0.size 0 0 0
  have hrz : ∀ ty, (Builtin.append_ #[60, 3] ty #[.slice none 0 0, .int .i64 (n : Int)]).run Tryz.prog w =
      .ok (.slice (some ⟨w.heap.size, 0, none⟩) n (grownCap w n 0 59)) (w.drew.alloc (.cells (#[] ++ Builtin.zeroCells (Value.agg #[.string ⟨#[]⟩, .slice none 0 0]).cells n ++ Builtin.zeroCells (Value.agg #[.string ⟨#[]⟩, .slice none 0 0]).cells (grownCap w n 0 59 - n)) 59)) := fun ty => by
    have h := Lib.run_append_grow_zeros w 60 3 ty 59 i0 (.agg #[.string ⟨#[]⟩, .slice none 0 0]) .i64 .i64 Tryz.underlying60 Tryz.underlying3 hi hz0 none 0 0 [] hold n h0 (by rw [hz1]; decide) (by omega) (by omega)
      (by rw [hz2]; omega) (by rw [hz2, Nat.zero_add]; exact growslice_fits h0 (by omega))
    rw [Nat.zero_add] at h
    exact h
  have hGn : n ≤ grownCap w n 0 59 := grownCap_ge w _ _ _
  have hGm : grownCap w n 0 59 ≤ maxLen := grownCap_le_maxLen w n 0 59 (by unfold maxLen; omega)
  generalize grownCap w n 0 59 = G at hrz hGn hGm
  have hown : (w.drew.alloc (.cells (#[] ++ Builtin.zeroCells (Value.agg #[.string ⟨#[]⟩, .slice none 0 0]).cells n ++ Builtin.zeroCells (Value.agg #[.string ⟨#[]⟩, .slice none 0 0]).cells (G - n)) 59)).ownsRow w.heap.size 59 2 (.slice (some ⟨w.heap.size, 0, none⟩) 0 G) 0 [] := by
    refine ⟨rfl, .inr ⟨w.heap.size, G, _, rfl, Nat.le_refl _, Blk.new w.drew _ _, Nat.zero_le _, hGm, ?_, by simp⟩⟩
    rw [Array.size_append, Array.size_append, size_zeroCells, size_zeroCells]
    show 0 + n * 2 + (G - n) * 2 = G * 2
    omega
  have hbel : Below w.heap.size w (w.drew.alloc (.cells (#[] ++ Builtin.zeroCells (Value.agg #[.string ⟨#[]⟩, .slice none 0 0]).cells n ++ Builtin.zeroCells (Value.agg #[.string ⟨#[]⟩, .slice none 0 0]).cells (G - n)) 59)) := Below.alloc (Below.refl _ w).drew (Nat.le_refl _) _
  generalize hW : w.drew.alloc (.cells (#[] ++ Builtin.zeroCells (Value.agg #[.string ⟨#[]⟩, .slice none 0 0]).cells n ++ Builtin.zeroCells (Value.agg #[.string ⟨#[]⟩, .slice none 0 0]).cells (G - n)) 59) = W at hrz hown hbel
  have Hrz := Lib.hid hrz; have Hown := Lib.hid hown; have Hbel := Lib.hid hbel
  have hG63 : (G : Int) ≤ 9223372036854775807 := by unfold maxLen at hGm; omega
  have h0' : (0 : Int) < (n : Int) := by omega
  clear hrz hown hbel hW hold hi hz0 hz1 hz2 hGm
  go_enter Tryz.func88, Tryz.ntmps88
  go_wp2_with (at_builtin; refine Lib.wpList_append_run _ rfl _ _ _ _ rfl _ _ rfl rfl _ _ (Hrz.out _) ?_)
  go_ret
  exact ⟨_, rfl, Hown.out, Hbel.out⟩

set_option maxRecDepth 100000 in
set_option maxHeartbeats 4000000 in
theorem concat_anyR (g m c : Nat) (ss : List Sl) (w : World) (hg : Rd w w.heap.size 1 (some ⟨g, 0, none⟩) m (ss.map Sl.v)) (hss : ∀ s ∈ ss, Rd w w.heap.size 2 s.A s.n s.xs ∧ ∀ u ∈ s.xs, u.oneCell' = true)
    (hm : m ≤ 1000) (hsum : sumS ss ≤ 100000) :
    Calls Tryz.prog 59 #[.slice (some ⟨g, 0, none⟩) m c] w fun e w' => ∃ v, e = .returned v ∧ w'.ownsRow w.heap.size 59 2 v (sumS ss) (ss.flatMap Sl.xs) ∧ Below w.heap.size w w' := by
  have hlen : ss.length = m := by have := hg.1; rw [List.length_map] at this; omega
  obtain ⟨i0, hi, hz0, hz1, hz2⟩ := info_parts infoRow
  have Hi := Lib.hid hi; have Hz0 := Lib.hid hz0; have Hz1 := Lib.hid hz1; have Hz2 := Lib.hid hz2
  have Hg := Lib.hid hg; have Hss := Lib.hid hss; have Hlen := Lib.hid hlen; have Hsum := Lib.hid hsum
  clear hi hz0 hz1 hz2 hg hss hlen hsum
  go_enter Tryz.func59, Tryz.ntmps59
  go_wp2
  go_loop [3, 11] (fun z iv => ∃ k : Nat, k ≤ m ∧ iv = .int .i64 k ∧ z = .int .i64 (sumS (ss.take k))) (fun _ iv => m - (intOf iv).toNat)
  case atStart => exact ⟨0, Nat.zero_le _, rfl, rfl⟩
  case round =>
    obtain ⟨k, hk, rfl, rfl⟩ := hrel
    by_cases hkm : k < m
    · obtain ⟨b, o, s, hA, hb, hs, hc⟩ := Hg.out.at1 hkm
      injection hA with hA
      injection hA with hA1 hA2
      subst hA1; subst hA2
      obtain ⟨z, hz⟩ : ∃ z, z = sumS (ss.take k) := ⟨_, rfl⟩
      have hnx := sumS_next hs
      have hle := sumS_le ss (k + 1)
      have hsm := Hsum.out
      rw [← hz] at hnx ⊢
      have hz2 : z + s.n ≤ 100000 := by omega
      have Hnx := Lib.hid hnx
      unfold Sl.v at hc
      rw [Nat.zero_add] at hc
      clear hs hz hnx hle hsm
      go_wp2
      go_round
      case rel => exact ⟨k + 1, by omega, by go_num, by rw [Hnx.out]; go_num⟩
      case measure => simp [intOf]; omega
    · obtain rfl : k = m := by omega
      have htk : ss.take k = ss := List.take_of_length_le (by rw [Hlen.out]; exact Nat.le_refl _)
      rw [htk]
      obtain ⟨z, hz⟩ : ∃ z, z = sumS ss := ⟨_, rfl⟩
      rw [← hz]
      have hz1 : z ≤ 100000 := by rw [hz]; exact Hsum.out
      have Hz := Lib.hid hz
      clear hz htk
      have hgrow : Calls Tryz.prog 88 #[.slice none 0 0, .int .i64 z] w fun e w' => ∃ v, e = .returned v ∧ w'.ownsRow w.heap.size 59 2 v 0 [] ∧ Below w.heap.size w w' := by
        rcases Nat.eq_zero_or_pos z with h0 | h0
        · subst h0
          exact (grow_zeroR w).mono fun e w' ⟨he, hw⟩ => ⟨_, he, by rw [← hw]; exact World.ownsRow_nil _ _ _ _, by rw [← hw]; exact Below.refl _ _⟩
        · exact grow_posR z w h0 hz1
      have Hgrow := Lib.hid hgrow
      clear hgrow
      go_wp2_with fail
      refine Hgrow.out.mono ?_
      rintro e w1 ⟨v, rfl, hown, hbel⟩
      have Hown := Lib.hid hown; have Hbel := Lib.hid hbel
      clear hown hbel
      go_wp2
      go_loopw [6, 27] (fun o iv wr => ∃ j : Nat, j ≤ k ∧ iv = .int .i64 j ∧ wr.ownsRow w.heap.size 59 2 o (sumS (ss.take j)) ((ss.take j).flatMap Sl.xs) ∧ Below w.heap.size w wr) (fun _ iv _ => k - (intOf iv).toNat)
      case atStart => exact ⟨0, Nat.zero_le _, rfl, Hown.out, Hbel.out⟩
      case round =>
        obtain ⟨j, hj, rfl, hown, hbel⟩ := hrel
        obtain ⟨Ao, co, rfl, _, _, _⟩ := own_form hown
        have hws : w.heap.size ≤ wr.heap.size := hbel.size
        have Hown2 := Lib.hid hown; have Hbel2 := Lib.hid hbel
        clear hown hbel
        by_cases hjk : j < k
        · obtain ⟨b, o, s, hA, hb, hs, hc⟩ := (Hg.out.below Hbel2.out).at1 hjk
          injection hA with hA
          injection hA with hA1 hA2
          subst hA1; subst hA2
          obtain ⟨hsr, hs1⟩ := Hss.out s (List.mem_of_getElem? hs)
          have hnx := sumS_next hs
          have hxn := xsS_next hs
          have hle := sumS_le ss (j + 1)
          have hsm := Hsum.out
          obtain ⟨q, hq⟩ : ∃ q, q = sumS (ss.take j) := ⟨_, rfl⟩
          obtain ⟨cur, hcur⟩ : ∃ cur, cur = (ss.take j).flatMap Sl.xs := ⟨_, rfl⟩
          rw [← hq] at hnx Hown2 ⊢
          rw [← hcur] at hxn Hown2
          have hk63 : q + s.n ≤ maxLen := by unfold maxLen; omega
          have hk8 : (q + s.n) * 40 ≤ 140737488355328 := by omega
          have Hnx := Lib.hid hnx; have Hxn := Lib.hid hxn; have Hs1 := Lib.hid hs1
          have Hsr := Lib.hid ((hsr.below Hbel2.out).more hws)
          unfold Sl.v at hc
          rw [Nat.zero_add] at hc
          clear hs hq hcur hnx hxn hle hsm hs1 hsr
          go_wp2_with (at_builtin; refine wpList_append_rd _ rfl (.tmp 31) (.tmp 32) _ rfl w.heap.size 59 i0 (.agg #[.string ⟨#[]⟩, .slice none 0 0]) 2 40 Tryz.underlying60 Hi.out Hz0.out Hz1.out Hz2.out rfl (by decide) (.slice Ao q co) q _ rfl Hown2.out _ _ s.n s.c s.xs rfl Hsr.out Hs1.out hk63 hk8 hws ?_; intro v' wa hown' hgr hat; have HR := Lib.hid (cc_appendR Hown2.out Hbel2.out hown' hgr); clear hown' hgr hat)
          go_roundw
          case rel => exact ⟨j + 1, by omega, by go_num, by rw [Hnx.out, Hxn.out]; exact HR.out.1, HR.out.2⟩
          case measure => simp [intOf]; omega
        · obtain rfl : j = k := by omega
          have htk : ss.take j = ss := List.take_of_length_le (by rw [Hlen.out]; exact Nat.le_refl _)
          rw [htk] at Hown2 ⊢
          have Hz2 := Hz
          go_wp2
          go_ret
          exact ⟨_, rfl, Hown2.out, Hbel2.out⟩
end Go.Proofs.YtpbgonpmpjpljaaGreatDoor

namespace Go.Proofs.YtpbgonpmpjpljaaGreatDoor
open Go.RowKit Go.Maps Go.Sort
set_option linter.unusedVariables false

theorem catP_len (l : List Rw) (s : Bs) (q : Nat) (h : ∀ r ∈ l, r.2.length ≤ q) : (catP l s).length ≤ l.length * q := by
  induction l with
  | nil => exact Nat.zero_le _
  | cons a l ih =>
    have ih := ih fun r hr => h r (List.mem_cons_of_mem _ hr)
    have ha := h a (List.mem_cons_self ..)
    rw [show a :: l = [a] ++ l from rfl, catP_append, List.length_append, List.length_append, List.length_singleton, Nat.add_mul, Nat.one_mul]
    have : (catP [a] s).length ≤ a.2.length := by
      unfold catP
      rw [List.filter_cons]
      split <;> simp
    omega
theorem own_sliceR {w : World} {base : Nat} {e : TypeId} {size n : Nat} {v : Value} {xs : List Value} (h : w.ownsRow base e size v n xs) : ∃ d, sliceR v = some (d, []) := by
  rcases h.2 with ⟨rfl, _⟩ | ⟨g, cap, cur, rfl, _⟩
  · exact ⟨_, rfl⟩
  · exact ⟨_, rfl⟩
/-- What both gives. -/
def BothPost (l : List Rw) (w : World) (e : Ending) (w' : World) : Prop :=
  ∃ A c ls, e = .returned (.slice A ls.length c) ∧ RowsRd w' w'.heap.size A ls.length ls ∧ ls.map rowP2 = bothR l ∧ Below w.heap.size w w'
theorem RowsRd.append {w : World} {base : Nat} {Au : Option Addr} {m cu : Nat} {ls : List RowV} (hown : w.ownsRow base 59 2 (.slice Au m cu) m (rowC ls)) (h : ∀ r ∈ ls, ∃ A' c', r.v = .slice A' r.pts.length c' ∧ Rd w w.heap.size 2 A' r.pts.length (ptsC r.pts)) : RowsRd w w.heap.size Au m ls := ⟨Rd.of_own hown, h⟩
theorem rowC_append (a b : List RowV) : rowC (a ++ b) = rowC a ++ rowC b := by unfold rowC; rw [List.flatMap_append]
theorem MapAt.new (w : World) : MapAt (w.alloc (.map #[] 0)) w.heap.size 0 (.map []) [] [] :=
  ⟨World.ownsMap_made w Tryz.prog 9 sliceR, DOfS.nil, CatM.nil, fun r h => by cases h⟩
theorem onceN_len : ∀ l : List Bs, (onceN l).length ≤ l.length
  | [] => Nat.le_refl _
  | b :: l => by
    unfold onceN
    have := onceN_len l
    split
    · rw [List.length_cons]; omega
    · rw [List.length_cons, List.length_cons]; omega
theorem srtN_len (l : List Rw) : (srtN l).length ≤ l.length := by
  unfold srtN
  rw [List.length_mergeSort]
  have := onceN_len (l.map Prod.fst)
  rw [List.length_map] at this
  exact this
theorem srtN_mem {l : List Rw} {s : Bs} : s ∈ srtN l ↔ ∃ r ∈ l, r.1 = s := by
  unfold srtN
  rw [List.mem_mergeSort, onceN_mem, List.mem_map]
theorem both_put {w w' : World} {mb k q : Nat} {D : DataW Unit} {E : List RowV} {R : List Rw} {r : Rw} {pp : List (Int × Int)} {A : Option Addr} {c : Nat} {d : DataW Unit} (h : MapAt w mb k D E (R.take k)) (hq : q = (pp ++ r.2).length) (hpp : pp = catP (R.take k) r.1) (hr : R[k]? = some r)
    (hd : sliceR (.slice A q c) = some (d, [])) (hrd : Rd w w.heap.size 2 A q (ptsC (pp ++ r.2)))
    (hm : w'.ownsMap Tryz.prog 9 sliceR mb (k + 1) (D.put (.string r.1) d)) (hg : w.grownBy w' (some mb)) :
    ∃ E', MapAt w' mb (k + 1) (D.put (.string r.1) d) E' (R.take (k + 1)) := by
  subst hpp
  subst hq
  rw [take_snoc hr]
  exact ⟨_, h.put r hd hrd hm hg⟩
theorem both_ne {w : World} {mb k g : Nat} {D : DataW Unit} {E : List RowV} {l : List Rw} {t : TypeId} {cs : Array Value} (h : MapAt w mb k D E l) (hb : Blk w g t cs) : some g ≠ some mb := by
  intro e
  injection e with e
  subst e
  obtain ⟨es, clock, h1, _⟩ := h.mp
  unfold Blk at hb
  rw [h1] at hb
  cases hb
theorem both_frame {a w w' : World} {B mb : Nat} (hb : Below B a w) (hg : w.grownBy w' (some mb)) (p : Addr) (h1 : p.block < B) (h2 : p.block ≠ mb) (h3 : p.block < w.heap.size) : w'.cell? p = a.cell? p :=
  (World.cell?_of_block (hg.block p.block h3 (fun e => h2 (Option.some.inj e)))).trans (hb.cell h1)
set_option maxRecDepth 100000 in
set_option maxHeartbeats 8000000 in
theorem both_any (A A' : Option Addr) (n c n' c' : Nat) (ra rb : List RowV) (w : World) (hA : RowsRd w w.heap.size A n ra) (hB : RowsRd w w.heap.size A' n' rb) (hn : n ≤ 60) (hn' : n' ≤ 60)
    (hp : ∀ r ∈ ra ++ rb, r.pts.length ≤ 120 ∧ r.nm.length ≤ 100000) :
    Calls Tryz.prog 37 #[.slice A n c, .slice A' n' c'] w fun e w' => BothPost ((ra ++ rb).map rowP2) w e w' := by
  have hb1 : Below w.heap.size w (w.alloc (.map #[] 0)) := Below.alloc (Below.refl _ _) (Nat.le_refl _) _
  have hb2 : Below w.heap.size w ((w.alloc (.map #[] 0)).alloc (.cells #[.slice A n c, .slice A' n' c'] 60)) := Below.alloc hb1 hb1.size _
  have hM2 : MapAt ((w.alloc (.map #[] 0)).alloc (.cells #[.slice A n c, .slice A' n' c'] 60)) w.heap.size 0 (.map []) [] [] := (MapAt.new w).below (Below.alloc (Below.refl _ _) (Nat.le_refl _) _)
  have hk2 := Blk.new (w.alloc (.map #[] 0)) 60 #[.slice A n c, .slice A' n' c']
  rw [World.size_alloc] at hk2
  have hg2 : Rd ((w.alloc (.map #[] 0)).alloc (.cells #[.slice A n c, .slice A' n' c'] 60)) ((w.alloc (.map #[] 0)).alloc (.cells #[.slice A n c, .slice A' n' c'] 60)).heap.size 1 (some ⟨w.heap.size + 1, 0, none⟩) 2 ([⟨A, n, c, rowC ra⟩, ⟨A', n', c', rowC rb⟩].map Sl.v) :=
    ⟨rfl, fun _ => ⟨w.heap.size + 1, 0, rfl, hk2.lt, fun j u hu => by rw [Nat.zero_add, hk2.cell]; simpa [Sl.v] using hu⟩⟩
  have Hcc := Lib.hid (concat_anyR (w.heap.size + 1) 2 2 [⟨A, n, c, rowC ra⟩, ⟨A', n', c', rowC rb⟩] _ hg2 (fun s hs => by
    have hone : ∀ (l : List RowV), (∀ r ∈ l, ∃ A c, r.v = .slice A r.pts.length c) → ∀ u ∈ rowC l, u.oneCell' = true := fun l hl u hu => by
      unfold rowC at hu
      obtain ⟨r, hr, hu⟩ := List.mem_flatMap.1 hu
      obtain ⟨A1, c1, e⟩ := hl r hr
      rw [e] at hu
      exact row_one r.nm A1 _ c1 u hu
    rcases List.mem_cons.1 hs with rfl | hs
    · exact ⟨(hA.1.below hb2).more hb2.size, hone ra fun r hr => by obtain ⟨A1, c1, e, _⟩ := hA.2 r hr; exact ⟨A1, c1, e⟩⟩
    · obtain rfl := List.mem_singleton.1 hs
      exact ⟨(hB.1.below hb2).more hb2.size, hone rb fun r hr => by obtain ⟨A1, c1, e, _⟩ := hB.2 r hr; exact ⟨A1, c1, e⟩⟩) (by decide) (by show n + (n' + 0) ≤ 100000; omega))
  rw [show sumS [⟨A, n, c, rowC ra⟩, ⟨A', n', c', rowC rb⟩] = n + n' by show n + (n' + 0) = n + n'; omega, show [(⟨A, n, c, rowC ra⟩ : Sl), ⟨A', n', c', rowC rb⟩].flatMap Sl.xs = rowC (ra ++ rb) by rw [rowC_append]; simp] at Hcc
  have Hrd := Lib.hid (fun W (hb : Below w.heap.size w W) r (hr : r ∈ ra ++ rb) => show ∃ A' c', r.v = .slice A' r.pts.length c' ∧ Rd W W.heap.size 2 A' r.pts.length (ptsC r.pts) from by
    rcases List.mem_append.1 hr with hr | hr
    · obtain ⟨A1, c1, e, h⟩ := hA.2 r hr
      exact ⟨A1, c1, e, (h.below hb).more hb.size⟩
    · obtain ⟨A1, c1, e, h⟩ := hB.2 r hr
      exact ⟨A1, c1, e, (h.below hb).more hb.size⟩)
  have hlen : (ra ++ rb).length = n + n' := by rw [List.length_append, hA.len, hB.len]
  obtain ⟨R, hR⟩ : ∃ R, R = ra ++ rb := ⟨_, rfl⟩
  rw [← hR] at Hcc Hrd hp hlen ⊢
  have Hp := Lib.hid hp; have Hlen := Lib.hid hlen
  have HB2 := Lib.hid hb2; have HM2 := Lib.hid hM2
  clear hA hB hb1 hb2 hM2 hk2 hg2 hp hlen hR
  have hmm := @run_makeMap Tryz.prog
  go_enter Tryz.func37, Tryz.ntmps37
  go_wp2_with fail
  refine Hcc.out.mono ?_
  rintro e w3 ⟨v3, rfl, hown3, hb3⟩
  obtain ⟨A3, c3, rfl, _, _, hr3⟩ := own_form hown3
  have HB3 := Lib.hid (Below.call HB2.out hb3 HB2.out.size)
  have HM3 := Lib.hid (HM2.out.below hb3)
  obtain ⟨m, hm⟩ : ∃ m, m = n + n' := ⟨_, rfl⟩
  rw [← hm] at hr3 ⊢
  have hm120 : m ≤ 120 := by omega
  have Hm := Lib.hid (show R.length = m by rw [hm]; exact Hlen.out)
  have HR3 := Lib.hid (fun W (hb : Below w3.heap.size w3 W) (k : Nat) (hk : k < m) => (hr3.below hb).at2 hk)
  clear hown3 hb3 hr3 hm hn hn'
  go_wp2
  go_loopw [17] (fun iv wr => ∃ (k : Nat) (D : DataW Unit) (E : List RowV), k ≤ m ∧ iv = .int .i64 k ∧ MapAt wr w.heap.size k D E ((R.map rowP2).take k) ∧ Below w.heap.size w wr ∧ (∀ p : Addr, p.block < w3.heap.size → p.block ≠ w.heap.size → wr.cell? p = w3.cell? p) ∧ w3.heap.size ≤ wr.heap.size) (fun iv _ => m - (intOf iv).toNat)
  case atStart => exact ⟨0, _, _, Nat.zero_le _, rfl, HM3.out, HB3.out, fun _ _ _ => rfl, Nat.le_refl _⟩
  case round =>
    obtain ⟨k, D, E, hk, rfl, hM, hb, hfr, hsz⟩ := hrel
    have HM := Lib.hid hM; have HB := Lib.hid hb; have HF := Lib.hid hfr
    clear hM hb hfr
    by_cases hkm : k < m
    · have hkm' : (k : Int) < m := by omega
      have HF2 := Lib.hid (fun W (hb : Below wr.heap.size wr W) (p : Addr) (h1 : p.block < w3.heap.size) (h2 : p.block ≠ w.heap.size) => (hb.cell (p := p) (Nat.lt_of_lt_of_le h1 hsz)).trans (HF.out p h1 h2))
      obtain ⟨b0, o0, r, hA0, had0, hr, x0, y0⟩ := HR3.out w3 (Below.refl _ _) k hkm
      subst hA0
      have hbm : b0 ≠ w.heap.size := by
        rintro rfl
        obtain ⟨es, clock, h1, _⟩ := HM3.out.mp
        simp [World.cell?, h1] at x0
      have x0 := (HF.out ⟨b0, o0 + k * 2, none⟩ had0 hbm).trans x0
      have y0 := (HF.out ⟨b0, o0 + k * 2 + 1, none⟩ had0 hbm).trans y0
      have hrm := List.mem_of_getElem? hr
      obtain ⟨Ap, cp, hrv, hrp⟩ := Hrd.out _ HB.out r hrm
      rw [hrv] at y0
      have hpr := Hp.out r hrm
      have Hr := Lib.hid (show (R.map rowP2)[k]? = some (r.nm, r.pts) by rw [List.getElem?_map, hr]; rfl)
      -- the row in its box
      have hba : Below wr.heap.size wr (wr.alloc (.cells #[.string (B8 r.nm), .slice Ap r.pts.length cp] 59)) := Below.alloc (Below.refl _ _) (Nat.le_refl _) _
      have hbd : Below wr.heap.size wr (wr.alloc (.cells #[.string (B8 r.nm), .slice Ap r.pts.length cp] 59)).drew := hba.drew
      have hkr := Blk.new wr 59 #[.string (B8 r.nm), .slice Ap r.pts.length cp]
      have hMd := HM.out.below hbd
      obtain ⟨A1, c1, hlk, hr1⟩ := hMd.look r.nm (by omega)
      obtain ⟨pp, hpp⟩ : ∃ pp, pp = catP ((R.map rowP2).take k) r.nm := ⟨_, rfl⟩
      have hpl : pp.length ≤ 14400 := by
        rw [hpp]
        have h1 := catP_len ((R.map rowP2).take k) r.nm 120 (fun q hq => by
          obtain ⟨q', hq', rfl⟩ := List.mem_map.1 (List.mem_of_mem_take hq)
          exact (Hp.out q' hq').1)
        have h2 : ((R.map rowP2).take k).length ≤ k := List.length_take_le _ _
        have h3 : ((R.map rowP2).take k).length * 120 ≤ k * 120 := Nat.mul_le_mul_right _ h2
        omega
      rw [← hpp] at hlk hr1
      have hrpd := (hrp.below (hbd.mono (Nat.le_refl _))).more hbd.size
      generalize hwd : (wr.alloc (.cells #[.string (B8 r.nm), .slice Ap r.pts.length cp] 59)).drew = wd at hbd hMd hlk hr1 hrpd
      have hszd : wd.heap.size = wr.heap.size + 1 := by rw [← hwd]; simp
      have hkd : Blk wd wr.heap.size 59 #[.string (B8 r.nm), .slice Ap r.pts.length cp] := by rw [← hwd]; exact hkr
      -- the two slices side by side
      have hbe : Below wd.heap.size wd (wd.alloc (.cells #[.slice A1 pp.length c1, .slice Ap r.pts.length cp] 32)) := Below.alloc (Below.refl _ _) (Nat.le_refl _) _
      have hk2 := Blk.new wd 32 #[.slice A1 pp.length c1, .slice Ap r.pts.length cp]
      have Hcc2 := Lib.hid (concat_any wd.heap.size 2 2 [⟨A1, pp.length, c1, ptsC pp⟩, ⟨Ap, r.pts.length, cp, ptsC r.pts⟩] _
        (⟨rfl, fun _ => ⟨wd.heap.size, 0, rfl, hk2.lt, fun j u hu => by rw [Nat.zero_add, hk2.cell]; simpa [Sl.v] using hu⟩⟩) (fun s hs => by
          rcases List.mem_cons.1 hs with rfl | hs
          · exact ⟨(hr1.below hbe).more hbe.size, ptsC_one pp⟩
          · obtain rfl := List.mem_singleton.1 hs
            exact ⟨(hrpd.below hbe).more hbe.size, ptsC_one r.pts⟩) (by decide) (by show pp.length + (r.pts.length + 0) ≤ 100000; omega))
      rw [show sumS [⟨A1, pp.length, c1, ptsC pp⟩, ⟨Ap, r.pts.length, cp, ptsC r.pts⟩] = (pp ++ r.pts).length by show pp.length + (r.pts.length + 0) = _; rw [List.length_append]; omega, show [(⟨A1, pp.length, c1, ptsC pp⟩ : Sl), ⟨Ap, r.pts.length, cp, ptsC r.pts⟩].flatMap Sl.xs = ptsC (pp ++ r.pts) by unfold ptsC; rw [List.flatMap_append]; simp] at Hcc2
      have HBe := Lib.hid hbe; have HMd := Lib.hid hMd; have HKd := Lib.hid hkd; have HBd := Lib.hid hbd
      have Hpp := Lib.hid hpp; have Hsz := Lib.hid hszd; have Hwd := Lib.hid hwd
      have Hkey := Lib.hid (mKeyStr (s := r.nm) (by omega))
      obtain ⟨q, hq⟩ : ∃ q, q = (pp ++ r.pts).length := ⟨_, rfl⟩
      rw [← hq] at Hcc2
      have Hq := Lib.hid hq
      obtain ⟨L1, hL1⟩ : ∃ L1, L1 = pp.length := ⟨_, rfl⟩
      obtain ⟨L2, hL2⟩ : ∃ L2, L2 = r.pts.length := ⟨_, rfl⟩
      rw [← hL1] at hlk Hcc2 HBe
      rw [← hL2] at y0 HKd Hcc2 HBe Hwd
      have HL1 := Lib.hid hL1; have HL2 := Lib.hid hL2
      generalize hsn : B8 r.nm = sn at x0 HKd hlk Hwd Hkey
      have Hsn := Lib.hid hsn
      have Hlk := Lib.hid hlk
      clear hr hrv hrp hba hbd hkr hMd hr1 hpp hpl hrpd hwd hszd hkd hbe hk2 hq hL1 hL2 hsn hlk had0 hrm
      go_wp2
      generalize hwa : wr.alloc (.cells #[.string sn, .slice Ap L2 cp] 59) = wa at Hwd ⊢
      have HBa := Lib.hid (show Below w.heap.size w wa from by rw [← hwa]; exact Below.alloc HB.out HB.out.size _)
      clear hwa
      have hw := Hwd.out
      subst hw
      have hlk := Hlk.out
      have HBf := Lib.hid (HBe.out)
      have HKe := Lib.hid (HKd.out.alloc (.cells #[.slice A1 L1 c1, .slice Ap L2 cp] 32))
      have Hkc := Lib.hid (fun W (h : Blk W wr.heap.size 59 #[.string sn, .slice Ap L2 cp]) => show W.cell? ⟨wr.heap.size, 0, none⟩ = some (.string sn) ∧ W.cell? ⟨wr.heap.size, 1, none⟩ = some (.slice Ap L2 cp) from ⟨h.cell 0, h.cell 1⟩)
      go_region_held3 (fun w' => w'.cell? ⟨wr.heap.size, 0, none⟩ = some (.string sn) ∧ w'.cell? ⟨wr.heap.size, 1, none⟩ = some (.slice Ap L2 cp))
        (first | with_reducible exact Hkc.out _ HKd.out | with_reducible exact Hkc.out _ HKe.out | with_reducible exact Hkc.out _ HK6.out | with_reducible exact Hkc.out _ HK7.out | exact Hkc.out _ HKe.out)
        (first | (go_at_call 60; refine Hcc2.out.mono ?_; rintro e6 w6 ⟨v6, rfl, ho6, hb6⟩; obtain ⟨d6, hd6⟩ := own_sliceR ho6; obtain ⟨A6, c6, rfl, _, _, hr6⟩ := own_form ho6; have HB6 := Lib.hid (show Below wa.drew.heap.size wa.drew w6 from Below.call HBe.out hb6 HBe.out.size); have HM6 := Lib.hid (HMd.out.below HB6.out); have HK6 := Lib.hid (HKe.out.below hb6 HKe.out.lt); obtain ⟨w7, hrun, hown7, hgr7⟩ := HM6.out.mp.update mStrKeyed Tryz.underlying116 (by unfold maxLen; omega) Hkey.out hd6; have HM7 := Lib.hid (both_put HM6.out Hq.out Hpp.out Hr.out hd6 hr6 hown7 hgr7); have HK7 := Lib.hid (HK6.out.grown hgr7 (both_ne HM6.out HK6.out)); have HF7 := Lib.hid (both_frame HB6.out hgr7); have HG7 := Lib.hid hgr7; clear ho6 hb6 hd6 hr6 hown7 hgr7))
      all_goals
        have HB7 := Lib.hid (show Below w.heap.size w w7 from Below.grown (HBa.out.drew.trans (HB6.out.mono (show w.heap.size ≤ wa.drew.heap.size from HBa.out.size))) HG7.out (Nat.le_trans HBa.out.size HB6.out.size) (fun g hg => by injection hg with hg; omega))
        have HFF := Lib.hid (fun (p : Addr) (h1 : p.block < w3.heap.size) (h2 : p.block ≠ w.heap.size) => show w7.cell? p = w3.cell? p from
          (HF7.out p (Nat.lt_of_lt_of_le h1 (Nat.le_trans hsz HBd.out.size)) h2 (Nat.lt_of_lt_of_le h1 (Nat.le_trans hsz (Nat.le_trans HBd.out.size HB6.out.size)))).trans ((HBd.out.cell (p := p) (Nat.lt_of_lt_of_le h1 hsz)).trans (HF.out p h1 h2)))
        have hz7 : w3.heap.size ≤ w7.heap.size := Nat.le_trans hsz (Nat.le_trans HBd.out.size (Nat.le_trans HB6.out.size HG7.out.size))
        clear hrun hlk
        (try simp only [Exit.inBlock, Exit.then])
        go_wp2
        go_roundw
        case rel =>
          obtain ⟨E', hM7⟩ := HM7.out
          exact ⟨k + 1, _, E', by omega, by go_num, hM7, HB7.out, HFF.out, hz7⟩
        case measure => simp [intOf]; omega
    · obtain rfl : k = m := by omega
      have hkm' : ¬ (k : Int) < k := by omega
      have hM := HM.out
      rw [List.take_of_length_le (by rw [List.length_map, Hm.out]; exact Nat.le_refl _)] at hM
      have HMr := Lib.hid hM
      have hle := hM.mp.size_le
      have Hkk := Lib.hid (Tryz.mapsKeysP (some w.heap.size) wr)
      have Hss := Lib.hid (Tryz.sortedKeysP w.heap.size k D sliceR wr hM.mp (by unfold maxLen; omega) (by omega))
      have Hba := Lib.hid (show Below wr.heap.size wr (wr.alloc (.cells #[.map (some w.heap.size)] 116)) from Below.alloc (Below.refl _ _) (Nat.le_refl _) _)
      have Hkey := Lib.hid (fun (ss : List (List UInt8)) (hp : ss.Perm (strKeys D)) => show ss.mergeSort (fun x y => decide (x ≤ y)) = srtN (R.map rowP2) from hM.keys hp)
      obtain ⟨i0, hi, hz0, hz1, hz2⟩ := info_parts infoRow
      have Hi := Lib.hid hi; have Hz0 := Lib.hid hz0; have Hz1 := Lib.hid hz1; have Hz2 := Lib.hid hz2
      clear hi hz0 hz1 hz2 hM hle hmm
      go_wp2_with fail
      refine Hkk.out.mono ?_
      rintro e w4 ⟨rfl, rfl⟩
      go_wp2_with fail
      refine Hss.out.mono ?_
      rintro e w5 ⟨v5, ss, rfl, hperm, hown5, _, hb5⟩
      have hsr := Hkey.out ss hperm
      have hsl : ss.length = (srtN (R.map rowP2)).length := by
        have := congrArg List.length hsr
        rw [List.length_mergeSort] at this
        exact this
      rw [hsr, hsl] at hown5
      obtain ⟨S, hS⟩ : ∃ S, S = srtN (R.map rowP2) := ⟨_, rfl⟩
      rw [← hS] at hown5
      obtain ⟨A5, c5, rfl, _, _, hr5⟩ := own_form hown5
      have hS120 : S.length ≤ 120 := by
        rw [hS]
        have := srtN_len (R.map rowP2)
        rw [List.length_map, Hm.out] at this
        omega
      have Hnm := Lib.hid (show ∀ s ∈ S, s.length ≤ 1000000 from fun s hs => by
        rw [hS] at hs
        obtain ⟨r, hr, rfl⟩ := srtN_mem.1 hs
        obtain ⟨q, hq, rfl⟩ := List.mem_map.1 hr
        exact Nat.le_trans (Hp.out q hq).2 (by decide))
      obtain ⟨q, hq⟩ : ∃ q, q = S.length := ⟨_, rfl⟩
      rw [← hq] at hr5 hS120 ⊢
      have HB5 := Lib.hid (Below.call Hba.out hb5 Hba.out.size)
      have HM5 := Lib.hid (HMr.out.below HB5.out)
      have HBw := Lib.hid (Below.call HB.out HB5.out HB.out.size)
      have HN5 := Lib.hid (fun W (hb : Below w5.heap.size w5 W) (j : Nat) (hj : j < q) => (show Rd W w5.heap.size 1 A5 q (S.map fun s => Value.string (B8 s)) from hr5.below hb).at1 hj)
      have HS := Lib.hid hS; have Hq := Lib.hid hq
      clear hown5 hr5 hb5 hsr hsl hperm hS hq
      go_wp2
      go_loopw [8, 37] (fun ov iv w6 => ∃ (j : Nat) (ls : List RowV), j ≤ q ∧ iv = .int .i64 j ∧ w6.ownsRow w5.heap.size 59 2 ov j (rowC ls) ∧ ls.length = j ∧ ls.map rowP2 = (S.take j).map (fun s => (s, catP (R.map rowP2) s)) ∧ (∀ r ∈ ls, ∃ A c, r.v = .slice A r.pts.length c ∧ Rd w5 w5.heap.size 2 A r.pts.length (ptsC r.pts)) ∧ Below w5.heap.size w5 w6) (fun _ iv _ => q - (intOf iv).toNat)
      case atStart => exact ⟨0, [], Nat.zero_le _, rfl, World.ownsRow_nil _ _ _ _, rfl, rfl, fun r h => (by cases h), Below.refl _ _⟩
      case round =>
        obtain ⟨j, ls, hj, rfl, hown, hll, hmap, hrd, hb⟩ := hrel
        obtain ⟨Ao, co, rfl, _, _, _⟩ := own_form hown
        have Hown := Lib.hid hown; have Hll := Lib.hid hll; have Hmap := Lib.hid hmap; have Hrdd := Lib.hid hrd; have HB6 := Lib.hid hb
        clear hown hll hmap hrd hb
        by_cases hjq : j < q
        · have hjq' : (j : Int) < q := by omega
          obtain ⟨b0, o0, s, hA0, had0, hs, x0⟩ := HN5.out _ HB6.out j hjq
          subst hA0
          have hsl := Hnm.out s (List.mem_of_getElem? hs)
          obtain ⟨A1, c1, hlk, hr1⟩ := HM5.out.lookB HB6.out s hsl
          obtain ⟨P, hP⟩ : ∃ P, P = catP (R.map rowP2) s := ⟨_, rfl⟩
          rw [← hP] at hlk hr1
          have HP := Lib.hid hP
          obtain ⟨L, hL⟩ : ∃ L, L = P.length := ⟨_, rfl⟩
          rw [← hL] at hlk hr1
          have HL := Lib.hid hL; have Hr1 := Lib.hid hr1; have Hs := Lib.hid hs
          have HoA := Lib.hid (show (wr.alloc (.cells #[.string (B8 s), .slice A1 L c1] 59)).ownsRow w5.heap.size 59 2 (.slice Ao j co) j (rowC ls) from Hown.out.alloc _)
          have HrA := Lib.hid (rd_new2 wr 59 (.string (B8 s)) (.slice A1 L c1))
          have HzA := Lib.hid (show w5.heap.size ≤ (wr.alloc (.cells #[.string (B8 s), .slice A1 L c1] 59)).heap.size by have := HB6.out.size; simp; omega)
          have HbA := Lib.hid (show Below w5.heap.size w5 (wr.alloc (.cells #[.string (B8 s), .slice A1 L c1] 59)) from Below.alloc HB6.out HB6.out.size _)
          have hk63 : j + 1 ≤ maxLen := by unfold maxLen; omega
          have hk8 : (j + 1) * 40 ≤ 140737488355328 := by omega
          have Hone := Lib.hid (row_one s A1 L c1)
          generalize hsn : B8 s = sn at x0 hlk HoA HrA HzA HbA Hone
          have Hsn := Lib.hid hsn
          clear hs hP hL hr1 hsn hsl
          go_wp2_with (at_builtin; refine wpList_append_rd _ rfl (.tmp 41) (.tmp 47) _ rfl w5.heap.size 59 i0 (.agg #[.string ⟨#[]⟩, .slice none 0 0]) 2 40 Tryz.underlying60 Hi.out Hz0.out Hz1.out Hz2.out rfl (by decide) (.slice Ao j co) j _ rfl HoA.out _ _ 1 1 [.string sn, .slice A1 L c1] rfl HrA.out Hone.out hk63 hk8 HzA.out ?_; intro v' wb hown' hgr hat; have Hv := Lib.hid hown'; have HBb := Lib.hid (Below.grown HbA.out hgr HzA.out (fun g hg => (own_lt HoA.out g hg).1)); clear hown' hgr hat)
          clear hlk
          go_roundw
          case rel =>
            refine ⟨j + 1, ls ++ [⟨s, P, .slice A1 L c1⟩], by omega, by go_num, ?_, by rw [List.length_append, Hll.out]; rfl, ?_, fun r hr => ?_, HBb.out⟩
            · rw [rowC_snoc]
              have := Hv.out
              rw [← Hsn.out] at this
              exact this
            · rw [List.map_append, Hmap.out, take_snoc Hs.out, List.map_append, HP.out]; rfl
            · rcases List.mem_append.1 hr with hr | hr
              · exact Hrdd.out r hr
              · obtain rfl := List.mem_singleton.1 hr
                exact ⟨A1, c1, by show Value.slice A1 L c1 = .slice A1 P.length c1; rw [HL.out], by have := Hr1.out; rw [HL.out] at this; exact this⟩
          case measure => simp [intOf]; omega
        · obtain rfl : j = q := by omega
          have hjq' : ¬ (j : Int) < j := by omega
          go_wp2
          go_ret
          have hm := Hmap.out
          rw [List.take_of_length_le (by rw [Hq.out]; exact Nat.le_refl _), HS.out] at hm
          refine ⟨Ao, co, ls, by show Ending.returned (.slice Ao j co) = _; rw [Hll.out], ⟨by rw [Hll.out]; exact Rd.of_own Hown.out, fun r hr => ?_⟩, hm, Below.call HBw.out HB6.out HBw.out.size⟩
          obtain ⟨A, c, e, hrd⟩ := Hrdd.out r hr
          exact ⟨A, c, e, (hrd.below HB6.out).more HB6.out.size⟩
end Go.Proofs.YtpbgonpmpjpljaaGreatDoor
