/- plain.Code and coded by contracts: nil, a sentinel, another error of errors.New's make, a fault that holds one. -/
import Derived.Test.YthgefobcohlegaaGreatDoorMkaX
import Derived.Lay
import Derived.Test.YthgefobcohlegaaGreatDoorBaseX
import Derived.Laws.BitsAllLaws
import Derived.Laws.BitsLemmas
import Derived.Laws.Strings
import Derived.Laws.Concat
namespace Go.Proofs.YthgefobcohlegaaGreatDoor
open Go.RowKit
set_option linter.unusedVariables false

def gErr (k : Nat) : Nat := [4, 0, 3, 6, 7, 8, 5, 2, 9, 1, 10].getD k 0
/-- The eleven sentinels and errors' own type, as the program's text lays them: all below block B. -/
structure Sents (es : Nat → Addr) (B : Nat) (w : World) : Prop where
  var : ∀ k, k < 11 → w.cell? ⟨gErr k, 0, none⟩ = some (sentV (es k))
  blk : ∀ k, k < 11 → ∃ c t, w.heap[(es k).block]? = some (.cells c t (0, 0))
  lt : ∀ k, k < 11 → (es k).block < B
  glt : ∀ k, k < 11 → gErr k < B
  inj : ∀ j k, j < 11 → k < 11 → es j = es k → j = k
  ety : w.cell? ⟨11, 0, none⟩ = some (.iface 211 (.agg #[.pointer (some ⟨20, 26, none⟩)]))
  elt : 11 < B
section
variable {es : Nat → Addr} {B : Nat} {w w' : World}
theorem Sents.below {C : Nat} (h : Sents es B w) (hb : Below C w w') (hC : B ≤ C) : Sents es B w' :=
  ⟨fun k hk => (hb.cell (p := ⟨gErr k, 0, none⟩) (Nat.lt_of_lt_of_le (h.glt k hk) hC)).trans (h.var k hk), fun k hk => by
    obtain ⟨c, t, e⟩ := h.blk k hk
    exact ⟨c, t, (hb.block _ (Nat.lt_of_lt_of_le (h.lt k hk) hC)).trans e⟩, h.lt, h.glt, h.inj, (hb.cell (p := ⟨11, 0, none⟩) (Nat.lt_of_lt_of_le h.elt hC)).trans h.ety, h.elt⟩
theorem Sents.alloc (h : Sents es B w) (hB : B ≤ w.heap.size) (o : Obj) : Sents es B (w.alloc o) := h.below (Below.alloc (Below.refl w.heap.size w) (Nat.le_refl _) o) hB
end

/-- The variables of the sentinels that chunks' own code names. -/
structure SV (es : Nat → Addr) (B : Nat) (w : World) : Prop where
  var : ∀ k, k ∈ [0, 1, 2, 4, 6, 7, 8] → w.cell? ⟨gErr k, 0, none⟩ = some (sentV (es k))
  glt : ∀ k, k ∈ [0, 1, 2, 4, 6, 7, 8] → gErr k < B
section
variable {es : Nat → Addr} {B : Nat} {w w' : World}
theorem SV.below {C : Nat} (h : SV es B w) (hb : Below C w w') (hC : B ≤ C) : SV es B w' :=
  ⟨fun k hk => (hb.cell (p := ⟨gErr k, 0, none⟩) (Nat.lt_of_lt_of_le (h.glt k hk) hC)).trans (h.var k hk), h.glt⟩
theorem SV.alloc (h : SV es B w) (hB : B ≤ w.heap.size) (o : Obj) : SV es B (w.alloc o) := h.below (Below.alloc (Below.refl w.heap.size w) (Nat.le_refl _) o) hB
theorem sv_lt {k : Nat} (hk : k ∈ [0, 1, 2, 4, 6, 7, 8]) : k < 11 := by simp at hk; omega
theorem Sents.v (h : Sents es B w) : SV es B w := ⟨fun k hk => h.var k (sv_lt hk), fun k hk => h.glt k (sv_lt hk)⟩
end

/-- The number of an error of errors.New's make that is the K-th sentinel (11: none of them). -/
def numOf (K : Nat) : Int := if K < 11 then (K : Int) + 1 else -1

theorem as_fault' (e : Addr) (w0 : World) (hg : w0.cell? ⟨11, 0, none⟩ = some (.iface 211 (.agg #[.pointer (some ⟨20, 26, none⟩)]))) (hgl : 11 < w0.heap.size) :
    Calls Tryz.prog 70 #[faultV e, .iface 146 (.pointer (some ⟨w0.heap.size, 0, none⟩))] (w0.alloc (.cells #[.pointer none] 144)) fun ev w' => ev = .returned (.bool true) ∧ w'.cell? ⟨w0.heap.size, 0, none⟩ = some (.pointer (some e)) ∧ Below w0.heap.size w0 w' := by
  refine (as_fault e ⟨w0.heap.size, 0, none⟩ (.pointer none) _ (by rw [World.cell?_alloc_lt _ _ ⟨11, 0, none⟩ hgl]; exact hg) (by simp) (by simp)).mono ?_
  rintro ev w' ⟨rfl, rfl⟩
  refine ⟨rfl, ?_, ?_⟩
  · have hc : ∀ (W : World) (u v : Value), W.cell? ⟨w0.heap.size, 0, none⟩ = some u → (W.setCell ⟨w0.heap.size, 0, none⟩ v).cell? ⟨w0.heap.size, 0, none⟩ = some v := by
      intro W u v h
      exact World.cell?_setCell_same W _ _ h
    refine hc _ (.pointer none) _ ?_
    rw [World.cell?_alloc_lt _ _ ⟨w0.heap.size, 0, none⟩ (by simp; omega), World.cell?_alloc_lt _ _ ⟨w0.heap.size, 0, none⟩ (by simp; omega), World.cell?_alloc_lt _ _ ⟨w0.heap.size, 0, none⟩ (by simp; omega), World.cell?_alloc_lt _ _ ⟨w0.heap.size, 0, none⟩ (by simp)]
    simp
  · go_grown

/-- The error v has the number n, and the place t (-1: none). -/
def ErrIs (es : Nat → Addr) (w : World) (v : Value) (n t : Int) : Prop :=
  (v = .nilIface ∧ n = 0 ∧ t = -1) ∨
  (∃ a K, v = sentV a ∧ n = numOf K ∧ t = -1 ∧ K ≤ 11 ∧ (∃ c t, w.heap[a.block]? = some (.cells c t (0, 0))) ∧ (∀ j, j < K → j < 11 → a ≠ es j) ∧ (K < 11 → a = es K)) ∨
  (∃ pb a K, v = faultV ⟨pb, 0, none⟩ ∧ n = numOf K ∧ K ≤ 11 ∧ (∃ c t, w.heap[a.block]? = some (.cells c t (0, 0))) ∧ pb < w.heap.size ∧ w.cell? ⟨pb, 0, none⟩ = some (.int .i64 t) ∧ w.cell? ⟨pb, 1, none⟩ = some (sentV a) ∧ (∀ j, j < K → j < 11 → a ≠ es j) ∧ (K < 11 → a = es K))
section
variable {es : Nat → Addr} {B : Nat} {w w' : World} {v : Value} {n t : Int}
theorem ErrIs.nil : ErrIs es w .nilIface 0 (-1) := .inl ⟨rfl, rfl, rfl⟩
theorem ErrIs.sent (hS : Sents es B w) {k : Nat} (hk : k < 11) : ErrIs es w (sentV (es k)) ((k : Int) + 1) (-1) :=
  .inr (.inl ⟨es k, k, rfl, by unfold numOf; rw [if_pos hk], rfl, by omega, hS.blk k hk, fun j hj hj' h => by have := hS.inj k j hk hj' h; omega, fun _ => rfl⟩)
theorem ErrIs.fault (hS : Sents es B w) {k : Nat} (hk : k < 11) {pb : Nat} (hp : pb < w.heap.size) (h0 : w.cell? ⟨pb, 0, none⟩ = some (.int .i64 t)) (h1 : w.cell? ⟨pb, 1, none⟩ = some (sentV (es k))) : ErrIs es w (faultV ⟨pb, 0, none⟩) ((k : Int) + 1) t :=
  .inr (.inr ⟨pb, es k, k, rfl, by unfold numOf; rw [if_pos hk], by omega, hS.blk k hk, hp, h0, h1, fun j hj hj' h => by have := hS.inj k j hk hj' h; omega, fun _ => rfl⟩)
theorem ErrIs.below {C : Nat} (h : ErrIs es w v n t) (hb : Below C w w') (hC : w.heap.size ≤ C) : ErrIs es w' v n t := by
  have blk : ∀ a : Addr, (∃ c t, w.heap[a.block]? = some (.cells c t (0, 0))) → ∃ c t, w'.heap[a.block]? = some (.cells c t (0, 0)) := by
    rintro a ⟨c, t, e⟩
    exact ⟨c, t, (hb.block _ (Nat.lt_of_lt_of_le (Array.getElem?_eq_some_iff.1 e).1 hC)).trans e⟩
  rcases h with h | ⟨a, K, h1, h2, h3, h4, h5, h6⟩ | ⟨pb, a, K, h1, h2, h3, h4, h5, h6, h7, h8⟩
  · exact .inl h
  · exact .inr (.inl ⟨a, K, h1, h2, h3, h4, blk a h5, h6⟩)
  · exact .inr (.inr ⟨pb, a, K, h1, h2, h3, blk a h4, Nat.lt_of_lt_of_le h5 hb.size, (hb.cell (p := ⟨pb, 0, none⟩) (Nat.lt_of_lt_of_le h5 hC)).trans h6, (hb.cell (p := ⟨pb, 1, none⟩) (Nat.lt_of_lt_of_le h5 hC)).trans h7, h8⟩)
end

end Go.Proofs.YthgefobcohlegaaGreatDoor

namespace Go.Proofs.YthgefobcohlegaaGreatDoor
open Go.RowKit Go.ChangeShapes
set_option linter.unusedVariables false

theorem e_star : "*" ++ "errors.errorString" = "*errors.errorString" := by decide
theorem e_row (u : TypeId) (h : Tryz.prog.typeName? 3 u = some "*errors.errorString") : u = 324 :=
  typeName_ptr_named (nm := "errors.errorString") (by rw [e_star]; kernel_rfl) (by kernel_rfl) (by decide) u (by rw [e_star]; exact h)
theorem e_et : Tryz.prog.globalNamed "errors.errorType" = some 11 := by kernel_rfl
theorem e_rt : (Tryz.prog.cutTypes.find? (·.1 == "internal/reflectlite.rtype")).map (·.2) = some 211 := by kernel_rfl
theorem e_types : Tryz.prog.types.size = 459 - 100 := by kernel_rfl
theorem e_oneRow : ((List.range (459 - 100)).filter fun t => Tryz.prog.rowNamed t [101, 114, 114, 111, 114]) = [26] := by kernel_rfl
def etyD : String × DataW Unit := ("errors.errorType", .iface "internal/reflectlite.rtype" (.agg [.ptr (.lit (.string [101, 114, 114, 111, 114]))]))

theorem ety_of_met {W : World} (h : handlesMet Tryz.prog [etyD] W) : W.cell? ⟨11, 0, none⟩ = some (.iface 211 (.agg #[.pointer (some ⟨20, 26, none⟩)])) := by
  obtain ⟨name, u, ty, e1, e2, e3, e4, e5⟩ := h _ (List.mem_singleton.2 rfl)
  have en : name = [101, 114, 114, 111, 114] := (Option.some.inj e1).symm
  subst en
  obtain rfl := Option.some.inj (e_rt.symm.trans e2)
  have hm : ty ∈ (List.range (459 - 100)).filter fun t => Tryz.prog.rowNamed t [101, 114, 114, 111, 114] := List.mem_filter.2 ⟨List.mem_range.2 (by rw [← e_types]; exact e3), e4⟩
  rw [e_oneRow] at hm
  obtain rfl := List.mem_singleton.1 hm
  have hh : typeHandle Tryz.prog 26 = .pointer (some ⟨20, 26, none⟩) := by kernel_rfl
  rw [hh] at e5
  simpa using World.var?_cell e_et e5 0
theorem cell_lt {W : World} {g i : Nat} {v : Value} (h : W.cell? ⟨g, i, none⟩ = some v) : g < W.heap.size := by
  rcases Nat.lt_or_ge g W.heap.size with h' | h'
  · exact h'
  · simp [World.cell?, Array.getElem?_eq_none h'] at h

end Go.Proofs.YthgefobcohlegaaGreatDoor

namespace Go.Proofs.YthgefobcohlegaaGreatDoor
open Go.RowKit Go.ChangeShapes
set_option linter.unusedVariables false

def plainL (l : List (String × DataW Unit)) : List (String × DataW Unit) := l.filter fun x => x.2.handleName?.isNone
/-- The door's own heap, the list's plain data laid into it. -/
noncomputable def witW (os : Os) (l : List (String × DataW Unit)) : World := (World.doorLaid Tryz.prog 230 os).layVars Tryz.prog (plainL l)
theorem witW_os (os : Os) (l : List (String × DataW Unit)) : (witW os l).os = os := by
  unfold witW
  rw [World.layVars_os]
  rfl
theorem met_wit {os : Os} {l : List (String × DataW Unit)} (args : Array Value) (hf : (World.doorLaid Tryz.prog 230 os).layFits Tryz.prog (plainL l) [] = true)
    (hi : (World.doorLaid Tryz.prog 230 os).layIfaces Tryz.prog (plainL l) (witW os l) = true) : laidMet Tryz.prog (plainL l) ((witW os l).forCall (fun _ _ => 0) ⟨#[], args, []⟩).memory := by
  have e1 : ((plainL l).filter fun x => ((plainL l).map (·.1)).contains x.1) = plainL l := List.filter_eq_self.2 fun x hx => List.contains_iff_mem.2 (List.mem_map.2 ⟨x, hx, rfl⟩)
  have e2 : ((plainL l).filter fun x => !((plainL l).map (·.1)).contains x.1) = [] := List.filter_eq_nil_iff.2 fun x hx => by rw [List.contains_iff_mem.2 (List.mem_map.2 ⟨x, hx, rfl⟩)]; simp
  have h : laidMet Tryz.prog (plainL l) (witW os l) := laidMet_layVars (w0 := World.doorLaid Tryz.prog 230 os) ((plainL l).map (·.1)) [] (by rw [e1]; rfl) (by rw [e1]; exact hf) (by rw [e1]; exact hi) (by rw [e2]; exact LaidIn.none)
  exact h.of_heap (by simp [World.memory, World.forCall, Input.heap])

theorem laidMet_perm {P : Program} {l l' : List (String × DataW Unit)} {w : World} (hp : l.Perm l') (h : laidMet P l w) : laidMet P l' w := by
  obtain ⟨ps, h1, h2, h3⟩ := h
  obtain ⟨ps', g1, g2⟩ := Lay.LaidVars_perm hp h1
  exact ⟨ps', g1, g2.nodup_iff.1 h2, fun b off hb => h3 b off (g2.mem_iff.2 hb)⟩
theorem laidMet_init {P : Program} {l : List (String × DataW Unit)} {x : String × DataW Unit} {w : World} (h : laidMet P (l ++ [x]) w) : laidMet P l w :=
  laidMet.tail (laidMet_perm (List.perm_append_comm (l₁ := l) (l₂ := [x])) h)
end Go.Proofs.YthgefobcohlegaaGreatDoor

namespace Go.Proofs.YthgefobcohlegaaGreatDoor
open Go.RowKit
set_option linter.unusedVariables false

/-- The last n bits of v, the highest first. -/
def bitsN (v n : Nat) : List Bool := (List.range n).map fun j => v.testBit (n - 1 - j)
theorem bitsN_len (v n : Nat) : (bitsN v n).length = n := by simp [bitsN]
theorem bitsN_get (v n j : Nat) (h : j < n) : (bitsN v n)[j]? = some (v.testBit (n - 1 - j)) := by simp [bitsN, h]
theorem bitsN_take (v n k : Nat) (h : k < n) : (bitsN v n).take (k + 1) = (bitsN v n).take k ++ [v.testBit (n - 1 - k)] := take_snoc (bitsN_get v n k h)

def b8 (f : Nat → Bool) : Nat := (f 0).toNat * 128 + (f 1).toNat * 64 + (f 2).toNat * 32 + (f 3).toNat * 16 + (f 4).toNat * 8 + (f 5).toNat * 4 + (f 6).toNat * 2 + (f 7).toNat
theorem toNat_le (b : Bool) : b.toNat ≤ 1 := by cases b <;> decide
theorem b8_lt (f : Nat → Bool) : b8 f < 256 := by
  have h0 := toNat_le (f 0); have h1 := toNat_le (f 1); have h2 := toNat_le (f 2); have h3 := toNat_le (f 3)
  have h4 := toNat_le (f 4); have h5 := toNat_le (f 5); have h6 := toNat_le (f 6); have h7 := toNat_le (f 7)
  unfold b8; omega
/-- Byte number i of a row of bits; what is missing is 0. -/
def byteAt (l : List Bool) (i : Nat) : Nat := b8 fun j => l.getD (8 * i + j) false
def packN (l : List Bool) : List Nat := (List.range ((l.length + 7) / 8)).map (byteAt l)
/-- The same with room for one bit more. -/
def packP (l : List Bool) : List Nat := (List.range (l.length / 8 + 1)).map (byteAt l)
theorem packN_len (l : List Bool) : (packN l).length = (l.length + 7) / 8 := by simp [packN]
theorem packP_len (l : List Bool) : (packP l).length = l.length / 8 + 1 := by simp [packP]
theorem byteAt_lt (l : List Bool) (i : Nat) : byteAt l i < 256 := b8_lt _
theorem byteAt_past (l : List Bool) (i : Nat) (h : l.length ≤ 8 * i) : byteAt l i = 0 := by
  have : ∀ j, l.getD (8 * i + j) false = false := fun j => by
    rw [List.getD_eq_getElem?_getD, List.getElem?_eq_none (by omega)]; rfl
  have e : (fun j => l.getD (8 * i + j) false) = fun _ => false := funext this
  unfold byteAt
  rw [e]; rfl
theorem b8_congr {f g : Nat → Bool} (h : ∀ j, j < 8 → f j = g j) : b8 f = b8 g := by
  unfold b8
  rw [h 0 (by omega), h 1 (by omega), h 2 (by omega), h 3 (by omega), h 4 (by omega), h 5 (by omega), h 6 (by omega), h 7 (by omega)]
theorem byteAt_snoc_lt (l : List Bool) (b : Bool) (i : Nat) (h : 8 * i + 8 ≤ l.length) : byteAt (l ++ [b]) i = byteAt l i := by
  refine b8_congr fun j hj => ?_
  rw [List.getD_eq_getElem?_getD, List.getD_eq_getElem?_getD, List.getElem?_append_left (by omega)]
theorem byteAt_snoc_false (l : List Bool) (i : Nat) : byteAt (l ++ [false]) i = byteAt l i := by
  unfold byteAt
  congr 1
  funext j
  rw [List.getD_eq_getElem?_getD, List.getD_eq_getElem?_getD, List.getElem?_append]
  split
  · rfl
  · rename_i h
    rw [List.getElem?_eq_none (show l.length ≤ 8 * i + j by omega)]
    cases hq : 8 * i + j - l.length with
    | zero => rfl
    | succ q => rfl
theorem or_table : ∀ (r : Fin 8) (a b c d e f g : Bool),
    (((if r.1 > 0 then a else false).toNat * 128 + (if r.1 > 1 then b else false).toNat * 64 + (if r.1 > 2 then c else false).toNat * 32 + (if r.1 > 3 then d else false).toNat * 16 + (if r.1 > 4 then e else false).toNat * 8 + (if r.1 > 5 then f else false).toNat * 4 + (if r.1 > 6 then g else false).toNat * 2 + false.toNat) ||| (128 / 2 ^ r.1)) =
      ((if r.1 > 0 then a else decide (r.1 = 0)).toNat * 128 + (if r.1 > 1 then b else decide (r.1 = 1)).toNat * 64 + (if r.1 > 2 then c else decide (r.1 = 2)).toNat * 32 + (if r.1 > 3 then d else decide (r.1 = 3)).toNat * 16 + (if r.1 > 4 then e else decide (r.1 = 4)).toNat * 8 + (if r.1 > 5 then f else decide (r.1 = 5)).toNat * 4 + (if r.1 > 6 then g else decide (r.1 = 6)).toNat * 2 + (decide (r.1 = 7)).toNat) := by decide +kernel
theorem getD_before (l : List Bool) (b : Bool) (q : Nat) : (l ++ [b]).getD q false = if q < l.length then l.getD q false else (decide (q = l.length) && b) := by
  rw [List.getD_eq_getElem?_getD, List.getD_eq_getElem?_getD, List.getElem?_append]
  by_cases h : q < l.length
  · rw [if_pos h, if_pos h]
  · rw [if_neg h, if_neg h]
    by_cases h2 : q = l.length
    · subst h2; simp
    · have : 0 < q - l.length := by omega
      obtain ⟨m, hm⟩ : ∃ m, q - l.length = m + 1 := ⟨q - l.length - 1, by omega⟩
      rw [hm]; simp [h2]
theorem byteAt_snoc_true (l : List Bool) : byteAt (l ++ [true]) (l.length / 8) = byteAt l (l.length / 8) ||| (128 / 2 ^ (l.length % 8)) := by
  have hr : l.length % 8 < 8 := Nat.mod_lt _ (by omega)
  have hd := Nat.div_add_mod l.length 8
  have old : ∀ j, l.getD (8 * (l.length / 8) + j) false = if l.length % 8 > j then l.getD (8 * (l.length / 8) + j) false else false := fun j => by
    split
    · rfl
    · rw [List.getD_eq_getElem?_getD, List.getElem?_eq_none (by omega)]; rfl
  have new : ∀ j, (l ++ [true]).getD (8 * (l.length / 8) + j) false = if l.length % 8 > j then l.getD (8 * (l.length / 8) + j) false else decide (l.length % 8 = j) := fun j => by
    rw [getD_before]
    by_cases h : l.length % 8 > j
    · rw [if_pos h, if_pos (by omega)]
    · rw [if_neg h, if_neg (by omega), Bool.and_true]
      congr 1
      apply propext
      constructor <;> intro _ <;> omega
  have key := or_table ⟨l.length % 8, hr⟩ (l.getD (8 * (l.length / 8) + 0) false) (l.getD (8 * (l.length / 8) + 1) false) (l.getD (8 * (l.length / 8) + 2) false) (l.getD (8 * (l.length / 8) + 3) false) (l.getD (8 * (l.length / 8) + 4) false) (l.getD (8 * (l.length / 8) + 5) false) (l.getD (8 * (l.length / 8) + 6) false)
  dsimp only at key
  have h7 : l.getD (8 * (l.length / 8) + 7) false = false := by rw [old 7, if_neg (by omega)]
  have n7 : (l ++ [true]).getD (8 * (l.length / 8) + 7) false = decide (l.length % 8 = 7) := by rw [new 7, if_neg (by omega)]
  unfold byteAt b8
  dsimp only
  rw [new 0, new 1, new 2, new 3, new 4, new 5, new 6, n7]
  rw [← key]
  rw [← old 0, ← old 1, ← old 2, ← old 3, ← old 4, ← old 5, ← old 6, h7]
theorem packP_eq (l : List Bool) : packP l = if l.length % 8 = 0 then packN l ++ [0] else packN l := by
  by_cases h : l.length % 8 = 0
  · rw [if_pos h]
    unfold packP packN
    have e : (l.length + 7) / 8 = l.length / 8 := by omega
    rw [e, List.range_succ, List.map_append]
    simp [byteAt_past l (l.length / 8) (by omega)]
  · rw [if_neg h]
    unfold packP packN
    have e : (l.length + 7) / 8 = l.length / 8 + 1 := by omega
    rw [e]
theorem packN_snoc (l : List Bool) (b : Bool) : packN (l ++ [b]) = (packP l).set (l.length / 8) (byteAt (l ++ [b]) (l.length / 8)) := by
  apply List.ext_getElem?
  intro i
  have e : ((l ++ [b]).length + 7) / 8 = l.length / 8 + 1 := by simp; omega
  rw [List.getElem?_set]
  unfold packN packP
  rw [e]
  by_cases h : l.length / 8 = i
  · subst h; simp
  · rw [if_neg h]
    by_cases h2 : i < l.length / 8 + 1
    · simp only [List.getElem?_map, List.getElem?_range h2, Option.map_some]
      rw [byteAt_snoc_lt l b i (by omega)]
    · simp only [List.getElem?_map]
      rw [List.getElem?_eq_none (by simp; omega)]
      rfl
theorem packN_snoc_false (l : List Bool) : packN (l ++ [false]) = packP l := by
  rw [packN_snoc, byteAt_snoc_false]
  apply List.ext_getElem?
  intro i
  rw [List.getElem?_set]
  by_cases h : l.length / 8 = i
  · subst h; simp [packP]
  · rw [if_neg h]
theorem packP_get (l : List Bool) : (packP l)[l.length / 8]? = some (byteAt l (l.length / 8)) := by simp [packP]

/-! ### The walk's own spelling -/
theorem or_u8 (x y : Nat) (hx : x < 256) (hy : y < 256) : bits BinOp.or IntKind.u8 (x : Int) (y : Int) = ((x ||| y : Nat) : Int) := by
  have e : ∀ z : Nat, z < 256 → (BitVec.ofInt 8 (z : Int)).toNat = z := fun z hz => by
    rw [BitVec.ofInt_natCast, BitVec.toNat_ofNat]; exact Nat.mod_eq_of_lt (by omega)
  have hlt : x ||| y < 2 ^ 8 := Nat.or_lt_two_pow (by omega) (by omega)
  show IntKind.u8.wrap ((BitVec.ofInt 8 (x : Int) ||| BitVec.ofInt 8 (y : Int)).toNat : Int) = _
  rw [BitVec.toNat_or, e x hx, e y hy, IntKind.wrap_u8]
  omega
theorem and_one (x : Nat) (hx : x < 18446744073709551616) : bits BinOp.and IntKind.u64 (x : Int) 1 = ((x % 2 : Nat) : Int) := by
  have e : ∀ z : Nat, z < 18446744073709551616 → (BitVec.ofInt 64 (z : Int)).toNat = z := fun z hz => by
    rw [BitVec.ofInt_natCast, BitVec.toNat_ofNat]; exact Nat.mod_eq_of_lt (by omega)
  show IntKind.u64.wrap ((BitVec.ofInt 64 (x : Int) &&& BitVec.ofInt 64 ((1 : Nat) : Int)).toNat : Int) = _
  rw [BitVec.toNat_and, e x hx, e 1 (by omega), IntKind.wrap_u64, Nat.and_one_is_mod]
  omega
theorem bit_test (v i : Nat) (hv : v < 18446744073709551616) : (bits BinOp.and IntKind.u64 ((v : Int) / 2 ^ i) 1 == 1) = v.testBit i := by
  have e : ((v : Int) / 2 ^ i) = ((v / 2 ^ i : Nat) : Int) := by simp
  rw [e, and_one _ (Nat.lt_of_le_of_lt (Nat.div_le_self _ _) hv)]
  rw [Nat.testBit_eq_decide_div_mod_eq]
  rw [Bool.eq_iff_iff, beq_iff_eq, decide_eq_true_iff]
  omega
theorem or_bit (l : List Bool) : bits BinOp.or IntKind.u8 (byteAt l (l.length / 8) : Int) (128 / 2 ^ (l.length % 8)) = (byteAt (l ++ [true]) (l.length / 8) : Int) := by
  have e : ((128 : Int) / 2 ^ (l.length % 8)) = ((128 / 2 ^ (l.length % 8) : Nat) : Int) := by simp
  rw [e, or_u8 _ _ (byteAt_lt _ _) (Nat.lt_of_le_of_lt (Nat.div_le_self _ _) (by omega)), byteAt_snoc_true]
end Go.Proofs.YthgefobcohlegaaGreatDoor

namespace Go.Proofs.YthgefobcohlegaaGreatDoor
open Go.RowKit
set_option linter.unusedVariables false

def B8 (l : List UInt8) : ByteArray := ⟨l.toArray⟩
theorem B8_append (a b : List UInt8) : B8 a ++ B8 b = B8 (a ++ b) := ByteArray.mk_append_mk a b
theorem B8_size (l : List UInt8) : (B8 l).size = l.length := rfl
theorem B8_toList (l : List UInt8) : (B8 l).toList = l := ByteArray.toList_mk l
theorem B8_nil : B8 [] = ByteArray.empty := rfl
theorem B8_get (l : List UInt8) (i : Nat) (h : i < (B8 l).size) (u : UInt8) (hu : l[i]? = some u) : (B8 l)[i] = u := by
  have hl : i < l.length := h
  rw [List.getElem?_eq_getElem hl] at hu
  have : (B8 l)[i] = l[i] := by
    show (B8 l).data[i] = l[i]
    simp [B8]
  exact this.trans (Option.some.inj hu)
theorem B8_extract (l : List UInt8) (i j : Nat) : (B8 l).extract i j = B8 ((l.take j).drop i) := by
  apply ByteArray.ext
  simp [B8, ByteArray.data_extract, List.take_drop]
  rcases Nat.le_total i j with h | h
  · rw [Nat.add_sub_cancel' h]
  · rw [Nat.sub_eq_zero_of_le h, Nat.add_zero, List.drop_eq_nil_of_le (by simp; omega), List.drop_eq_nil_of_le (by simp; omega)]
theorem bitsN_succ (v k : Nat) : bitsN v (k + 1) = v.testBit k :: bitsN v k := by
  unfold bitsN
  rw [List.range_succ_eq_map, List.map_cons, List.map_map]
  congr 1
  apply List.map_congr_left
  intro j _
  simp only [Function.comp]
  congr 1
  omega
theorem testBit_q (v k : Nat) : (v.testBit k).toNat = v / 2 ^ k % 2 := Nat.toNat_testBit v k
/-- The bytes of a row of bits. -/
def bytesOf (xs : List Nat) : ByteArray := B8 (xs.map UInt8.ofNat)
theorem bytesOf_size (xs : List Nat) : (bytesOf xs).size = xs.length := by simp [bytesOf, B8_size]
theorem bytesOf_append (a b : List Nat) : bytesOf a ++ bytesOf b = bytesOf (a ++ b) := by simp [bytesOf, B8_append]
theorem bytesOf_get (xs : List Nat) (i : Nat) (h : i < (bytesOf xs).size) (x : Nat) (hx : xs[i]? = some x) (h8 : x < 256) : ((bytesOf xs)[i]).toNat = x := by
  have : (bytesOf xs)[i] = UInt8.ofNat x := B8_get _ i h _ (by rw [List.getElem?_map, hx]; rfl)
  have e : (UInt8.ofNat x).toNat = x := by simp; omega
  exact (congrArg UInt8.toNat this).trans e

/-- The number of the first k bits. -/
def pb (f : Nat → Bool) : Nat → Nat
  | 0 => 0
  | k + 1 => 2 * pb f k + (f k).toNat
/-- The number that bits tell, the highest first. -/
def valN (l : List Bool) : Nat := l.foldl (fun a b => 2 * a + b.toNat) 0
theorem valN_snoc (l : List Bool) (b : Bool) : valN (l ++ [b]) = 2 * valN l + b.toNat := by simp [valN, List.foldl_append]
theorem valN_lt (l : List Bool) : valN l < 2 ^ l.length := by
  induction l using snoc_ind with
  | h0 => simp [valN]
  | h1 l b ih => have := toNat_le b; rw [valN_snoc, List.length_append, List.length_singleton, Nat.pow_succ]; omega
/-- The bits of bytes. -/
def rbits (xs : List Nat) : List Bool := xs.flatMap fun x => bitsN x 8
theorem rbits_len (xs : List Nat) : (rbits xs).length = 8 * xs.length := by
  induction xs with
  | nil => rfl
  | cons x xs ih => simp only [rbits, List.flatMap_cons, List.length_append, bitsN_len, List.length_cons] at *; omega
theorem rbits_get (xs : List Nat) : ∀ (p x : Nat), xs[p / 8]? = some x → (rbits xs)[p]? = some (x.testBit (7 - p % 8)) := by
  induction xs with
  | nil => intro p x h; simp at h
  | cons y xs ih =>
    intro p x h
    have e : rbits (y :: xs) = bitsN y 8 ++ rbits xs := by simp [rbits]
    rw [e]
    rcases Nat.lt_or_ge p 8 with hp | hp
    · have h0 : p / 8 = 0 := by omega
      rw [h0] at h
      obtain rfl : y = x := by simpa using h
      rw [List.getElem?_append_left (by rw [bitsN_len]; exact hp), bitsN_get _ _ _ hp]
      congr 2; omega
    · have h0 : p / 8 = (p - 8) / 8 + 1 := by omega
      rw [h0, List.getElem?_cons_succ] at h
      rw [List.getElem?_append_right (by rw [bitsN_len]; exact hp), bitsN_len, ih _ _ h]
      congr 2; omega
end Go.Proofs.YthgefobcohlegaaGreatDoor
