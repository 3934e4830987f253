/- '[]byte(s)' by its equation: a new row of the string's bytes; one of them stored. -/
import Derived.Test.YtlpkmghhmpkddaaDoorReader
import Derived.Test.YtlpkmghhmpkddaaDoorCrc
import Derived.Lib.ConvBytes
namespace Go.Proofs.YtlpkmghhmpkddaaDoor
open Go.RowKit
set_option linter.unusedVariables false

theorem bytes_all (s : ByteArray) : ∃ xs : List Nat, s = bytesOf xs ∧ ∀ x ∈ xs, x < 256 := by
  refine ⟨s.data.toList.map UInt8.toNat, ?_, fun x hx => ?_⟩
  · obtain ⟨d⟩ := s
    have e : UInt8.ofNat ∘ UInt8.toNat = id := by funext x; simp
    simp [bytesOf, B8, e]
  · obtain ⟨u, _, rfl⟩ := List.mem_map.1 hx
    exact UInt8.toNat_lt u
theorem bits_xor_u8_nat (a b : Nat) (ha : a < 256) (hb : b < 256) : bits .xor .u8 (a : Int) (b : Int) = ((a ^^^ b : Nat) : Int) := by
  have e : ∀ z : Nat, z < 256 → (BitVec.ofInt 8 (z : Int)).toNat = z := fun z hz => by
    rw [BitVec.ofInt_natCast, BitVec.toNat_ofNat]; exact Nat.mod_eq_of_lt (by omega)
  have hlt : a ^^^ b < 256 := Nat.xor_lt_two_pow (n := 8) ha hb
  show IntKind.u8.wrap ((BitVec.ofInt 8 (a : Int) ^^^ BitVec.ofInt 8 (b : Int)).toNat : Int) = _
  rw [BitVec.toNat_xor, e a ha, e b hb]
  simp [IntKind.wrap, IntKind.bits, IntKind.signed]; omega
/-- A row whose cells are cs, some of them frozen. -/
def BlkF (w : World) (g : Nat) (t : TypeId) (cs : Array Value) (k : Nat × Nat) : Prop := w.heap[g]? = some (.cells cs t k)
theorem BlkF.cell {w : World} {g : Nat} {t : TypeId} {cs : Array Value} {k : Nat × Nat} (h : BlkF w g t cs k) (i : Nat) : w.cell? ⟨g, i, none⟩ = cs[i]? := cell_of_row w g i cs t k h
theorem BlkF.set_ {w : World} {g : Nat} {t : TypeId} {cs : Array Value} {k : Nat × Nat} (h : BlkF w g t cs k) (i : Nat) (u : Value) : BlkF (w.setCell ⟨g, i, none⟩ u) g t (cs.setIfInBounds i u) k := by
  unfold BlkF at h ⊢
  simp [World.setCell, Array.getElem?_modify, h]
theorem bytesW_below (w : World) (t : TypeId) (s : ByteArray) : Below w.heap.size w (Lib.bytesWorld w t s) := by
  refine ⟨?_, ?_, ?_, by rw [Lib.bytesWorld_size]; omega, fun k hk => Lib.bytesWorld_at_old w t s k hk⟩ <;>
    (unfold Lib.bytesWorld World.freeze; rw [if_neg (by decide)]; rfl)
theorem conv_str (zs : List Nat) (hz : ∀ x ∈ zs, x < 256) (w : World) :
    ∃ cap W, (convert 9 77 (.string (bytesOf zs))).run Tryd.prog w = .ok (.slice (some ⟨w.heap.size, 0, none⟩) zs.length cap) W ∧ Below w.heap.size w W ∧ W.heap.size = w.heap.size + 1 ∧
      Rd W (w.heap.size + 1) 1 (some ⟨w.heap.size, 0, none⟩) zs.length (zs.map fun x : Nat => Value.int .u8 (x : Int)) ∧ (∀ j, j < zs.length → W.frozen? ⟨w.heap.size, j, none⟩ = false) ∧
      ∀ (j y : Nat), Rd (W.setCell ⟨w.heap.size, j, none⟩ (.int .u8 ((y : Nat) : Int))) (w.heap.size + 1) 1 (some ⟨w.heap.size, 0, none⟩) zs.length ((zs.set j y).map fun x : Nat => Value.int .u8 (x : Int)) := by
  have hlen : zs.length = (bytesOf zs).size := (bytesOf_size zs).symm
  have hcell : ∀ (j x : Nat), zs[j]? = some x → (Lib.bytesCells w 5 (bytesOf zs))[j]? = some (Value.int .u8 (x : Int)) := by
    intro j x hx
    have hj : j < zs.length := (List.getElem?_eq_some_iff.1 hx).1
    have h := Lib.bytesWorld_cell w 5 (bytesOf zs) j (by omega)
    have hB : BlkF (Lib.bytesWorld w 5 (bytesOf zs)) w.heap.size 5 _ _ := Lib.bytesWorld_at_new w 5 (bytesOf zs)
    rw [hB.cell] at h
    rw [h]
    have e : (bytesOf zs).data.toList = zs.map UInt8.ofNat := rfl
    have hb := hz x (List.mem_of_getElem? hx)
    rw [e, List.getD_eq_getElem?_getD, List.getElem?_map, hx]
    show some (Value.int .u8 ((UInt8.ofNat x).toNat : Int)) = _
    rw [UInt8.toNat_ofNat', Nat.mod_eq_of_lt (by omega)]
  have hbig : zs.length ≤ (Lib.bytesCells w 5 (bytesOf zs)).size := by
    have h1 : (bytesOf zs).data.size = zs.length := bytesOf_size zs
    unfold Lib.bytesCells
    rw [Array.size_append, Array.size_map, h1]; omega
  refine ⟨_, Lib.bytesWorld w 5 (bytesOf zs), by rw [hlen]; exact Lib.run_convert_string_bytes w 9 77 5 (bytesOf zs) Tryd.underlying9 Tryd.underlying77 Tryd.underlying5, bytesW_below _ _ _, Lib.bytesWorld_size _ _ _, ?_, ?_, ?_⟩
  · refine ⟨by simp, fun _ => ⟨_, 0, rfl, Nat.lt_succ_self _, fun j u hu => ?_⟩⟩
    rw [Nat.zero_add]
    have hB : BlkF (Lib.bytesWorld w 5 (bytesOf zs)) w.heap.size 5 _ _ := Lib.bytesWorld_at_new w 5 (bytesOf zs)
    rw [hB.cell]
    rw [List.getElem?_map] at hu
    obtain ⟨x, hx, rfl⟩ := Option.map_eq_some_iff.1 hu
    exact hcell j x hx
  · intro j hj
    unfold World.frozen?
    rw [Lib.bytesWorld_at_new]
    simp only
    rw [Bool.and_eq_false_iff]
    left
    exact decide_eq_false (by omega)
  · intro j y
    refine ⟨by simp, fun _ => ⟨_, 0, rfl, Nat.lt_succ_self _, fun i u hu => ?_⟩⟩
    rw [Nat.zero_add]
    have hB : BlkF (Lib.bytesWorld w 5 (bytesOf zs)) w.heap.size 5 _ _ := Lib.bytesWorld_at_new w 5 (bytesOf zs)
    rw [(hB.set_ j _).cell]
    rw [List.getElem?_map] at hu
    obtain ⟨x, hx, rfl⟩ := Option.map_eq_some_iff.1 hu
    rw [Array.getElem?_setIfInBounds]
    rw [List.getElem?_set] at hx
    by_cases hij : j = i
    · rw [if_pos hij] at hx ⊢
      split at hx
      · rename_i hj
        injection hx with hx
        rw [if_pos (by omega), hx]
      · cases hx
    · rw [if_neg hij] at hx ⊢
      exact hcell i x hx
theorem u8_of_wf {n : Int} (h : (Lit.int .u8 n).wf = true) : 0 ≤ n ∧ n < 256 := by
  simp [Lit.wf, IntKind.min, IntKind.max, IntKind.bits, IntKind.signed] at h
  omega
end Go.Proofs.YtlpkmghhmpkddaaDoor
