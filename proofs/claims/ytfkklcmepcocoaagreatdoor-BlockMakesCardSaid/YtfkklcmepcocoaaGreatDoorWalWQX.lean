/- What the walks over logs ask of the world; Itoa, Atoi, ParseUint by contracts; a log's record. -/
import Derived.Test.YtfkklcmepcocoaaGreatDoorMkjX
import Derived.Test.YtfkklcmepcocoaaGreatDoorMkeX
import Derived.Test.YtfkklcmepcocoaaGreatDoorHex16QX
import Derived.Test.YtfkklcmepcocoaaGreatDoorParse16QX
import Derived.Test.YtfkklcmepcocoaaGreatDoorNLaysX
import Derived.Sort.Grow
import Derived.Deep.RegionHeld3
namespace Go.Proofs.YtfkklcmepcocoaaGreatDoor
open Go.RowKit
set_option linter.unusedVariables false

structure WalW (es : Nat → Addr) (B : Nat) (w : World) : Prop where
  svl : SVL es B w
  off : w.cell? ⟨gErr 9, 0, none⟩ = some (sentV (es 9))
  offlt : gErr 9 < B
  tab : TabAt w
  tablt : 18 < B
  p10 : Lib.TabIs Tryz.prog w "internal/strconv.uint64pow10" .u64 Lib.pow10Tab
  p10lt : 15 < B
  esy : ∃ t p, w.cell? ⟨13, 0, none⟩ = some (.iface t p)
  esylt : 13 < B
  erg : ∃ t p, w.cell? ⟨14, 0, none⟩ = some (.iface t p)
  erglt : 14 < B
theorem e_p10 : Tryz.prog.globalNamed "internal/strconv.uint64pow10" = some 15 := by kernel_rfl
theorem tabIs_blk {w w' : World} {n : String} {g : Nat} {k : IntKind} {zs : List Int} (hg : Tryz.prog.globalNamed n = some g) (h : Lib.TabIs Tryz.prog w n k zs) (hb : w'.heap[g]? = w.heap[g]?) : Lib.TabIs Tryz.prog w' n k zs := by
  unfold Lib.TabIs World.var? at h ⊢
  rw [hg] at h ⊢
  simp only [Option.bind_some] at h ⊢
  rw [hb]
  exact h
theorem WalW.below {es : Nat → Addr} {B C : Nat} {w w' : World} (h : WalW es B w) (hb : Below C w w') (hC : B ≤ C) : WalW es B w' := by
  have kc : ∀ {g : Nat} {v : Value}, g < B → w.cell? ⟨g, 0, none⟩ = some v → w'.cell? ⟨g, 0, none⟩ = some v := fun hg hv => (hb.cell (p := ⟨_, 0, none⟩) (Nat.lt_of_lt_of_le hg hC)).trans hv
  refine ⟨h.svl.below hb hC, kc h.offlt h.off, h.offlt, h.tab.below hb (Nat.lt_of_lt_of_le h.tablt hC), h.tablt, tabIs_blk e_p10 h.p10 (hb.block _ (Nat.lt_of_lt_of_le h.p10lt hC)), h.p10lt, ?_, h.esylt, ?_, h.erglt⟩
  · obtain ⟨t, p, e⟩ := h.esy; exact ⟨t, p, kc h.esylt e⟩
  · obtain ⟨t, p, e⟩ := h.erg; exact ⟨t, p, kc h.erglt e⟩
theorem grow_below (w : World) (k : Nat) (os : Array Obj) : Below w.heap.size w (Sort.grow (w.drewN k) os) := by
  refine ⟨rfl, rfl, rfl, ?_, fun i hi => ?_⟩
  · show w.heap.size ≤ (w.heap ++ os).size
    rw [Array.size_append]; omega
  · show (w.heap ++ os)[i]? = w.heap[i]?
    exact Array.getElem?_append_left hi
/-- A number and no error, or an error. -/
def NumR (e : Ending) (k : IntKind) (P : Int → Prop) (ok : Option Int) : Prop :=
  ∃ v ev, e = .returned (.tuple #[.int k v, ev]) ∧ P v ∧ (∀ n, ok = some n → v = n ∧ ev = .nilIface) ∧ (ok = none → ∃ t p, ev = .iface t p)
theorem NumR.err {e : Ending} {k : IntKind} {P : Int → Prop} {ok : Option Int} {v : Int} {t : TypeId} {p : Value} (he : e = .returned (.tuple #[.int k v, .iface t p])) (hP : P v) (ho : ok = none) : NumR e k P ok :=
  ⟨v, _, he, hP, fun n hn => (by rw [ho] at hn; cases hn), fun _ => ⟨t, p, rfl⟩⟩
def i64B (v : Int) : Prop := -9223372036854775808 ≤ v ∧ v ≤ 9223372036854775807
def atoiO (s : List UInt8) : Option Int := match Lib.atoiAll s with | .ok v => some v | _ => none
theorem atoi_any {es : Nat → Addr} {B : Nat} (s : ByteArray) (hs : s.size ≤ 100000) (w : World) (hW : WalW es B w) :
    Calls Tryz.prog 100 #[.string s] w fun e w' => NumR e .i64 i64B (atoiO s.data.toList) ∧ Below w.heap.size w w' := by
  cases h : Lib.atoiAll s.data.toList
  case ok v =>
    refine (Tryz.strconv_Atoi_ok s (by omega) v h w).mono ?_
    rintro e w' ⟨rfl, hw⟩
    refine ⟨⟨v, .nilIface, rfl, Lib.atoiAll_bounds h, fun n hn => ?_, fun hn => ?_⟩, ?_⟩
    · unfold atoiO at hn; rw [h] at hn; injection hn with hn; exact ⟨hn, rfl⟩
    · unfold atoiO at hn; rw [h] at hn; cases hn
    · rcases hw with rfl | ⟨t, rfl⟩
      · exact Below.refl _ _
      · exact Lib.bytesWorld_below _ _ _
  case range =>
    obtain ⟨t, p, hv⟩ := hW.erg
    refine (Tryz.strconv_Atoi_range s (by omega) h _ w hv (.inr ⟨t, p, rfl⟩)).mono ?_
    rintro e w' ⟨N, rfl, _, _, hb⟩
    refine ⟨⟨_, _, rfl, Lib.atoiSat_bounds _, fun n hn => ?_, fun _ => ⟨_, _, rfl⟩⟩, hb⟩
    unfold atoiO at hn; rw [h] at hn; cases hn
  · skip
    obtain ⟨t, p, hv⟩ := hW.esy
    refine (Tryz.strconv_Atoi_syntax s (by omega) h _ w hv (.inr ⟨t, p, rfl⟩)).mono ?_
    rintro e w' ⟨N, rfl, _, _, hb⟩
    refine ⟨⟨0, _, rfl, ⟨by omega, by omega⟩, fun n hn => ?_, fun _ => ⟨_, _, rfl⟩⟩, hb⟩
    unfold atoiO at hn; rw [h] at hn; cases hn
end Go.Proofs.YtfkklcmepcocoaaGreatDoor
