/- What the walks over logs ask of the world; Itoa, Atoi, ParseUint by contracts; a log's record. -/
import Derived.Test.YtfkklcmepcocoaaGreatDoorWalN
import Derived.Test.YtfkklcmepcocoaaGreatDoorLabF
import Derived.Test.YtfkklcmepcocoaaGreatDoorHex16
import Derived.Test.YtfkklcmepcocoaaGreatDoorParse16
import Derived.Test.YtfkklcmepcocoaaGreatDoorNLays
import Derived.Sort.Grow
import Derived.Deep.RegionHeld3
namespace Go.Proofs.YtfkklcmepcocoaaGreatDoor
open Go.RowKit
set_option linter.unusedVariables false

structure WalW (es : Nat → Addr) (B : Nat) (w : World) : Prop where
  svl : SVL es B w
  off : w.cell? ⟨gErr 9, 0, none⟩ = some (sentV (es 9))
  offlt : gErr 9 < B
  tab : TabAt w
  tablt : 18 < B
  p10 : Lib.TabIs Tryz.prog w "internal/strconv.uint64pow10" .u64 Lib.pow10Tab
  p10lt : 15 < B
  esy : ∃ t p, w.cell? ⟨13, 0, none⟩ = some (.iface t p)
  esylt : 13 < B
  erg : ∃ t p, w.cell? ⟨14, 0, none⟩ = some (.iface t p)
  erglt : 14 < B
theorem e_p10 : Tryz.prog.globalNamed "internal/strconv.uint64pow10" = some 15 := by kernel_rfl
theorem tabIs_blk {w w' : World} {n : String} {g : Nat} {k : IntKind} {zs : List Int} (hg : Tryz.prog.globalNamed n = some g) (h : Lib.TabIs Tryz.prog w n k zs) (hb : w'.heap[g]? = w.heap[g]?) : Lib.TabIs Tryz.prog w' n k zs := by
  unfold Lib.TabIs World.var? at h ⊢
  rw [hg] at h ⊢
  simp only [Option.bind_some] at h ⊢
  rw [hb]
  exact h
theorem WalW.below {es : Nat → Addr} {B C : Nat} {w w' : World} (h : WalW es B w) (hb : Below C w w') (hC : B ≤ C) : WalW es B w' := by
  have kc : ∀ {g : Nat} {v : Value}, g < B → w.cell? ⟨g, 0, none⟩ = some v → w'.cell? ⟨g, 0, none⟩ = some v := fun hg hv => (hb.cell (p := ⟨_, 0, none⟩) (Nat.lt_of_lt_of_le hg hC)).trans hv
  refine ⟨h.svl.below hb hC, kc h.offlt h.off, h.offlt, h.tab.below hb (Nat.lt_of_lt_of_le h.tablt hC), h.tablt, tabIs_blk e_p10 h.p10 (hb.block _ (Nat.lt_of_lt_of_le h.p10lt hC)), h.p10lt, ?_, h.esylt, ?_, h.erglt⟩
  · obtain ⟨t, p, e⟩ := h.esy; exact ⟨t, p, kc h.esylt e⟩
  · obtain ⟨t, p, e⟩ := h.erg; exact ⟨t, p, kc h.erglt e⟩
theorem grow_below (w : World) (k : Nat) (os : Array Obj) : Below w.heap.size w (Sort.grow (w.drewN k) os) := by
  refine ⟨rfl, rfl, rfl, ?_, fun i hi => ?_⟩
  · show w.heap.size ≤ (w.heap ++ os).size
    rw [Array.size_append]; omega
  · show (w.heap ++ os)[i]? = w.heap[i]?
    exact Array.getElem?_append_left hi
theorem itoa_any {es : Nat → Addr} {B : Nat} (n : Int) (h : n.natAbs < 10 ^ 17) (w : World) (hW : WalW es B w) :
    Calls Tryz.prog 77 #[.int .i64 n] w fun e w' => e = .returned (.string (B8 (Lib.itoa n))) ∧ Below w.heap.size w w' := by
  refine (Tryz.strconv_Itoa n (by omega) (by omega) w hW.p10).mono ?_
  rintro e w' ⟨rfl, k, os, rfl⟩
  exact ⟨rfl, grow_below w k os⟩
/-- A number and no error, or an error. -/
def NumR (e : Ending) (k : IntKind) (P : Int → Prop) (ok : Option Int) : Prop :=
  ∃ v ev, e = .returned (.tuple #[.int k v, ev]) ∧ P v ∧ (∀ n, ok = some n → v = n ∧ ev = .nilIface) ∧ (ok = none → ∃ t p, ev = .iface t p)
theorem NumR.err {e : Ending} {k : IntKind} {P : Int → Prop} {ok : Option Int} {v : Int} {t : TypeId} {p : Value} (he : e = .returned (.tuple #[.int k v, .iface t p])) (hP : P v) (ho : ok = none) : NumR e k P ok :=
  ⟨v, _, he, hP, fun n hn => (by rw [ho] at hn; cases hn), fun _ => ⟨t, p, rfl⟩⟩
theorem NumR.good {e : Ending} {k : IntKind} {P : Int → Prop} {ok : Option Int} {v : Int} (he : e = .returned (.tuple #[.int k v, .nilIface])) (hP : P v) (ho : ok = some v) : NumR e k P ok :=
  ⟨v, _, he, hP, fun n hn => ⟨by rw [ho] at hn; exact Option.some.inj hn, rfl⟩, fun hn => (by rw [ho] at hn; cases hn)⟩
def i64B (v : Int) : Prop := -9223372036854775808 ≤ v ∧ v ≤ 9223372036854775807
def u64B (v : Int) : Prop := 0 ≤ v ∧ v < 18446744073709551616
def atoiO (s : List UInt8) : Option Int := match Lib.atoiAll s with | .ok v => some v | _ => none
def hexO (s : List UInt8) : Option Int := match (if s = [] then Lib.NumEnd.syntax else parseU16 0 s) with | .ok v => some (v : Int) | _ => none
theorem atoi_any {es : Nat → Addr} {B : Nat} (s : ByteArray) (hs : s.size ≤ 100000) (w : World) (hW : WalW es B w) :
    Calls Tryz.prog 100 #[.string s] w fun e w' => NumR e .i64 i64B (atoiO s.data.toList) ∧ Below w.heap.size w w' := by
  cases h : Lib.atoiAll s.data.toList
  case ok v =>
    refine (Tryz.strconv_Atoi_ok s (by omega) v h w).mono ?_
    rintro e w' ⟨rfl, hw⟩
    refine ⟨⟨v, .nilIface, rfl, Lib.atoiAll_bounds h, fun n hn => ?_, fun hn => ?_⟩, ?_⟩
    · unfold atoiO at hn; rw [h] at hn; injection hn with hn; exact ⟨hn, rfl⟩
    · unfold atoiO at hn; rw [h] at hn; cases hn
    · rcases hw with rfl | ⟨t, rfl⟩
      · exact Below.refl _ _
      · exact Lib.bytesWorld_below _ _ _
  case range =>
    obtain ⟨t, p, hv⟩ := hW.erg
    refine (Tryz.strconv_Atoi_range s (by omega) h _ w hv (.inr ⟨t, p, rfl⟩)).mono ?_
    rintro e w' ⟨N, rfl, _, _, hb⟩
    refine ⟨⟨_, _, rfl, Lib.atoiSat_bounds _, fun n hn => ?_, fun _ => ⟨_, _, rfl⟩⟩, hb⟩
    unfold atoiO at hn; rw [h] at hn; cases hn
  · skip
    obtain ⟨t, p, hv⟩ := hW.esy
    refine (Tryz.strconv_Atoi_syntax s (by omega) h _ w hv (.inr ⟨t, p, rfl⟩)).mono ?_
    rintro e w' ⟨N, rfl, _, _, hb⟩
    refine ⟨⟨0, _, rfl, ⟨by omega, by omega⟩, fun n hn => ?_, fun _ => ⟨_, _, rfl⟩⟩, hb⟩
    unfold atoiO at hn; rw [h] at hn; cases hn
set_option maxRecDepth 100000 in
theorem iparse16_any (s : ByteArray) (hs : s.size ≤ 100000) (w : World) :
    Calls Tryz.prog 148 #[.string s, .int .i64 16, .int .i64 64] w fun e w' => e = .returned (puT (if s.data.toList = [] then Lib.NumEnd.syntax else parseU16 0 s.data.toList)) ∧ Below w.heap.size w w' := by
  by_cases h0 : s.size = 0
  · have he : s.data.toList = [] := List.eq_nil_of_length_eq_zero (by rw [← Lib.size_eq]; exact h0)
    rw [if_pos he]
    have hs0 : s = ⟨#[]⟩ := by
      cases s with
      | mk d => congr 1; exact Array.toList_inj.1 he
    subst hs0
    go_enter Tryz.func148, Tryz.ntmps148
    go_wp2
    go_ret2
    exact ⟨rfl, Below.refl _ _⟩
  · have he : s.data.toList ≠ [] := fun e => h0 (by rw [Lib.size_eq, e]; rfl)
    rw [if_neg he]
    refine (iparse16_ne s h0 (by omega) w).mono ?_
    rintro e w' ⟨he, rfl⟩
    exact ⟨he, Lib.bytesWorld_below _ _ _⟩
theorem parseU16_lt : ∀ (l : List UInt8) (acc u : Nat), acc < 18446744073709551616 → parseU16 acc l = .ok u → u < 18446744073709551616
  | [], acc, u, ha, h => by injection h with h; omega
  | c :: l, acc, u, ha, h => by
    rw [parseU16_cons] at h
    cases hc : hexW c with
    | none => rw [hc] at h; cases h
    | some d =>
      rw [hc] at h
      dsimp only at h
      by_cases hcut : 1152921504606846976 ≤ acc
      · rw [if_pos hcut] at h; cases h
      · rw [if_neg hcut] at h
        have hd : d < 16 := by
          unfold hexW at hc
          split at hc
          · injection hc with hc; omega
          · split at hc
            · injection hc with hc; omega
            · cases hc
        exact parseU16_lt l _ u (by omega) h
set_option maxRecDepth 100000 in
theorem parse16_any {es : Nat → Addr} {B : Nat} (s : ByteArray) (hs : s.size ≤ 100000) (w : World) (hW : WalW es B w) (hB : B ≤ w.heap.size) :
    Calls Tryz.prog 101 #[.string s, .int .i64 16, .int .i64 64] w fun e w' => NumR e .u64 u64B (hexO s.data.toList) ∧ Below w.heap.size w w' := by
  have Hi := Lib.hid (iparse16_any s hs w)
  have HW := Lib.hid hW
  have Hlt := Lib.hid (fun u (h : (if s.data.toList = [] then Lib.NumEnd.syntax else parseU16 0 s.data.toList) = .ok u) => show u < 18446744073709551616 by
    by_cases he : s.data.toList = []
    · rw [if_pos he] at h; cases h
    · rw [if_neg he] at h; exact parseU16_lt _ 0 u (by omega) h)
  have Hx := Lib.hid (show hexO s.data.toList = match (if s.data.toList = [] then Lib.NumEnd.syntax else parseU16 0 s.data.toList) with | .ok v => some (v : Int) | _ => none from rfl)
  clear hW
  generalize (if s.data.toList = [] then Lib.NumEnd.syntax else parseU16 0 s.data.toList) = r at Hi Hlt Hx
  generalize hexO s.data.toList = o at Hx ⊢
  cases r
  case ok v =>
    have hv := Hlt.out v rfl
    go_enter Tryz.func101, Tryz.ntmps101
    go_wp2_with fail
    refine Hi.out.mono ?_
    rintro e w1 ⟨rfl, hb⟩
    have HB := Lib.hid hb
    clear hb Hi
    simp only [puT]
    go_wp2
    go_ret2
    exact ⟨NumR.good rfl ⟨by omega, by omega⟩ Hx.out, HB.out⟩
  case range =>
    go_enter Tryz.func101, Tryz.ntmps101
    go_wp2_with fail
    refine Hi.out.mono ?_
    rintro e w1 ⟨rfl, hb⟩
    have HB := Lib.hid hb
    obtain ⟨t, p, hv⟩ := (HW.out.below hb hB).erg
    have Hv := Lib.hid hv
    clear hb Hi hv
    simp only [puT]
    go_wp2_with fail
    refine (Tryz.strconv_toError_range ⟨#[80, 97, 114, 115, 101, 85, 105, 110, 116]⟩ s 16 64 _ _ (by omega) Hv.out (.inr ⟨t, p, rfl⟩)).mono ?_
    rintro e w2 ⟨N, rfl, _, _, hb⟩
    have HB2 := Lib.hid (Below.call HB.out hb HB.out.size)
    clear hb
    go_wp2
    go_ret2
    exact ⟨NumR.err rfl ⟨by omega, by omega⟩ Hx.out, HB2.out⟩
  · skip
    go_enter Tryz.func101, Tryz.ntmps101
    go_wp2_with fail
    refine Hi.out.mono ?_
    rintro e w1 ⟨rfl, hb⟩
    have HB := Lib.hid hb
    obtain ⟨t, p, hv⟩ := (HW.out.below hb hB).esy
    have Hv := Lib.hid hv
    clear hb Hi hv
    simp only [puT]
    go_wp2_with fail
    refine (Tryz.strconv_toError_syntax ⟨#[80, 97, 114, 115, 101, 85, 105, 110, 116]⟩ s 16 64 _ _ (by omega) Hv.out (.inr ⟨t, p, rfl⟩)).mono ?_
    rintro e w2 ⟨N, rfl, _, _, hb⟩
    have HB2 := Lib.hid (Below.call HB.out hb HB.out.size)
    clear hb
    go_wp2
    go_ret2
    exact ⟨NumR.err rfl ⟨by omega, by omega⟩ Hx.out, HB2.out⟩
end Go.Proofs.YtfkklcmepcocoaaGreatDoor
