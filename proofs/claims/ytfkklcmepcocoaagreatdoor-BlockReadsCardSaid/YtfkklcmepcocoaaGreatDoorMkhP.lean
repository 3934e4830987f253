/- Helpers of the blocks' laws: long, ownRows, asModel, SameTexts and SameBlock at blocks that read alike, block.Check. -/
import Derived.Test.YtfkklcmepcocoaaGreatDoorMkgP
import Derived.Test.YtfkklcmepcocoaaGreatDoorMkcP
namespace Go.Proofs.YtfkklcmepcocoaaGreatDoor
open Go.RowKit
set_option linter.unusedVariables false

def LongPost (n : Nat) (rows : List RowV) (w : World) (e : Ending) (w' : World) : Prop :=
  ∃ b, e = .returned (.bool b) ∧ (b = false → n ≤ 70 ∧ ∀ r ∈ rows, r.nm.length ≤ 200 ∧ r.pts.length ≤ 250) ∧ Below w.heap.size w w'
theorem LongPost.yes {n : Nat} {rows : List RowV} {w w' : World} (hb : Below w.heap.size w w') : LongPost n rows w (.returned (.bool true)) w' := ⟨true, rfl, fun h => (by cases h), hb⟩
theorem texts_eq (A : Option Addr) (n c : Nat) (A' : Option Addr) (c' : Nat) (l : List ByteArray) (w : World) (hA : Rd w w.heap.size 1 A n (l.map Value.string)) (hA' : Rd w w.heap.size 1 A' n (l.map Value.string)) (hn : n ≤ 100000) :
    Calls Tryz.prog 54 #[.slice A n c, .slice A' n c'] w fun e w' => e = .returned (.bool true) ∧ Below w.heap.size w w' := by
  have HA := Lib.hid hA; have HA' := Lib.hid hA'
  clear hA hA'
  go_enter Tryz.func54, Tryz.ntmps54
  go_wp2
  go_loopw [5] (fun i wr => ∃ k : Nat, k ≤ n ∧ i = .int .i64 k ∧ Below w.heap.size w wr) (fun i _ => n - (intOf i).toNat)
  case atStart => exact ⟨0, Nat.zero_le _, rfl, Below.refl _ _⟩
  case round =>
    obtain ⟨k, hk, rfl, hbel⟩ := hrel
    by_cases hkn : k < n
    · obtain ⟨b0, o0, y, hA0, had0, hy0, e0⟩ := HA.out.at1 hkn
      obtain ⟨b1, o1, z, hA1, had1, hz1, e1⟩ := HA'.out.at1 hkn
      obtain rfl : y = z := Option.some.inj (hy0.symm.trans hz1)
      subst hA0; subst hA1
      have e0' := (hbel.cell (p := ⟨b0, o0 + k, none⟩) had0).trans e0
      have e1' := (hbel.cell (p := ⟨b1, o1 + k, none⟩) had1).trans e1
      have Hbel := Lib.hid hbel
      clear hy0 hz1 e0 e1 hbel
      go_wp2
      go_quiet (fail)
      go_wp2
      go_roundw
      case rel => exact ⟨k + 1, by omega, by go_num, Below.drewN Hbel.out _⟩
      case measure => simp [intOf]; omega
    · obtain rfl : k = n := by omega
      have Hbel := Lib.hid hbel
      clear hbel
      go_wp2
      go_ret
      exact ⟨rfl, Hbel.out⟩
theorem res_am (tmps : Array Value) (W : World) (b : Nat) (v0 v1 v2 v3 : Value) (ha : tmps.getD 2 undef = .pointer (some ⟨b, 0, none⟩)) (hB : Blk W b 39 #[v0, v1, v2, v3]) :
    (results Tryz.f15 tmps).run Tryz.prog W = .ok (.agg #[v0, v1, v2, v3]) W := by
  have z0 := hB.cell 0; have z1 := hB.cell 1; have z2 := hB.cell 2; have z3 := hB.cell 3
  simp only [List.getElem?_toArray, List.getElem?_cons_zero, List.getElem?_cons_succ] at z0 z1 z2 z3
  simp only [Array.getD_eq_getD_getElem?] at ha
  simp [results, Tryz.results15, go_sem, ha, z0, z1, z2, z3]
set_option maxRecDepth 100000 in
theorem asModel_any (fr sp : Int) (A A' : Option Addr) (n c n' c' : Nat) (w : World) :
    Calls Tryz.prog 15 #[.agg #[.int .i64 fr, .int .i64 sp, .slice A n c, .slice A' n' c']] w fun e w' => e = .returned (.agg #[.int .i64 fr, .int .i64 sp, .slice A n c, .slice A' n' c']) ∧ Below w.heap.size w w' := by
  have hb1 : Below w.heap.size w (w.alloc (.cells #[.int .i64 fr, .int .i64 sp, .slice A n c, .slice A' n' c'] 27)) := Below.alloc (Below.refl _ _) (Nat.le_refl _) _
  have Hb := Lib.hid (Below.alloc hb1 hb1.size (.cells #[.int .i64 fr, .int .i64 sp, .slice A n c, .slice A' n' c'] 39))
  have hk := Blk.new (w.alloc (.cells #[.int .i64 fr, .int .i64 sp, .slice A n c, .slice A' n' c'] 27)) 39 #[.int .i64 fr, .int .i64 sp, .slice A n c, .slice A' n' c']
  rw [World.size_alloc] at hk
  have Hk := Lib.hid hk
  clear hb1 hk
  go_enter Tryz.func15, Tryz.ntmps15
  go_wp2
  refine bodyPost_ret (res_am _ _ (w.heap.size + 1) _ _ _ _ rfl Hk.out) rfl ?_
  exact ⟨rfl, Hb.out⟩
set_option maxRecDepth 100000 in
/-- Of two blocks that read alike. -/
theorem sameBlock_eq (fr sp : Int) (A1 A2 A3 A4 : Option Addr) (n c1 c2 m c3 c4 : Nat) (l1 l2 : List ByteArray) (w : World) (h1 : Rd w w.heap.size 1 A1 n (l1.map Value.string)) (h2 : Rd w w.heap.size 1 A2 m (l2.map Value.string)) (h3 : Rd w w.heap.size 1 A3 n (l1.map Value.string)) (h4 : Rd w w.heap.size 1 A4 m (l2.map Value.string)) (hn : n ≤ 100000) (hm : m ≤ 100000) :
    Calls Tryz.prog 14 #[.agg #[.int .i64 fr, .int .i64 sp, .slice A1 n c1, .slice A2 m c2], .agg #[.int .i64 fr, .int .i64 sp, .slice A3 n c3, .slice A4 m c4]] w fun e w' => e = .returned (.bool true) ∧ Below w.heap.size w w' := by
  have hb1 : Below w.heap.size w (w.alloc (.cells #[.int .i64 fr, .int .i64 sp, .slice A1 n c1, .slice A2 m c2] 39)) := Below.alloc (Below.refl _ _) (Nat.le_refl _) _
  have hb2 : Below w.heap.size w ((w.alloc (.cells #[.int .i64 fr, .int .i64 sp, .slice A1 n c1, .slice A2 m c2] 39)).alloc (.cells #[.int .i64 fr, .int .i64 sp, .slice A3 n c3, .slice A4 m c4] 39)) := Below.alloc hb1 hb1.size _
  have hk1 := (Blk.new w 39 #[.int .i64 fr, .int .i64 sp, .slice A1 n c1, .slice A2 m c2]).alloc (.cells #[.int .i64 fr, .int .i64 sp, .slice A3 n c3, .slice A4 m c4] 39)
  have hk2 := Blk.new (w.alloc (.cells #[.int .i64 fr, .int .i64 sp, .slice A1 n c1, .slice A2 m c2] 39)) 39 #[.int .i64 fr, .int .i64 sp, .slice A3 n c3, .slice A4 m c4]
  rw [World.size_alloc] at hk2
  have Ht1 := Lib.hid (fun W (hb : Below w.heap.size w W) => texts_eq A1 n c1 A3 c3 l1 W ((h1.below hb).more hb.size) ((h3.below hb).more hb.size) hn)
  have Ht2 := Lib.hid (fun W (hb : Below w.heap.size w W) => texts_eq A2 m c2 A4 c4 l2 W ((h2.below hb).more hb.size) ((h4.below hb).more hb.size) hm)
  have HB2 := Lib.hid hb2; have HK1 := Lib.hid hk1; have HK2 := Lib.hid hk2
  have e0 := hk1.cell 0; have e1 := hk1.cell 1; have e2 := hk1.cell 2; have e3 := hk1.cell 3
  have f0 := hk2.cell 0; have f1 := hk2.cell 1; have f2 := hk2.cell 2; have f3 := hk2.cell 3
  clear hb1 hb2 hk1 hk2 h1 h2 h3 h4
  go_enter Tryz.func14, Tryz.ntmps14
  go_wp2_with fail
  refine (Ht1.out _ HB2.out).mono ?_
  rintro e w3 ⟨rfl, hb⟩
  have HB3 := Lib.hid (Below.call HB2.out hb HB2.out.size)
  have g1 := HK1.out.below hb HK1.out.lt
  have g2 := HK2.out.below hb HK2.out.lt
  have e2 := g1.cell 2; have e3 := g1.cell 3; have f2 := g2.cell 2; have f3 := g2.cell 3
  clear g1 g2 hb
  go_wp2_with fail
  refine (Ht2.out _ HB3.out).mono ?_
  rintro e w4 ⟨rfl, hb⟩
  have HB4 := Lib.hid (Below.call HB3.out hb HB3.out.size)
  clear hb
  go_wp2
  go_ret
  exact ⟨rfl, HB4.out⟩
def ChkPost (es : Nat → Addr) (f : Nat × Int) (w : World) (e : Ending) (w' : World) : Prop := ∃ v, e = .returned v ∧ EV es w.heap.size w' v f ∧ Below w.heap.size w w'
set_option maxRecDepth 100000 in
theorem bcheck_any {es : Nat → Addr} {B : Nat} (fr sp : Int) (A A' : Option Addr) (n c n' c' : Nat) (ser : List Bs) (ch : List (List Nat)) (w : World) (hS : SBk es B w) (hT : TabAt w) (hTB : 18 < B) (hB0 : B ≤ w.heap.size)
    (hA : Rd w w.heap.size 1 A n (ser.map fun s => .string (B8 s))) (hC : Rd w w.heap.size 1 A' n' (ch.map fun x => .string (bytesOf x))) (hsl : ∀ s ∈ ser, s.length ≤ 100000) (hcl : ∀ x ∈ ch, x.length ≤ 100000 ∧ ∀ b ∈ x, b < 256) :
    Calls Tryz.prog 47 #[.agg #[.int .i64 fr, .int .i64 sp, .slice A n c, .slice A' n' c']] w fun e w' => ChkPost es (rowsR fr sp ser ch).1 w e w' := by
  have hb1 : Below w.heap.size w (w.alloc (.cells #[.int .i64 fr, .int .i64 sp, .slice A n c, .slice A' n' c'] 27)) := Below.alloc (Below.refl _ _) (Nat.le_refl _) _
  have Hrw := Lib.hid (rows_any fr sp A A' n c n' c' ser ch _ (hS.below hb1 hB0) (hT.call hb1 (Nat.le_refl _)) hTB (Nat.le_trans hB0 hb1.size) ((hA.below hb1).more hb1.size) ((hC.below hb1).more hb1.size) hsl hcl)
  have HB1 := Lib.hid hb1
  clear hS hT hTB hB0 hA hC hsl hcl hb1
  generalize rowsR fr sp ser ch = R at Hrw ⊢
  go_enter Tryz.func47, Tryz.ntmps47
  go_wp2_with fail
  refine Hrw.out.mono ?_
  rintro e w2 ⟨v, u, ls, rfl, hev, hown, hro, hmap, hu, hb2⟩
  have HB2 := Lib.hid (Below.call HB1.out hb2 HB1.out.size)
  have HE2 := Lib.hid (hev.base HB1.out.size)
  clear hev hown hro hmap hu hb2
  go_wp2
  go_ret
  exact ⟨_, rfl, HE2.out, HB2.out⟩
end Go.Proofs.YtfkklcmepcocoaaGreatDoor

namespace Go.Proofs.YtfkklcmepcocoaaGreatDoor
open Go.RowKit
set_option linter.unusedVariables false

end Go.Proofs.YtfkklcmepcocoaaGreatDoor
