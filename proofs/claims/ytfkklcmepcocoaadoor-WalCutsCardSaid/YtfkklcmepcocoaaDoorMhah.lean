/- tidegaugelaw2.logged: the closed fact of one record. -/
import Derived.Test.YtfkklcmepcocoaaDoorDiskRecQ
import Derived.Test.YtfkklcmepcocoaaDoorWalCutsNQ
import Derived.Test.YtfkklcmepcocoaaDoorRRecQ
import Derived.Test.YtfkklcmepcocoaaDoorWalRdQ
namespace Go.Proofs.YtfkklcmepcocoaaDoor
open Go.RowKit
set_option linter.unusedVariables false

/-- The record of the closed fact. -/
def naE : En := ⟨[110, 61, 97], 3, 7⟩
theorem na_rd : rdF naE.nm = (0, -1) := by decide +kernel
theorem na_ok : EnOk naE := ⟨by rw [na_rd], by decide, by decide⟩
theorem na_ap : apF ⟨[], false, -1⟩ naE = (0, -1) ∧ apD ⟨[], false, -1⟩ naE = ⟨recL naE, false, -1⟩ := by
  have h2 := recL_le na_ok
  have hw := wrD_all (d := ⟨[], false, -1⟩) rfl (s := recL naE) (fun hh => absurd hh.1 (show ¬ (0 : Int) ≤ -1 by decide))
  have h4 := apF_4 (d := ⟨[], false, -1⟩) na_ok.1 na_ok.2.1 (by show ¬ 65536 < 0 + _; omega)
  rw [hw] at h4
  exact h4
/-- One entry as cells. -/
theorem en_cells {W : World} {base : Nat} {u : Value} {e : En} (h : W.ownsRow base 36 3 u 1 (enC [e])) : ∃ b c, u = .slice (some ⟨b, 0, none⟩) 1 c ∧ W.cell? ⟨b, 0, none⟩ = some (.string (B8 e.nm)) ∧ W.cell? ⟨b, 1, none⟩ = some (.int .i64 e.tick) ∧ W.cell? ⟨b, 2, none⟩ = some (.int .u64 (e.bit : Int)) := by
  obtain ⟨b, c, rfl, _, _⟩ := own_some h (by decide)
  have hc := h.cells (g := b) rfl
  have h0 := hc 0 _ rfl
  have h1 := hc 1 _ rfl
  have h2 := hc 2 _ rfl
  rw [add_at] at h0 h1 h2
  exact ⟨b, c, rfl, h0, h1, h2⟩
set_option maxHeartbeats 4000000 in
set_option maxRecDepth 100000 in
theorem logged_any {es : Nat → Addr} {B : Nat} (w : World) (hW : WalW es B w) (hB : B ≤ w.heap.size) :
    Calls Tryd.prog 5 #[] w fun e w' => e = .returned (.bool true) ∧ Below w.heap.size w w' := by
  have HW := Lib.hid (fun W (hb : Below w.heap.size w W) => hW.below hb hB)
  have HB := Lib.hid hB
  clear hW hB
  go_enter Tryd.func5, Tryd.ntmps5
  go_wp2_with fail
  refine (dnew_any [] (by decide) w).mono ?_
  rintro e w1 ⟨q, v, rfl, hD, hlo, hb⟩
  have HB1 := Lib.hid hb
  have HD := Lib.hid hD; have Hlo := Lib.hid hlo
  have Hap := Lib.hid (dappend_any naE w1 ((HW.out _ hb).below (Below.refl _ _) (Nat.le_trans HB.out hb.size)) (Nat.le_trans HB.out hb.size) hD (fun k hk => Nat.le_trans HB.out (hlo k hk)) (by decide) (by decide) (by decide))
  clear hD hlo hb
  go_wp2_with fail
  refine Hap.out.mono ?_
  rintro e w2 ⟨ev, rfl, hev, v2, hst⟩
  rw [na_ap.1] at hev
  rw [na_ap.2] at hst
  obtain rfl := hev.zero rfl
  have HS2 := Lib.hid hst
  have HB2 := Lib.hid (HB1.out.trans (hst.below Hlo.out HB1.out.size))
  have Hrc := Lib.hid (drecover_any w2 (HW.out _ HB2.out) (Nat.le_trans HB.out HB2.out.size) hst.at_ (fun k hk => Nat.le_trans HB.out (hst.lo Hlo.out HB1.out.size k hk)) (Nat.le_trans (recL_le na_ok) (by decide)))
  clear hev hst
  go_wp2_with fail
  refine Hrc.out.mono ?_
  rintro e w3 ⟨l, k, u, v3, rfl, hir, hown, hst⟩
  have hra := read_all (l := [naE]) (fun e he => by rw [List.mem_singleton.1 he]; exact na_ok) (by rw [List.flatMap_singleton]; exact hir)
  obtain ⟨rfl, hk⟩ := hra
  rw [List.flatMap_singleton] at hk
  have htk : (recL naE).take k = recL naE := by rw [hk, List.take_length]
  rw [htk] at hst
  obtain ⟨b, c, rfl, c0, c1, c2⟩ := en_cells hown
  have HS3 := Lib.hid hst
  have HB3 := Lib.hid (HB2.out.trans (hst.below (HS2.out.lo Hlo.out HB1.out.size) HB2.out.size))
  have Hby := Lib.hid (dbytes_any w3 hst.at_)
  have Hre := Lib.hid (fun W => rrecord_any naE.nm naE.tick naE.bit (by decide) (by decide) (by decide) W)
  have e1 : B8 naE.nm = ⟨#[110, 61, 97]⟩ := rfl
  have e2 : naE.tick = 3 := rfl
  have e3 : ((naE.bit : Nat) : Int) = 7 := rfl
  have e4 : recL ⟨naE.nm, naE.tick, naE.bit⟩ = recL naE := rfl
  rw [e1, e2, e3, ← e2, e4, e2] at Hre
  rw [e2] at c1
  clear hir hown hst hk htk c0 c2 e1 e2 e3 e4
  generalize B8 (recL naE) = sr at Hby Hre
  go_wp2_with fail
  refine Hby.out.mono ?_
  rintro e w4 ⟨rfl, rfl⟩
  go_wp2_with fail
  refine (Hre.out _).mono ?_
  rintro e w5 ⟨rfl, hb⟩
  have HB5 := Lib.hid (Below.call HB3.out hb HB3.out.size)
  clear hb
  go_wp2
  go_ret
  exact ⟨rfl, HB5.out⟩
end Go.Proofs.YtfkklcmepcocoaaDoor

namespace Go.Proofs.YtfkklcmepcocoaaDoor
open Go.RowKit
set_option linter.unusedVariables false
theorem en_at {W : World} {B n : Nat} {A : Option Addr} {l : List En} (h : Rd W B 3 A n (enC l)) {k : Nat} (hk : k < n) :
    ∃ b o e, A = some ⟨b, o, none⟩ ∧ b < B ∧ l[k]? = some e ∧ W.cell? ⟨b, o + k * 3, none⟩ = some (.string (B8 e.nm)) ∧ W.cell? ⟨b, o + k * 3 + 1, none⟩ = some (.int .i64 e.tick) ∧ W.cell? ⟨b, o + k * 3 + 2, none⟩ = some (.int .u64 (e.bit : Int)) := by
  obtain ⟨b, o, e, hb, hc⟩ := h.2 (by omega)
  have hl : k < l.length := by
    have := h.1
    unfold enC at this
    rw [flat_len enL 3 (fun _ => rfl)] at this; omega
  have hy : l[k]? = some l[k] := List.getElem?_eq_getElem hl
  have hg : ∀ j, j < 3 → (enC l)[k * 3 + j]? = (enL l[k])[j]? := fun j hj => flat_get enL 3 (fun _ => rfl) l k j l[k] hy hj
  refine ⟨b, o, l[k], e, hb, hy, hc (k * 3) _ (hg 0 (by decide)), ?_, ?_⟩
  · rw [Nat.add_assoc]; exact hc (k * 3 + 1) _ (hg 1 (by decide))
  · rw [Nat.add_assoc]; exact hc (k * 3 + 2) _ (hg 2 (by decide))
end Go.Proofs.YtfkklcmepcocoaaDoor
