/- tidegaugelaw2.blocked: the closed fact of a block of one point. -/
import Derived.Test.YtpbgonpmpjpljaaGreatDoorMkmX
import Derived.Test.YtpbgonpmpjpljaaGreatDoorBlkMakeQX
import Derived.Test.YtpbgonpmpjpljaaGreatDoorMknX
import Derived.Test.YtpbgonpmpjpljaaGreatDoorMkaX
import Derived.Test.YtpbgonpmpjpljaaGreatDoorMkfX
namespace Go.Proofs.YtpbgonpmpjpljaaGreatDoor
open Go.RowKit
set_option linter.unusedVariables false

/-- What block.Make and block.Check ask of the world. -/
structure BlkW (es : Nat → Addr) (B : Nat) (w : World) : Prop where
  s : SBk es B w
  t : TabAt w
  tb : 15 < B
  b0 : B ≤ w.heap.size
theorem BlkW.below {es : Nat → Addr} {B C : Nat} {w w' : World} (h : BlkW es B w) (hb : Below C w w') (hC : B ≤ C) : BlkW es B w' :=
  ⟨h.s.below hb hC, h.t.below hb (Nat.lt_of_lt_of_le h.tb hC), h.tb, Nat.le_trans h.b0 hb.size⟩
def oneRow (v : Value) : RowV := ⟨[110, 61, 97], [(3, 7)], v⟩
theorem one_make : makeR 0 10 [([110, 61, 97], [(3, 7)])] = ((0, -1), [([110, 61, 97], chunkL [(3, 7)])]) := by decide +kernel
theorem one_rows : rowsR 0 10 [[110, 61, 97]] [chunkL [(3, 7)]] = ((0, -1), [([110, 61, 97], [(3, 7)])]) := by decide +kernel
theorem one_len : (chunkL [(3, 7)]).length ≤ 100000 ∧ ∀ b ∈ chunkL [(3, 7)], b < 256 := by decide +kernel
set_option maxHeartbeats 4000000 in
set_option maxRecDepth 100000 in
theorem blocked_any {es : Nat → Addr} {B : Nat} (w : World) (hW : BlkW es B w) :
    Calls Tryz.prog 4 #[] w fun e w' => e = .returned (.bool true) ∧ Below w.heap.size w w' := by
  have HW := Lib.hid (fun W (hb : Below w.heap.size w W) => hW.below hb hW.b0)
  have hb1 : Below w.heap.size w (w.alloc (.cells #[.int .i64 3, .int .u64 7] 57)) := Below.alloc (Below.refl _ _) (Nat.le_refl _) _
  have hb2 : Below w.heap.size w ((w.alloc (.cells #[.int .i64 3, .int .u64 7] 57)).alloc (.cells #[.string (B8 [110, 61, 97]), .slice (some ⟨w.heap.size, 0, none⟩) 1 1] 59)) := Below.alloc hb1 hb1.size _
  have hr1 := rd_new2 w 57 (.int .i64 3) (.int .u64 7)
  have hr2 := rd_new2 (w.alloc (.cells #[.int .i64 3, .int .u64 7] 57)) 59 (.string (B8 [110, 61, 97])) (.slice (some ⟨w.heap.size, 0, none⟩) 1 1)
  have hrr : RowsRd ((w.alloc (.cells #[.int .i64 3, .int .u64 7] 57)).alloc (.cells #[.string (B8 [110, 61, 97]), .slice (some ⟨w.heap.size, 0, none⟩) 1 1] 59)) ((w.alloc (.cells #[.int .i64 3, .int .u64 7] 57)).alloc (.cells #[.string (B8 [110, 61, 97]), .slice (some ⟨w.heap.size, 0, none⟩) 1 1] 59)).heap.size (some ⟨w.heap.size + 1, 0, none⟩) 1 [oneRow (.slice (some ⟨w.heap.size, 0, none⟩) 1 1)] := by
    refine ⟨by rw [← World.size_alloc w (.cells #[.int .i64 3, .int .u64 7] 57)]; exact hr2, fun r hr => ?_⟩
    obtain rfl := List.mem_singleton.1 hr
    exact ⟨_, _, rfl, (hr1.alloc (Nat.le_refl _) _).more (by simp)⟩
  have Hmk := Lib.hid (make_any 0 10 (some ⟨w.heap.size + 1, 0, none⟩) 1 1 [oneRow (.slice (some ⟨w.heap.size, 0, none⟩) 1 1)] _ (hW.below hb2 hW.b0).s (hW.below hb2 hW.b0).t (hW.below hb2 hW.b0).b0 hrr (by decide) (fun r hr => by
    obtain rfl := List.mem_singleton.1 hr
    exact ⟨by show 3 ≤ 100000; decide, fun p hp => by obtain rfl : p = (3, 7) := List.mem_singleton.1 hp; decide⟩))
  rw [show [oneRow (.slice (some ⟨w.heap.size, 0, none⟩) 1 1)].map rowP2 = [([110, 61, 97], [(3, 7)])] from rfl, one_make] at Hmk
  have HB2 := Lib.hid hb2
  clear hW hb1 hb2 hr1 hr2 hrr
  go_enter Tryz.func4, Tryz.ntmps4
  go_wp2_with fail
  refine Hmk.out.mono ?_
  rintro e w3 ⟨v, f', s', u1, u2, rfl, hev, _, h0, hp, hb3⟩
  obtain ⟨rfl, rfl⟩ := h0 rfl
  obtain rfl := hev.zero rfl
  obtain ⟨A1, c1, rfl, _, _, hr1⟩ := own_form hp.l
  obtain ⟨A2, c2, rfl, _, _, hr2⟩ := own_form hp.r
  have HB3 := Lib.hid (Below.call HB2.out hb3 HB2.out.size)
  have hba : Below w.heap.size w (w3.alloc (.cells #[.int .i64 0, .int .i64 10, .slice A1 1 c1, .slice A2 1 c2] 37)) := Below.alloc HB3.out HB3.out.size _
  have Hck := Lib.hid (bcheck_any 0 10 A1 A2 1 c1 1 c2 [[110, 61, 97]] [chunkL [(3, 7)]] _ (HW.out _ hba).s (HW.out _ hba).t (HW.out _ hba).tb (HW.out _ hba).b0 ((hr1.alloc (Nat.le_refl _) _).more (by simp)) ((hr2.alloc (Nat.le_refl _) _).more (by simp)) (fun s hs => by obtain rfl := List.mem_singleton.1 hs; decide) (fun x hx => by obtain rfl := List.mem_singleton.1 hx; exact one_len))
  rw [one_rows] at Hck
  have HBa := Lib.hid hba
  have hk := Blk.new w3 37 #[.int .i64 0, .int .i64 10, .slice A1 1 c1, .slice A2 1 c2]
  have e0 := hk.cell 0; have e1 := hk.cell 1; have e2 := hk.cell 2; have e3 := hk.cell 3
  clear hev h0 hp hb3 hr1 hr2 hba hk
  simp only [List.length_singleton]
  go_wp2_with fail
  refine Hck.out.mono ?_
  rintro e w4 ⟨v, rfl, hev, hb4⟩
  obtain rfl := hev.zero rfl
  have HB4 := Lib.hid (Below.call HBa.out hb4 HBa.out.size)
  clear hev hb4
  go_wp2
  go_ret
  exact ⟨rfl, HB4.out⟩
end Go.Proofs.YtpbgonpmpjpljaaGreatDoor

namespace Go.Proofs.YtpbgonpmpjpljaaGreatDoor
open Go.RowKit
set_option linter.unusedVariables false

theorem faulted2_any {es : Nat → Addr} {B : Nat} (v : Value) (n t : Int) (c at_ : Int) (w : World) (hS : Sents es B w) (hB : B ≤ w.heap.size) (hv : ErrIs es w v n t) (hc : n = c) (ht : c = 0 ∨ t = at_) :
    Calls Tryz.prog 9 #[v, .agg #[.int .i64 c, .int .i64 at_]] w fun e w' => e = .returned (.bool true) ∧ Below w.heap.size w w' := by
  subst hc
  have hb1 : Below w.heap.size w (w.alloc (.cells #[.int .i64 n, .int .i64 at_] 29)) := by go_grown
  have hcd := code_any v n t _ (hS.below hb1 hB) (by simp; omega) (hv.below hb1 (Nat.le_refl _))
  have Hcd := Lib.hid hcd; have Hb1 := Lib.hid hb1
  have HK := Lib.hid (Blk.new w 29 #[.int .i64 n, .int .i64 at_])
  clear hcd hb1 hv hS
  by_cases h0 : n = 0
  · subst h0
    go_enter Tryz.func9, Tryz.ntmps9
    go_wp2_with fail
    refine Hcd.out.mono ?_
    rintro e w1 ⟨rfl, hb⟩
    have hk := HK.out.below hb (by simp)
    have z0 := hk.cell 0; have z1 := hk.cell 1
    simp only [List.getElem?_toArray, List.getElem?_cons_zero, List.getElem?_cons_succ] at z0 z1
    have Hb := Lib.hid (Below.call Hb1.out hb (by simp))
    clear hb hk
    go_wp2
    go_ret
    exact ⟨rfl, Hb.out⟩
  · obtain rfl : t = at_ := by omega
    have b0 : (n == 0) = false := by rw [beq_eq_false_iff_ne]; exact h0
    clear h0 ht
    go_enter Tryz.func9, Tryz.ntmps9
    go_wp2_with fail
    refine Hcd.out.mono ?_
    rintro e w1 ⟨rfl, hb⟩
    have hk := HK.out.below hb (by simp)
    have z0 := hk.cell 0; have z1 := hk.cell 1
    simp only [List.getElem?_toArray, List.getElem?_cons_zero, List.getElem?_cons_succ] at z0 z1
    have Hb := Lib.hid (Below.call Hb1.out hb (by simp))
    clear hb hk
    go_wp2
    go_ret
    exact ⟨rfl, Hb.out⟩
end Go.Proofs.YtpbgonpmpjpljaaGreatDoor
