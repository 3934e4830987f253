/- The first tick of a store's head. -/
import Derived.Test.YthgefobcohlegaaGreatDoorMkuX
import Derived.Test.YthgefobcohlegaaGreatDoorMkvX
import Derived.Test.YthgefobcohlegaaGreatDoorMkkX
import Derived.Test.YthgefobcohlegaaGreatDoorMkhX
import Derived.Test.YthgefobcohlegaaGreatDoorMkbX
import Derived.Test.YthgefobcohlegaaGreatDoorMkeX
import Derived.Test.YthgefobcohlegaaGreatDoorNLaysX
import Derived.Test.YthgefobcohlegaaGreatDoorBaseX
import Derived.Test.YthgefobcohlegaaGreatDoorChecked
import Derived.Lib.Strings
import Derived.Lib.Walk
import Derived.Lib.ConvBytes
import Derived.Lib.AtoiAllMem
import Derived.Laws.Strings3
import Derived.Laws.Closers25
import Derived.Laws.Closers25b
import Derived.Lib.AtoiErrMem
import Derived.Lib.ParseIntBMem
import Derived.BigCall
import Derived.BigGuard
import Derived.Test.YthgefobcohlegaaGreatDoorMkiX
import Derived.Test.YthgefobcohlegaaGreatDoorMkgX
import Derived.Sort.Grow
import Derived.Deep.RegionHeld3
namespace Go.Proofs.YthgefobcohlegaaGreatDoor
open Go.RowKit Go.Maps
set_option linter.unusedVariables false

/-- The lines that have points. -/
def lnsOf (L : List HLn) : List HLn := L.filter fun x => decide (x.pts ≠ [])
theorem lnsOf_mem {L : List HLn} {x : HLn} (h : x ∈ lnsOf L) : x ∈ L ∧ x.pts ≠ [] := by
  obtain ⟨h1, h2⟩ := List.mem_filter.1 h
  exact ⟨h1, by simpa using h2⟩
theorem lnsOf_len (L : List HLn) : (lnsOf L).length ≤ L.length := List.length_filter_le _ _
theorem hSer_lns (L : List HLn) : hSer L = (lnsOf L).map (·.nm) := rfl
/-- What a head bears that a store may walk through. -/
structure HdOk (L : List HLn) : Prop where
  n60 : L.length ≤ 60
  nm : ∀ x ∈ L, x.nm.length ≤ 200
  pts : ∀ x ∈ L, x.pts.length ≤ 9000
  tk : ∀ x ∈ L, ∀ p ∈ x.pts, 0 ≤ p.1 ∧ p.1 ≤ 1099511627776
theorem HdOk.bet {L : List HLn} (h : HdOk L) {x : HLn} (hx : x ∈ L) : betL 0 1099511627776 x.pts = x.pts := betL_id (h.tk x hx)
theorem HeadAt.pts_of {w : World} {F : Nat → Prop} {hb mb : Nat} {D : DataW Unit} {L : List HLn} (h : HeadAt w F hb mb D L) {x : HLn} (hx : x ∈ L) (f t : Int) : hPoints (absL L) x.nm f t = betL f t x.pts := by
  unfold hPoints
  rw [hFind_of_mem h.srt (List.mem_map.2 ⟨x, hx, rfl⟩ : (x.nm, x.pts, x.last) ∈ absL L)]
/-- The first point's tick. -/
def tk0 (x : HLn) : Int := match x.pts with
  | [] => 0
  | p :: _ => p.1
theorem tk0_at {x : HLn} {z : Int × Int} (h : x.pts[0]? = some z) : tk0 x = z.1 := by
  unfold tk0
  cases hp : x.pts with
  | nil => rw [hp] at h; cases h
  | cons p l => rw [hp] at h; obtain rfl := Option.some.inj h; rfl
theorem firstH_lns (L : List HLn) : firstH (absL L) = leastL ((lnsOf L).map tk0) := by
  unfold firstH absL lnsOf
  congr 1
  induction L with
  | nil => rfl
  | cons x L ih =>
    rw [List.map_cons, List.filterMap_cons, List.filter_cons]
    cases hp : x.pts with
    | nil => simpa [hp] using ih
    | cons p l =>
      simp only [List.head?_cons, Option.map_some]
      rw [ih]
      simp [tk0, hp]
def minO : Option Int → Int → Int
  | none, a => a
  | some b, a => if a < b then a else b
theorem leastL_snoc : ∀ (l : List Int) (a : Int), leastL (l ++ [a]) = some (minO (leastL l) a)
  | [], a => rfl
  | c :: l, a => by
    rw [List.cons_append]
    unfold leastL
    rw [leastL_snoc l a]
    cases leastL l with
    | none =>
      show some (if c ≤ a then c else a) = some (if a < c then a else c)
      congr 1
      by_cases h1 : c ≤ a
      · rw [if_pos h1, if_neg (by omega)]
      · rw [if_neg h1, if_pos (by omega)]
    | some b =>
      show some (if c ≤ (if a < b then a else b) then c else (if a < b then a else b)) = some (if a < (if c ≤ b then c else b) then a else (if c ≤ b then c else b))
      congr 1
      by_cases h1 : a < b
      · rw [if_pos h1]
        by_cases h2 : c ≤ a
        · rw [if_pos h2, if_pos (by omega : c ≤ b), if_neg (by omega)]
        · rw [if_neg h2]
          by_cases h3 : c ≤ b
          · rw [if_pos h3, if_pos (by omega)]
          · rw [if_neg h3, if_pos h1]
      · rw [if_neg h1]
        by_cases h3 : c ≤ b
        · rw [if_pos h3, if_neg (by omega)]
        · rw [if_neg h3, if_neg h1]
set_option maxRecDepth 100000 in
set_option maxHeartbeats 4000000 in
theorem sfirst_any {q hb mb : Nat} {D : DataW Unit} {L : List HLn} {dq : Nat} {dv bv : Value} {Bl : List BkV} {S : StM} (w : World) (h : StAt w q hb mb D L dq dv bv Bl S) (hO : HdOk L) :
    Calls Tryz.prog 62 #[.pointer (some ⟨q, 0, none⟩)] w fun e w' => e = .returned (.tuple #[.int .i64 ((firstH S.A).getD 0), .bool (firstH S.A).isSome]) ∧ Below w.heap.size w w' := by
  rw [← h.ab, firstH_lns]
  have z0 : w.cell? ⟨q, 0, none⟩ = some (.pointer (some ⟨hb, 0, none⟩)) := h.hd.cell 0
  have Hser := Lib.hid (hseries_any w h.he (by have := hO.n60; omega) (fun x hx => Nat.le_trans (hO.nm x hx) (by decide)))
  rw [hSer_lns] at Hser
  have HH := Lib.hid (fun W (hb : Below w.heap.size w W) => h.below hb)
  have HO := Lib.hid hO
  have hlen : (lnsOf L).length ≤ 60 := Nat.le_trans (lnsOf_len L) hO.n60
  have Hmem := Lib.hid (fun x (hx : x ∈ lnsOf L) => lnsOf_mem hx)
  clear h hO
  obtain ⟨N, hN⟩ : ∃ N, N = lnsOf L := ⟨_, rfl⟩
  rw [← hN] at Hser hlen Hmem ⊢
  clear hN
  obtain ⟨n, hn⟩ : ∃ n, n = N.length := ⟨_, rfl⟩
  rw [List.length_map, ← hn] at Hser
  rw [← hn] at hlen
  have Hn := Lib.hid hn
  clear hn
  go_enter Tryz.func62, Tryz.ntmps62
  go_wp2_with fail
  refine Hser.out.mono ?_
  rintro e w1 ⟨v1, rfl, hown, hb1⟩
  obtain ⟨A1, c1, rfl, _, _, hr1⟩ := own_form hown
  have HR1 := Lib.hid (fun W (hb : Below w1.heap.size w1 W) (k : Nat) (hk : k < n) => (show Rd W w1.heap.size 1 A1 n (N.map fun x : HLn => Value.string (B8 x.nm)) from by
    have e : txC (N.map (·.nm)) = N.map fun x : HLn => Value.string (B8 x.nm) := by unfold txC; rw [List.map_map]; rfl
    rw [← e]; exact hr1.below hb).at1 hk)
  have HB1 := Lib.hid hb1
  clear hown hb1 hr1 z0
  go_wp2
  go_loopw [4, 5, 15] (fun lv sv iv wr => ∃ (k : Nat), k ≤ n ∧ iv = .int .i64 k ∧ lv = .int .i64 ((leastL ((N.take k).map tk0)).getD 0) ∧ sv = .bool (leastL ((N.take k).map tk0)).isSome ∧ Below w1.heap.size w1 wr) (fun _ _ iv _ => n - (intOf iv).toNat)
  case atStart => exact ⟨0, Nat.zero_le _, rfl, rfl, rfl, Below.refl _ _⟩
  case round =>
    obtain ⟨k, hk, rfl, rfl, rfl, hbr⟩ := hrel
    have HBr := Lib.hid hbr
    have HBw := Lib.hid (Below.call HB1.out hbr HB1.out.size)
    by_cases hkn : k < n
    · obtain ⟨bb, off, x, hAe, had, hx, e0⟩ := HR1.out _ hbr k hkn
      subst hAe
      obtain ⟨hxL, hxp⟩ := Hmem.out x (List.mem_of_getElem? hx)
      have hSt := HH.out _ HBw.out
      have z0 : wr.cell? ⟨q, 0, none⟩ = some (.pointer (some ⟨hb, 0, none⟩)) := hSt.hd.cell 0
      have Hpt := Lib.hid (hpoints_any x.nm 0 1099511627776 wr (Nat.le_trans (HO.out.nm x hxL) (by decide)) hSt.he (fun y hy => Nat.le_trans (HO.out.pts y hy) (by decide)))
      rw [hSt.he.pts_of hxL, HO.out.bet hxL] at Hpt
      have Hst := Lib.hid (show (N.take (k + 1)).map tk0 = (N.take k).map tk0 ++ [tk0 x] by rw [take_snoc hx, List.map_append]; rfl)
      have h0 : 0 < x.pts.length := List.length_pos_iff.2 hxp
      have h9 := HO.out.pts x hxL
      clear hbr hx hxL hxp hSt
      generalize B8 x.nm = sn at e0 Hpt
      go_wp2_with fail
      refine Hpt.out.mono ?_
      rintro e w2 ⟨v2, rfl, hown2, hb2⟩
      obtain ⟨A2, c2, rfl, _, _, hr2⟩ := own_form hown2
      obtain ⟨ba, oa, z, hA, hba, hz, ez, ez1⟩ := hr2.at2 h0
      subst hA
      simp only [Nat.zero_mul, Nat.add_zero] at ez ez1
      have Hz := Lib.hid (tk0_at hz)
      have HB2 := Lib.hid (Below.call HBr.out hb2 HBr.out.size)
      obtain ⟨n2, hn2⟩ : ∃ n2, n2 = x.pts.length := ⟨_, rfl⟩
      rw [← hn2] at h0 h9 ⊢
      have h0' : (0 : Int) < (n2 : Int) := by omega
      clear hown2 hb2 hr2 hz hn2
      obtain ⟨o, ho⟩ : ∃ o, o = leastL ((N.take k).map tk0) := ⟨_, rfl⟩
      have Hnx := Lib.hid (show leastL ((N.take (k + 1)).map tk0) = some (minO o z.1) by rw [Hst.out, leastL_snoc, ho, Hz.out])
      rw [← ho]
      clear ho
      cases o with
      | none =>
        go_wp2
        go_roundw
        case rel => exact ⟨k + 1, by omega, by go_num, by rw [Hnx.out]; rfl, by rw [Hnx.out]; rfl, Below.alloc HB2.out HB2.out.size _⟩
        case measure => simp [intOf]; omega
      | some b =>
        by_cases hlt : z.1 < b
        · have Hnx2 := Lib.hid (show leastL ((N.take (k + 1)).map tk0) = some z.1 by rw [Hnx.out]; exact congrArg some (if_pos hlt))
          go_wp2
          go_roundw
          case rel => exact ⟨k + 1, by omega, by go_num, by rw [Hnx2.out]; rfl, by rw [Hnx2.out]; rfl, Below.alloc HB2.out HB2.out.size _⟩
          case measure => simp [intOf]; omega
        · have Hnx2 := Lib.hid (show leastL ((N.take (k + 1)).map tk0) = some b by rw [Hnx.out]; exact congrArg some (if_neg hlt))
          go_wp2
          go_roundw
          case rel => exact ⟨k + 1, by omega, by go_num, by rw [Hnx2.out]; rfl, by rw [Hnx2.out]; rfl, Below.alloc HB2.out HB2.out.size _⟩
          case measure => simp [intOf]; omega
    · obtain rfl : k = n := by omega
      have He := Lib.hid (show N.take k = N from List.take_of_length_le (by rw [Hn.out]; exact Nat.le_refl _))
      clear hbr
      rw [He.out]
      go_wp2
      go_ret2
      exact ⟨rfl, HBw.out⟩
end Go.Proofs.YthgefobcohlegaaGreatDoor

namespace Go.Proofs.YthgefobcohlegaaGreatDoor
open Go.RowKit
set_option linter.unusedVariables false

theorem pow2_16 (w : World) : Calls Tryz.prog 203 #[.int .i64 16] w fun e w' => e = .returned (.bool true) ∧ w = w' := by
  go_enter Tryz.func203, Tryz.ntmps203
  go_wp2
  go_ret
  exact ⟨by first | rfl | decide, rfl⟩
theorem tz16 (w : World) (hT : TabAt w) : Calls Tryz.prog 204 #[.int .u64 16] w fun e w' => e = .returned (.int .i64 4) ∧ w = w' := by
  have h16 := tz_any 16 w (by decide) hT
  have e4 : tzN 16 = 4 := by decide
  rw [e4] at h16
  go_enter Tryz.func204, Tryz.ntmps204
  go_wp2_with (go_at_call 217; refine h16.mono ?_; rintro e w' ⟨rfl, rfl⟩)
  go_ret
  exact ⟨rfl, rfl⟩
theorem dig_fin : ∀ d : Fin 16, (⟨#[48, 49, 50, 51, 52, 53, 54, 55, 56, 57, 97, 98, 99, 100, 101, 102, 103, 104, 105, 106, 107, 108, 109, 110, 111, 112, 113, 114, 115, 116, 117, 118, 119, 120, 121, 122]⟩ : ByteArray).data.toList.getD d.val 0 = hexD d.val := by decide +kernel
theorem dig_at (s : ByteArray) (hs : s = ⟨#[48, 49, 50, 51, 52, 53, 54, 55, 56, 57, 97, 98, 99, 100, 101, 102, 103, 104, 105, 106, 107, 108, 109, 110, 111, 112, 113, 114, 115, 116, 117, 118, 119, 120, 121, 122]⟩) (d : Nat) (h : d < s.size) (h16 : d < 16) : (s[d]'h) = hexD d := by
  have := dig_fin ⟨d, h16⟩
  rw [← hs] at this
  rw [← this, List.getD_eq_getElem?_getD, List.getElem?_eq_getElem (by exact h)]
  rfl
theorem arr_step {cs : Array Value} {i : Nat} {ds : List UInt8} {c : UInt8} (h65 : cs.size = 65) (hi : i < 65) (h : cs.toList.drop (i + 1) = ds.map fun b => Value.int .u8 (b.toNat : Int)) :
    (cs.setIfInBounds i (.int .u8 (c.toNat : Int))).toList.drop i = (c :: ds).map fun b => Value.int .u8 (b.toNat : Int) := by
  rw [Array.toList_setIfInBounds, List.map_cons, ← h]
  have hl : i < (cs.toList.set i (.int .u8 (c.toNat : Int))).length := by rw [List.length_set, Array.length_toList]; omega
  rw [List.drop_eq_getElem_cons hl, List.getElem_set_self, List.drop_set_of_lt (by omega)]
set_option maxHeartbeats 4000000 in
set_option maxRecDepth 100000 in
theorem fbits16 (v : Nat) (hv : v < 18446744073709551616) (w : World) (hT : TabAt w) (hg : 19 < w.heap.size) :
    Calls Tryz.prog 176 #[.slice none 0 0, .int .u64 v, .int .i64 16, .bool false, .bool false] w fun e w' => e = .returned (.tuple #[.slice none 0 0, .string (B8 (hexM v))]) ∧ Below w.heap.size w w' := by
  have HT := Lib.hid hT
  clear hT
  go_enter Tryz.func176, Tryz.ntmps176
  go_wp2_with fail
  refine (pow2_16 _).mono ?_
  rintro e w1 ⟨rfl, rfl⟩
  go_wp2_with fail
  have hb0 : Below w.heap.size w (w.alloc (Obj.cells Tryz.zeroCells305 305)) := Below.alloc (Below.refl _ _) (Nat.le_refl _) _
  have hk0 := Blk.new w 305 Tryz.zeroCells305
  refine (tz16 _ (HT.out.below hb0 hg)).mono ?_
  rintro e w1 ⟨rfl, rfl⟩
  have Hb0 := Lib.hid hb0; have Hk0 := Lib.hid hk0
  clear hb0 hk0
  generalize hw1 : w.alloc (Obj.cells Tryz.zeroCells305 305) = w1 at Hb0 Hk0
  clear hw1
  go_wp2
  go_loopw [1, 13] (fun uv iv wr => ∃ (u i : Nat) (ds : List UInt8) (cs : Array Value), uv = .int .u64 u ∧ iv = .int .i64 i ∧ 50 ≤ i ∧ i ≤ 65 ∧ u < 18446744073709551616 ∧ Hid (ds.length + i = 65) ∧ Hid (hexM v = hexM u ++ ds) ∧ Hid (Blk wr w.heap.size 305 cs ∧ cs.size = 65 ∧ cs.toList.drop i = ds.map fun b => Value.int .u8 (b.toNat : Int)) ∧ Hid (Below w.heap.size w wr)) (fun _ iv _ => (intOf iv).toNat)
  case atStart => exact ⟨v, 65, [], _, rfl, rfl, by omega, by omega, hv, Lib.hid rfl, Lib.hid (by simp), Lib.hid ⟨Hk0.out, by decide +kernel, by kernel_rfl⟩, Hb0⟩
  case round =>
    obtain ⟨u, i, ds, cs, rfl, rfl, hi0, hi1, hu, Hl, Hm, Hk, Hb⟩ := hrel
    obtain ⟨i, rfl⟩ : ∃ k, i = k + 1 := ⟨i - 1, by omega⟩
    have hc0 := Hk.out.1.cell i
    rw [Array.getElem?_eq_getElem (by have := Hk.out.2.1; omega)] at hc0
    have hf0 := Hk.out.1.frozen i
    generalize cs[i]'(by have := Hk.out.2.1; omega) = c0 at hc0
    by_cases h16 : 16 ≤ u
    · have hand : bits .and .u64 (u : Int) 15 = ((u % 16 : Nat) : Int) := by
        have h := bits_and_u64_nat u 15 hu (by decide)
        rw [show u &&& 15 = u % 16 from Nat.and_two_pow_sub_one_eq_mod u 4] at h
        exact h
      have hd16 : u % 16 < 16 := Nat.mod_lt _ (by decide)
      generalize hdd : u % 16 = d at hand hd16
      have Hd := Lib.hid hdd
      clear hdd
      have hd0 : (0 : Int) ≤ (d : Int) := by omega
      have hd1 : (d : Int) < 36 := by omega
      have Hm2 := Lib.hid (show hexM v = hexM (u / 16) ++ hexD d :: ds by rw [Hm.out, hexM_big (by omega), Hd.out, List.append_assoc]; rfl)
      have hl2 : 51 ≤ i + 1 := by
        have h1 := hexM_len (v := v) (k := 16) (by decide) (by simpa using hv)
        have h2 := hexM_len (v := u / 16) (k := 16) (by decide) (by omega)
        have h3 := congrArg List.length Hm2.out
        rw [List.length_append, List.length_cons] at h3
        have := Hl.out
        omega
      go_wp2
      go_roundw
      case rel => exact ⟨u / 16, i, hexD d :: ds, _, by first | rfl | (congr 1; omega), rfl, by omega, by omega, by omega, Lib.hid (by have := Hl.out; rw [List.length_cons]; omega), Hm2, Lib.hid ⟨(Hk.out.1.set_ i _), by rw [Array.size_setIfInBounds]; exact Hk.out.2.1, by rw [dig_at _ rfl d _ hd16]; exact arr_step Hk.out.2.1 (by omega) Hk.out.2.2⟩, Lib.hid (Hb.out.setCell (p := ⟨w.heap.size, i, none⟩) (Nat.le_refl _) _)⟩
      case measure => simp [intOf]
    · have hu16 : u < 16 := by omega
      have hd0 : (0 : Int) ≤ (u : Int) := by omega
      have hd1 : (u : Int) < 36 := by omega
      have Hm2 := Lib.hid (show hexM v = hexD u :: ds by rw [Hm.out, hexM_small hu16]; rfl)
      have Hk2 := Lib.hid (show ∀ z, z = hexD u → Blk (wr.setCell ⟨w.heap.size, i, none⟩ (.int .u8 (z.toNat : Int))) w.heap.size 305 (cs.setIfInBounds i (.int .u8 (z.toNat : Int))) ∧ Rd (wr.setCell ⟨w.heap.size, i, none⟩ (.int .u8 (z.toNat : Int))) (w.heap.size + 1) 1 (some ⟨w.heap.size, i, none⟩) (65 - i) ((hexM v).map fun b => Value.int .u8 (b.toNat : Int)) by
        intro z hz
        subst hz
        have hb := Hk.out.1.set_ i (.int .u8 ((hexD u).toNat : Int))
        have ha := arr_step (c := hexD u) Hk.out.2.1 (by omega) Hk.out.2.2
        refine ⟨hb, ?_, fun _ => ⟨_, _, rfl, Nat.lt_succ_self _, fun j x hx => ?_⟩⟩
        · have := Hl.out; rw [List.length_map, Hm2.out, List.length_cons]; omega
        · rw [hb.cell, ← Array.getElem?_toList, ← List.getElem?_drop, ha, ← Hm2.out]; exact hx)
      have hal : Tryz.prog.arrayLen 305 = 65 := by kernel_rfl
      have Hsl := Lib.hid (show ∀ W, (Instr.sliceAt 305 (.pointer (some ⟨w.heap.size, 0, none⟩)) (some (.int .i64 (i : Int))) none none).run Tryz.prog W = .ok (.slice (some ⟨w.heap.size, i, none⟩) (65 - i) (65 - i)) W from fun W => by
        rw [run_sliceAt_array_l W 305 ⟨w.heap.size, 0, none⟩ (by simp [Program.arrayLen, Program.elem, Tryz.underlying305]) .i64 (i : Int) (by omega) (by rw [hal]; omega)]
        rw [hal]
        go_simp
        omega)
      clear Hm hal
      go_wp2
      rw [dig_at _ rfl u _ hu16]
      obtain ⟨hb2, hr2⟩ := Hk2.out _ rfl
      have hb3 := Hb.out.setCell (p := ⟨w.heap.size, i, none⟩) (Nat.le_refl _) (.int .u8 ((hexD u).toNat : Int))
      generalize hwz : wr.setCell ⟨w.heap.size, i, none⟩ (.int .u8 ((hexD u).toNat : Int)) = wz at hb2 hr2 hb3
      have hcv : (convert 69 9 (.slice (some ⟨w.heap.size, i, none⟩) (65 - i) (65 - i))).run Tryz.prog wz = .ok (.string (B8 (hexM v))) wz := by
        have hn : (hexM v).length = 65 - i := by have := hr2.1; simpa using this
        rw [← hn]
        refine run_convert_bytes_back (P := Tryz.prog) wz 69 9 5 ⟨w.heap.size, i, none⟩ _ (hexM v) Tryz.underlying69 Tryz.underlying5 Tryz.underlying9 (fun j hj => ?_)
        obtain ⟨b, o, e, _, hc⟩ := hr2.2 (by omega)
        injection e with e
        injection e with e1 e2
        subst e1; subst e2
        rw [add_at]
        exact hc j _ (by rw [List.getElem?_map, List.getElem?_eq_getElem hj]; rfl)
      have HB := Lib.hid hb3
      have hsl := Hsl.out wz
      clear hb2 hr2 hb3 hwz Hk2 Hk Hm2
      generalize hres : B8 (hexM v) = res at hcv
      have Hres := Lib.hid hres
      clear hres
      rw [hsl]
      clear hsl
      simp only [Result.andThen_ok]
      go_wp2
      go_ret2
      exact ⟨by rw [Hres.out]; rfl, HB.out⟩
theorem iformat16 (v : Nat) (hv : v < 18446744073709551616) (w : World) (hT : TabAt w) (hg : 19 < w.heap.size) :
    Calls Tryz.prog 136 #[.int .u64 v, .int .i64 16] w fun e w' => e = .returned (.string (B8 (hexM v))) ∧ Below w.heap.size w w' := by
  have Hf := Lib.hid (fbits16 v hv w hT hg)
  clear hT
  go_enter Tryz.func136, Tryz.ntmps136
  go_wp2_with fail
  refine Hf.out.mono ?_
  rintro e w' ⟨rfl, hb⟩
  have HB := Lib.hid hb
  clear hb
  generalize hres : B8 (hexM v) = res
  have Hres := Lib.hid hres
  clear hres
  go_wp2
  go_ret
  exact ⟨by rw [Hres.out]; rfl, HB.out⟩
theorem format16 (v : Nat) (hv : v < 18446744073709551616) (w : World) (hT : TabAt w) (hg : 19 < w.heap.size) :
    Calls Tryz.prog 110 #[.int .u64 v, .int .i64 16] w fun e w' => e = .returned (.string (B8 (hexM v))) ∧ Below w.heap.size w w' := by
  have Hf := Lib.hid (iformat16 v hv w hT hg)
  clear hT
  go_enter Tryz.func110, Tryz.ntmps110
  go_wp2_with fail
  refine Hf.out.mono ?_
  rintro e w' ⟨rfl, hb⟩
  have HB := Lib.hid hb
  clear hb
  generalize hres : B8 (hexM v) = res
  have Hres := Lib.hid hres
  clear hres
  go_wp2
  go_ret
  exact ⟨by rw [Hres.out]; rfl, HB.out⟩
theorem rep_zeros (k : Nat) (w : World) (hk : k ≤ 16) : Calls Tryz.prog 111 #[.string ⟨#[48]⟩, .int .i64 k] w fun e w' => e = .returned (.string (B8 (List.replicate k 48))) ∧ Below w.heap.size w w' := by
  have h := Tryz.strings_Repeat ⟨#[48]⟩ k w (by omega) (by show 1 * k ≤ _; omega)
  have e : Lib.repeatL (⟨#[48]⟩ : ByteArray).data.toList k = List.replicate k 48 := by
    have := Lib.repeatL_replicate 48 1 k
    rw [Nat.mul_one] at this
    exact this
  rw [e] at h
  exact h
theorem hex_any (v : Nat) (hv : v < 18446744073709551616) (w : World) (hT : TabAt w) (hg : 19 < w.heap.size) :
    Calls Tryz.prog 78 #[.int .u64 v] w fun e w' => e = .returned (.string (B8 (hexK 16 v))) ∧ Below w.heap.size w w' := by
  have Hf := Lib.hid (format16 v hv w hT hg)
  have hl := hexM_len (v := v) (k := 16) (by decide) (by simpa using hv)
  have hs : (B8 (hexM v)).size = (hexM v).length := B8_size _
  have Hpad := Lib.hid (show B8 (List.replicate (16 - (hexM v).length) 48) ++ B8 (hexM v) = B8 (hexK 16 v) by rw [B8_append, hexK_pad (by decide) (by simpa using hv)])
  clear hT
  obtain ⟨hl1, hl2⟩ := hl
  generalize hln : (hexM v).length = ln at hl1 hl2 hs Hpad
  have Hrep := Lib.hid (fun W => rep_zeros (16 - ln) W (by omega))
  have hzs : (B8 (List.replicate (16 - ln) 48)).size = 16 - ln := by rw [B8_size, List.length_replicate]
  generalize B8 (hexM v) = sv at hs Hf Hpad
  generalize B8 (List.replicate (16 - ln) 48) = zs at Hrep Hpad hzs
  generalize B8 (hexK 16 v) = res at Hpad ⊢
  have Hln := Lib.hid hs
  have Hzs := Lib.hid hzs
  clear hln hs hzs
  go_enter Tryz.func78, Tryz.ntmps78
  go_wp2_with fail
  refine Hf.out.mono ?_
  rintro e w1 ⟨rfl, hb⟩
  have HB := Lib.hid hb
  clear hb
  have hs := Hln.out
  have e1 : (16 : Int) - (sv.size : Int) = ((16 - ln : Nat) : Int) := by omega
  have n1 : IntKind.i64.wrap (16 - (sv.size : Int)) = ((16 - ln : Nat) : Int) := by rw [IntKind.wrap_i64]; omega
  clear hs
  go_wp2_with fail
  refine (Hrep.out _).mono ?_
  rintro e w2 ⟨rfl, hb⟩
  have HB2 := Lib.hid (Below.call HB.out hb HB.out.size)
  have hcc : ¬ 9223372036854775807 < zs.size + sv.size := by have := Hln.out; have := Hzs.out; omega
  have hcc2 : ¬ (9223372036854775807 : Int) < (zs.size : Int) + (sv.size : Int) := by omega
  clear hb e1 n1
  go_wp2
  go_ret
  exact ⟨by rw [Hpad.out]; rfl, HB2.out⟩
end Go.Proofs.YthgefobcohlegaaGreatDoor

namespace Go.Proofs.YthgefobcohlegaaGreatDoor
open Go.RowKit
set_option linter.unusedVariables false

def lowI (c : UInt8) : Int := bits .or .u8 (c.toNat : Int) 32
theorem lowI_bd (c : UInt8) : 0 ≤ lowI c ∧ lowI c < 256 := by
  have h0 := bits_lo_u8 .or (c.toNat : Int) 32
  have h1 := bits_hi_u8 .or (c.toNat : Int) 32
  unfold lowI
  omega
/-- What a byte counts here: letters of either case. -/
def hexW (c : UInt8) : Option Nat := if 48 ≤ c.toNat ∧ c.toNat ≤ 57 then some (c.toNat - 48) else if 97 ≤ lowI c ∧ lowI c ≤ 102 then some (lowI c - 87).toNat else none
theorem lowI_low : ∀ d : Fin 6, bits .or .u8 ((97 + d.val : Nat) : Int) 32 = ((97 + d.val : Nat) : Int) := by decide +kernel
theorem hexW_V {c : UInt8} {d : Nat} (h : hexV c = some d) : hexW c = some d := by
  unfold hexV at h
  unfold hexW
  split at h
  · rename_i h1; rw [if_pos h1]; exact h
  · rename_i h1
    rw [if_neg h1]
    split at h
    · rename_i h2
      have e := lowI_low ⟨c.toNat - 97, by omega⟩
      have e1 : 97 + (c.toNat - 97) = c.toNat := by omega
      dsimp only at e
      rw [e1] at e
      have e2 : lowI c = (c.toNat : Int) := e
      rw [e2, if_pos (by omega)]
      injection h with h
      congr 1; omega
    · cases h
def parseU16 (acc : Nat) : List UInt8 → Lib.NumEnd Nat
  | [] => .ok acc
  | c :: r => match hexW c with
    | none => .syntax
    | some d => if 1152921504606846976 ≤ acc then .range else parseU16 (acc * 16 + d) r
theorem parseU16_cons (acc : Nat) (c : UInt8) (r : List UInt8) : parseU16 acc (c :: r) = match hexW c with
    | none => .syntax
    | some d => if 1152921504606846976 ≤ acc then .range else parseU16 (acc * 16 + d) r := rfl
theorem parse16_hex : ∀ (l : List UInt8) (acc m k : Nat), acc < 16 ^ k → l.length + k ≤ 16 → hexFrom acc l = some m → parseU16 acc l = .ok m
  | [], acc, m, k, _, _, h => by injection h with h; subst h; rfl
  | c :: l, acc, m, k, hk, hl, h => by
    rw [hexFrom_cons] at h
    cases hc : hexV c with
    | none => rw [hc] at h; cases h
    | some d =>
      rw [hc] at h
      have hd := hexV_lt hc
      rw [List.length_cons] at hl
      have hp : (16 : Nat) ^ k ≤ 16 ^ 15 := Nat.pow_le_pow_right (by decide) (by omega)
      have e15 : (16 : Nat) ^ 15 = 1152921504606846976 := by decide
      rw [parseU16_cons, hexW_V hc]
      show (if 1152921504606846976 ≤ acc then _ else parseU16 (acc * 16 + d) l) = _
      rw [if_neg (by omega)]
      exact parse16_hex l _ m (k + 1) (by rw [Nat.pow_succ]; omega) (by omega) h
/-- What ParseUint answers. -/
def puT (e : Lib.NumEnd Nat) : Value := match e with
  | .ok v => .tuple #[.int .u64 (v : Int), .nilIface]
  | .syntax => .tuple #[.int .u64 0, .iface 255 (.int .i64 2)]
  | .range => .tuple #[.int .u64 18446744073709551615, .iface 255 (.int .i64 1)]

theorem lower_any (c : Int) (w : World) : Calls Tryz.prog 170 #[.int .u8 c] w fun e w' => e = .returned (.int .u8 (bits .or .u8 c 32)) ∧ w = w' := by
  go_enter Tryz.func170, Tryz.ntmps170
  go_wp2
  go_ret
  exact ⟨rfl, rfl⟩
set_option maxHeartbeats 32000000 in
set_option maxRecDepth 100000 in
theorem iparse16_ne (t : ByteArray) (hne : t.size ≠ 0) (hmax : t.size ≤ 9223372036854775806) (w : World) :
    Calls Tryz.prog 129 #[.string t, .int .i64 16, .int .i64 64] w fun e w' => e = .returned (puT (parseU16 0 t.data.toList)) ∧ w' = Lib.bytesWorld w 5 t := by
  have hemp : t.toList.isEmpty = false := by
    rw [← decide_eq_emptyBytes]
    exact decide_eq_false (fun h => hne (by rw [h]; rfl))
  have hcv := Lib.run_convert_string_bytes (P := Tryz.prog) w 9 69 5 t (u := .string) Tryz.underlying9 Tryz.underlying69 Tryz.underlying5
  have hB : ∀ j, j < t.size → (Lib.bytesWorld w 5 t).cell? ⟨w.heap.size, j, none⟩ = some (.int .u8 (t.data.toList.getD j 0).toNat) := fun j hj => Lib.bytesWorld_cell w 5 t j hj
  obtain ⟨W1, hW1⟩ : ∃ W1, W1 = Lib.bytesWorld w 5 t := ⟨_, rfl⟩
  rw [← hW1] at hcv hB ⊢
  clear hW1
  obtain ⟨bs, hL⟩ : ∃ bs, bs = t.data.toList := ⟨_, rfl⟩
  have hLn : bs.length = t.size := by rw [hL, Lib.size_eq]
  rw [← hL] at hB ⊢
  clear hL
  have hmv : IntKind.u64.wrap (IntKind.u64.wrap 18446744073709551616 - 1) = 18446744073709551615 := by
    rw [IntKind.wrap_u64, IntKind.wrap_u64]
    decide
  go_enter Tryz.func129, Tryz.ntmps129
  go_wp2
  go_loop [12, 13, 101] (fun vu vn vi => ∃ (k acc : Nat) (a : Int), vu = .bool false ∧ vn = .int .u64 a ∧ vi = .int .i64 k ∧ k ≤ t.size ∧ Hid (a = (acc : Int) ∧ acc < 18446744073709551616 ∧ parseU16 0 bs = parseU16 acc (bs.drop k)))
    (fun _ _ vi => t.size - (intOf vi).toNat)
  case atStart => exact ⟨0, 0, 0, rfl, rfl, rfl, by omega, rfl, by omega, rfl⟩
  case round =>
    obtain ⟨k, acc, a, rfl, rfl, rfl, hk, hh⟩ := hrel
    obtain ⟨ha, hacc, hdec⟩ := hh.out
    clear hh
    have a0 : 0 ≤ a := by omega
    have a1 : a < 18446744073709551616 := by omega
    by_cases hkn : k < t.size
    · have hc := hB k hkn
      have hdrop : bs.drop k = bs[k]'(by omega) :: bs.drop (k + 1) := List.drop_eq_getElem_cons (by omega)
      have hget : bs.getD k 0 = bs[k]'(by omega) := by simp [List.getD, List.getElem?_eq_getElem (show k < bs.length by omega)]
      rw [hdrop] at hdec
      rw [hget] at hc
      generalize bs[k]'(by omega) = c at hc hdec
      have hc256 : c.toNat < 256 := c.toNat_lt
      clear hB hdrop hget
      have hq := lowI_bd c
      rw [parseU16_cons] at hdec
      by_cases hdig : 48 ≤ c.toNat ∧ c.toNat ≤ 57
      · have hW : hexW c = some (c.toNat - 48) := by unfold hexW; rw [if_pos hdig]
        obtain ⟨hd0, hd1⟩ := hdig
        rw [hW] at hdec
        dsimp only at hdec
        by_cases hcut : 1152921504606846976 ≤ acc
        · rw [if_pos hcut] at hdec
          have icut : 1152921504606846976 ≤ a := by omega
          clear hcut hacc hW ha
          go_wp2
          go_ret2
          first | exact ⟨rfl, rfl⟩ | exact ⟨by rw [hdec]; rfl, rfl⟩
        · rw [if_neg hcut] at hdec
          have HN : Hid (a * 16 + ((c.toNat : Int) - 48) = ((acc * 16 + (c.toNat - 48) : Nat) : Int) ∧ acc * 16 + (c.toNat - 48) < 18446744073709551616 ∧ parseU16 0 bs = parseU16 (acc * 16 + (c.toNat - 48)) (bs.drop (k + 1))) := Lib.hid ⟨by omega, by omega, hdec⟩
          have icut : a < 1152921504606846976 := by omega
          clear hcut hacc hW hdec ha
          go_wp2
          refine ⟨⟨k + 1, acc * 16 + (c.toNat - 48), a * 16 + ((c.toNat : Int) - 48), rfl, (by first | rfl | (congr 1; omega)), (by first | rfl | (congr 1; omega)), by omega, HN⟩, by simp [intOf]; omega⟩
      · by_cases hlet : 97 ≤ lowI c ∧ lowI c ≤ 102
        · have hW : hexW c = some (lowI c - 87).toNat := by unfold hexW; rw [if_neg hdig, if_pos hlet]
          rw [hW] at hdec
          dsimp only at hdec
          have h95' : ((c.toNat : Int) == 95) = false := by
            apply Bool.eq_false_iff.2
            intro h
            have e : (c.toNat : Int) = 95 := by simpa using h
            have e2 : lowI c = 127 := by unfold lowI; rw [e]; decide +kernel
            omega
          obtain ⟨hl0, hl1⟩ := hlet
          have hex2 : Hid (∀ w, Calls Tryz.prog 170 #[.int .u8 (c.toNat : Int)] w fun e w' => e = .returned (.int .u8 (lowI c)) ∧ w = w') := Lib.hid (fun w => lower_any _ _)
          have hdig' : ¬ (48 ≤ (c.toNat : Int) ∧ (c.toNat : Int) ≤ 57) := by omega
          generalize lowI c = q at hq hl0 hl1 hdec hex2
          clear hW
          have ed : ((q - 87).toNat : Int) = q - 87 := by omega
          have h95 : ((c.toNat : Int) == 95) = false := h95'
          by_cases hcut : 1152921504606846976 ≤ acc
          · rw [if_pos hcut] at hdec
            have icut : 1152921504606846976 ≤ a := by omega
            clear hcut hacc ha ed
            go_wp2_with (go_at_call 170; refine (hex2.out _).mono ?_; rintro e w' ⟨rfl, rfl⟩)
            all_goals go_ret2
            all_goals first | exact ⟨rfl, rfl⟩ | exact ⟨by rw [hdec]; rfl, rfl⟩
          · rw [if_neg hcut] at hdec
            have HN : Hid (a * 16 + (q - 87) = ((acc * 16 + (q - 87).toNat : Nat) : Int) ∧ acc * 16 + (q - 87).toNat < 18446744073709551616 ∧ parseU16 0 bs = parseU16 (acc * 16 + (q - 87).toNat) (bs.drop (k + 1))) := Lib.hid ⟨by omega, by omega, hdec⟩
            have icut : a < 1152921504606846976 := by omega
            clear hcut hacc hdec ha ed
            go_wp2_with (go_at_call 170; refine (hex2.out _).mono ?_; rintro e w' ⟨rfl, rfl⟩)
            all_goals (refine ⟨⟨k + 1, acc * 16 + (q - 87).toNat, a * 16 + (q - 87), rfl, (by first | rfl | (congr 1; omega)), (by first | rfl | (congr 1; omega)), by omega, HN⟩, by simp [intOf]; omega⟩)
        · have hW : hexW c = none := by unfold hexW; rw [if_neg hdig, if_neg hlet]
          rw [hW] at hdec
          dsimp only at hdec
          have hdig' : ¬ (48 ≤ (c.toNat : Int) ∧ (c.toNat : Int) ≤ 57) := by omega
          have hex2 : Hid (∀ w, Calls Tryz.prog 170 #[.int .u8 (c.toNat : Int)] w fun e w' => e = .returned (.int .u8 (lowI c)) ∧ w = w') := Lib.hid (fun w => lower_any _ _)
          by_cases he : (c.toNat : Int) = 95
          · have e2 : lowI c = 127 := by unfold lowI; rw [he]; decide +kernel
            rw [e2] at hex2
            rw [he] at hc hex2
            clear hW hacc ha hdig hdig' hlet hc256 e2 hq he
            go_wp2_with (go_at_call 170; refine (hex2.out _).mono ?_; rintro e w' ⟨rfl, rfl⟩)
            all_goals go_ret2
            all_goals first | exact ⟨rfl, rfl⟩ | exact ⟨by rw [hdec]; rfl, rfl⟩
          · have h95 : ((c.toNat : Int) == 95) = false := by
              apply Bool.eq_false_iff.2
              intro h
              exact he (by simpa using h)
            generalize lowI c = q at hq hlet hex2
            clear hW hacc ha he
            go_wp2_with (go_at_call 170; refine (hex2.out _).mono ?_; rintro e w' ⟨rfl, rfl⟩)
            all_goals go_ret2
            all_goals first | exact ⟨rfl, rfl⟩ | exact ⟨by rw [hdec]; rfl, rfl⟩
    · have hkk : k = t.size := by omega
      subst hkk
      have hF : parseU16 acc (bs.drop t.size) = .ok acc := by rw [List.drop_eq_nil_of_le (by omega)]; rfl
      rw [hF] at hdec
      subst ha
      clear hacc hF a0 a1
      go_wp2
      go_ret2
      first | exact ⟨rfl, rfl⟩ | exact ⟨by rw [hdec]; rfl, rfl⟩
end Go.Proofs.YthgefobcohlegaaGreatDoor

namespace Go.Proofs.YthgefobcohlegaaGreatDoor
open Go.RowKit
set_option linter.unusedVariables false

structure WalW (es : Nat → Addr) (B : Nat) (w : World) : Prop where
  svl : SVL es B w
  off : w.cell? ⟨gErr 9, 0, none⟩ = some (sentV (es 9))
  offlt : gErr 9 < B
  tab : TabAt w
  tablt : 19 < B
  p10 : Lib.TabIs Tryz.prog w "internal/strconv.uint64pow10" .u64 Lib.pow10Tab
  p10lt : 17 < B
  esy : ∃ t p, w.cell? ⟨15, 0, none⟩ = some (.iface t p)
  esylt : 15 < B
  erg : ∃ t p, w.cell? ⟨16, 0, none⟩ = some (.iface t p)
  erglt : 16 < B
theorem e_p10 : Tryz.prog.globalNamed "internal/strconv.uint64pow10" = some 17 := by kernel_rfl
theorem tabIs_blk {w w' : World} {n : String} {g : Nat} {k : IntKind} {zs : List Int} (hg : Tryz.prog.globalNamed n = some g) (h : Lib.TabIs Tryz.prog w n k zs) (hb : w'.heap[g]? = w.heap[g]?) : Lib.TabIs Tryz.prog w' n k zs := by
  unfold Lib.TabIs World.var? at h ⊢
  rw [hg] at h ⊢
  simp only [Option.bind_some] at h ⊢
  rw [hb]
  exact h
theorem WalW.below {es : Nat → Addr} {B C : Nat} {w w' : World} (h : WalW es B w) (hb : Below C w w') (hC : B ≤ C) : WalW es B w' := by
  have kc : ∀ {g : Nat} {v : Value}, g < B → w.cell? ⟨g, 0, none⟩ = some v → w'.cell? ⟨g, 0, none⟩ = some v := fun hg hv => (hb.cell (p := ⟨_, 0, none⟩) (Nat.lt_of_lt_of_le hg hC)).trans hv
  refine ⟨h.svl.below hb hC, kc h.offlt h.off, h.offlt, h.tab.below hb (Nat.lt_of_lt_of_le h.tablt hC), h.tablt, tabIs_blk e_p10 h.p10 (hb.block _ (Nat.lt_of_lt_of_le h.p10lt hC)), h.p10lt, ?_, h.esylt, ?_, h.erglt⟩
  · obtain ⟨t, p, e⟩ := h.esy; exact ⟨t, p, kc h.esylt e⟩
  · obtain ⟨t, p, e⟩ := h.erg; exact ⟨t, p, kc h.erglt e⟩
theorem grow_below (w : World) (k : Nat) (os : Array Obj) : Below w.heap.size w (Sort.grow (w.drewN k) os) := by
  refine ⟨rfl, rfl, rfl, ?_, fun i hi => ?_⟩
  · show w.heap.size ≤ (w.heap ++ os).size
    rw [Array.size_append]; omega
  · show (w.heap ++ os)[i]? = w.heap[i]?
    exact Array.getElem?_append_left hi
theorem itoa_any {es : Nat → Addr} {B : Nat} (n : Int) (h : n.natAbs < 10 ^ 17) (w : World) (hW : WalW es B w) :
    Calls Tryz.prog 77 #[.int .i64 n] w fun e w' => e = .returned (.string (B8 (Lib.itoa n))) ∧ Below w.heap.size w w' := by
  refine (Tryz.strconv_Itoa n (by omega) (by omega) w hW.p10).mono ?_
  rintro e w' ⟨rfl, k, os, rfl⟩
  exact ⟨rfl, grow_below w k os⟩
/-- A number and no error, or an error. -/
def NumR (e : Ending) (k : IntKind) (P : Int → Prop) (ok : Option Int) : Prop :=
  ∃ v ev, e = .returned (.tuple #[.int k v, ev]) ∧ P v ∧ (∀ n, ok = some n → v = n ∧ ev = .nilIface) ∧ (ok = none → ∃ t p, ev = .iface t p)
theorem NumR.err {e : Ending} {k : IntKind} {P : Int → Prop} {ok : Option Int} {v : Int} {t : TypeId} {p : Value} (he : e = .returned (.tuple #[.int k v, .iface t p])) (hP : P v) (ho : ok = none) : NumR e k P ok :=
  ⟨v, _, he, hP, fun n hn => (by rw [ho] at hn; cases hn), fun _ => ⟨t, p, rfl⟩⟩
theorem NumR.good {e : Ending} {k : IntKind} {P : Int → Prop} {ok : Option Int} {v : Int} (he : e = .returned (.tuple #[.int k v, .nilIface])) (hP : P v) (ho : ok = some v) : NumR e k P ok :=
  ⟨v, _, he, hP, fun n hn => ⟨by rw [ho] at hn; exact Option.some.inj hn, rfl⟩, fun hn => (by rw [ho] at hn; cases hn)⟩
def i64B (v : Int) : Prop := -9223372036854775808 ≤ v ∧ v ≤ 9223372036854775807
def u64B (v : Int) : Prop := 0 ≤ v ∧ v < 18446744073709551616
def atoiO (s : List UInt8) : Option Int := match Lib.atoiAll s with | .ok v => some v | _ => none
def hexO (s : List UInt8) : Option Int := match (if s = [] then Lib.NumEnd.syntax else parseU16 0 s) with | .ok v => some (v : Int) | _ => none
theorem atoi_any {es : Nat → Addr} {B : Nat} (s : ByteArray) (hs : s.size ≤ 100000) (w : World) (hW : WalW es B w) :
    Calls Tryz.prog 101 #[.string s] w fun e w' => NumR e .i64 i64B (atoiO s.data.toList) ∧ Below w.heap.size w w' := by
  cases h : Lib.atoiAll s.data.toList
  case ok v =>
    refine (Tryz.strconv_Atoi_ok s (by omega) v h w).mono ?_
    rintro e w' ⟨rfl, hw⟩
    refine ⟨⟨v, .nilIface, rfl, Lib.atoiAll_bounds h, fun n hn => ?_, fun hn => ?_⟩, ?_⟩
    · unfold atoiO at hn; rw [h] at hn; injection hn with hn; exact ⟨hn, rfl⟩
    · unfold atoiO at hn; rw [h] at hn; cases hn
    · rcases hw with rfl | ⟨t, rfl⟩
      · exact Below.refl _ _
      · exact Lib.bytesWorld_below _ _ _
  case range =>
    obtain ⟨t, p, hv⟩ := hW.erg
    refine (Tryz.strconv_Atoi_range s (by omega) h _ w hv (.inr ⟨t, p, rfl⟩)).mono ?_
    rintro e w' ⟨N, rfl, _, _, hb⟩
    refine ⟨⟨_, _, rfl, Lib.atoiSat_bounds _, fun n hn => ?_, fun _ => ⟨_, _, rfl⟩⟩, hb⟩
    unfold atoiO at hn; rw [h] at hn; cases hn
  · skip
    obtain ⟨t, p, hv⟩ := hW.esy
    refine (Tryz.strconv_Atoi_syntax s (by omega) h _ w hv (.inr ⟨t, p, rfl⟩)).mono ?_
    rintro e w' ⟨N, rfl, _, _, hb⟩
    refine ⟨⟨0, _, rfl, ⟨by omega, by omega⟩, fun n hn => ?_, fun _ => ⟨_, _, rfl⟩⟩, hb⟩
    unfold atoiO at hn; rw [h] at hn; cases hn
set_option maxRecDepth 100000 in
theorem iparse16_any (s : ByteArray) (hs : s.size ≤ 100000) (w : World) :
    Calls Tryz.prog 129 #[.string s, .int .i64 16, .int .i64 64] w fun e w' => e = .returned (puT (if s.data.toList = [] then Lib.NumEnd.syntax else parseU16 0 s.data.toList)) ∧ Below w.heap.size w w' := by
  by_cases h0 : s.size = 0
  · have he : s.data.toList = [] := List.eq_nil_of_length_eq_zero (by rw [← Lib.size_eq]; exact h0)
    rw [if_pos he]
    have hs0 : s = ⟨#[]⟩ := by
      cases s with
      | mk d => congr 1; exact Array.toList_inj.1 he
    subst hs0
    go_enter Tryz.func129, Tryz.ntmps129
    go_wp2
    go_ret2
    exact ⟨rfl, Below.refl _ _⟩
  · have he : s.data.toList ≠ [] := fun e => h0 (by rw [Lib.size_eq, e]; rfl)
    rw [if_neg he]
    refine (iparse16_ne s h0 (by omega) w).mono ?_
    rintro e w' ⟨he, rfl⟩
    exact ⟨he, Lib.bytesWorld_below _ _ _⟩
theorem parseU16_lt : ∀ (l : List UInt8) (acc u : Nat), acc < 18446744073709551616 → parseU16 acc l = .ok u → u < 18446744073709551616
  | [], acc, u, ha, h => by injection h with h; omega
  | c :: l, acc, u, ha, h => by
    rw [parseU16_cons] at h
    cases hc : hexW c with
    | none => rw [hc] at h; cases h
    | some d =>
      rw [hc] at h
      dsimp only at h
      by_cases hcut : 1152921504606846976 ≤ acc
      · rw [if_pos hcut] at h; cases h
      · rw [if_neg hcut] at h
        have hd : d < 16 := by
          unfold hexW at hc
          split at hc
          · injection hc with hc; omega
          · split at hc
            · injection hc with hc; omega
            · cases hc
        exact parseU16_lt l _ u (by omega) h
set_option maxRecDepth 100000 in
theorem parse16_any {es : Nat → Addr} {B : Nat} (s : ByteArray) (hs : s.size ≤ 100000) (w : World) (hW : WalW es B w) (hB : B ≤ w.heap.size) :
    Calls Tryz.prog 102 #[.string s, .int .i64 16, .int .i64 64] w fun e w' => NumR e .u64 u64B (hexO s.data.toList) ∧ Below w.heap.size w w' := by
  have Hi := Lib.hid (iparse16_any s hs w)
  have HW := Lib.hid hW
  have Hlt := Lib.hid (fun u (h : (if s.data.toList = [] then Lib.NumEnd.syntax else parseU16 0 s.data.toList) = .ok u) => show u < 18446744073709551616 by
    by_cases he : s.data.toList = []
    · rw [if_pos he] at h; cases h
    · rw [if_neg he] at h; exact parseU16_lt _ 0 u (by omega) h)
  have Hx := Lib.hid (show hexO s.data.toList = match (if s.data.toList = [] then Lib.NumEnd.syntax else parseU16 0 s.data.toList) with | .ok v => some (v : Int) | _ => none from rfl)
  clear hW
  generalize (if s.data.toList = [] then Lib.NumEnd.syntax else parseU16 0 s.data.toList) = r at Hi Hlt Hx
  generalize hexO s.data.toList = o at Hx ⊢
  cases r
  case ok v =>
    have hv := Hlt.out v rfl
    go_enter Tryz.func102, Tryz.ntmps102
    go_wp2_with fail
    refine Hi.out.mono ?_
    rintro e w1 ⟨rfl, hb⟩
    have HB := Lib.hid hb
    clear hb Hi
    simp only [puT]
    go_wp2
    go_ret2
    exact ⟨NumR.good rfl ⟨by omega, by omega⟩ Hx.out, HB.out⟩
  case range =>
    go_enter Tryz.func102, Tryz.ntmps102
    go_wp2_with fail
    refine Hi.out.mono ?_
    rintro e w1 ⟨rfl, hb⟩
    have HB := Lib.hid hb
    obtain ⟨t, p, hv⟩ := (HW.out.below hb hB).erg
    have Hv := Lib.hid hv
    clear hb Hi hv
    simp only [puT]
    go_wp2_with fail
    refine (Tryz.strconv_toError_range ⟨#[80, 97, 114, 115, 101, 85, 105, 110, 116]⟩ s 16 64 _ _ (by omega) Hv.out (.inr ⟨t, p, rfl⟩)).mono ?_
    rintro e w2 ⟨N, rfl, _, _, hb⟩
    have HB2 := Lib.hid (Below.call HB.out hb HB.out.size)
    clear hb
    go_wp2
    go_ret2
    exact ⟨NumR.err rfl ⟨by omega, by omega⟩ Hx.out, HB2.out⟩
  · skip
    go_enter Tryz.func102, Tryz.ntmps102
    go_wp2_with fail
    refine Hi.out.mono ?_
    rintro e w1 ⟨rfl, hb⟩
    have HB := Lib.hid hb
    obtain ⟨t, p, hv⟩ := (HW.out.below hb hB).esy
    have Hv := Lib.hid hv
    clear hb Hi hv
    simp only [puT]
    go_wp2_with fail
    refine (Tryz.strconv_toError_syntax ⟨#[80, 97, 114, 115, 101, 85, 105, 110, 116]⟩ s 16 64 _ _ (by omega) Hv.out (.inr ⟨t, p, rfl⟩)).mono ?_
    rintro e w2 ⟨N, rfl, _, _, hb⟩
    have HB2 := Lib.hid (Below.call HB.out hb HB.out.size)
    clear hb
    go_wp2
    go_ret2
    exact ⟨NumR.err rfl ⟨by omega, by omega⟩ Hx.out, HB2.out⟩
end Go.Proofs.YthgefobcohlegaaGreatDoor
