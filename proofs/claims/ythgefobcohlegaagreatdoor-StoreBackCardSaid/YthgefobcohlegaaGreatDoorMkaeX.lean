/- A stretch of a store's head: its rows. -/
import Derived.Test.YthgefobcohlegaaGreatDoorMkwX
import Derived.Test.YthgefobcohlegaaGreatDoorMkpX
import Derived.Test.YthgefobcohlegaaGreatDoorMksX
import Derived.Deep.RegionHeld3
import Derived.Test.YthgefobcohlegaaGreatDoorMkyX
import Derived.Test.YthgefobcohlegaaGreatDoorMkacX
import Derived.Test.YthgefobcohlegaaGreatDoorMkvX
namespace Go.Proofs.YthgefobcohlegaaGreatDoor
open Go.RowKit Go.Maps
set_option linter.unusedVariables false

/-- The rows of some lines from tick f to t. -/
def strN (N : List HLn) (f t : Int) : List Rw := (N.map fun x => (x.nm, betL f t x.pts)).filter fun r => decide (r.2 ≠ [])
theorem strN_lns (L : List HLn) (f t : Int) : stretchR (absL L) f t = strN (lnsOf L) f t := by
  unfold stretchR strN absL lnsOf
  rw [List.map_map]
  induction L with
  | nil => rfl
  | cons x L ih =>
    rw [List.map_cons, List.filter_cons, List.filter_cons]
    by_cases hp : x.pts = []
    · rw [if_neg (by simp [hp, betL]), if_neg (by simp [hp])]
      exact ih
    · rw [if_pos (c := decide (x.pts ≠ []) = true) (by simpa using hp), List.map_cons, List.filter_cons, ih]
      rfl
theorem strN_snoc (N : List HLn) (x : HLn) (f t : Int) : strN (N ++ [x]) f t = strN N f t ++ (if betL f t x.pts = [] then [] else [(x.nm, betL f t x.pts)]) := by
  unfold strN
  rw [List.map_append, List.filter_append]
  congr 1
  by_cases h : betL f t x.pts = []
  · rw [if_pos h]; simp [h]
  · rw [if_neg h]; simp [h]
theorem strN_len (N : List HLn) (f t : Int) : (strN N f t).length ≤ N.length := by
  unfold strN
  exact Nat.le_trans (List.length_filter_le _ _) (by rw [List.length_map]; exact Nat.le_refl _)
/-- Rows that a call answers. -/
def RowsPost2 (l : List Rw) (w : World) (e : Ending) (w' : World) : Prop :=
  ∃ A c ls, e = .returned (.slice A ls.length c) ∧ RowsRd w' w'.heap.size A ls.length ls ∧ ls.map rowP2 = l ∧ Below w.heap.size w w'
set_option maxRecDepth 100000 in
set_option maxHeartbeats 4000000 in
theorem sstretch_any {q hb mb : Nat} {D : DataW Unit} {L : List HLn} {dq : Nat} {dv bv : Value} {Bl : List BkV} {S : StM} (f : Int) (w : World) (h : StAt w q hb mb D L dq dv bv Bl S) (hO : HdOk L) (hf : -1099511627776 ≤ f ∧ f ≤ 1099511627776) (hsp : 1 ≤ S.sp ∧ S.sp ≤ 100000) :
    Calls Tryz.prog 63 #[.pointer (some ⟨q, 0, none⟩), .int .i64 f] w (RowsPost2 (stretchR S.A f (f + S.sp - 1)) w) := by
  rw [← h.ab, strN_lns]
  have z0 : w.cell? ⟨q, 0, none⟩ = some (.pointer (some ⟨hb, 0, none⟩)) := h.hd.cell 0
  have Hser := Lib.hid (hseries_any w h.he (by have := hO.n60; omega) (fun x hx => Nat.le_trans (hO.nm x hx) (by decide)))
  rw [hSer_lns] at Hser
  have HH := Lib.hid (fun W (hb : Below w.heap.size w W) => h.below hb)
  have Hac := Lib.hid (fun W (hb' : Below w.heap.size w W) => show W.cell? ⟨q, 0, none⟩ = some (.pointer (some ⟨hb, 0, none⟩)) ∧ W.cell? ⟨q, 2, none⟩ = some (.int .i64 S.sp) from ⟨(h.below hb').hd.cell 0, (h.below hb').hd.cell 2⟩)
  have HO := Lib.hid hO
  have hlen : (lnsOf L).length ≤ 60 := Nat.le_trans (lnsOf_len L) hO.n60
  have Hmem := Lib.hid (fun x (hx : x ∈ lnsOf L) => lnsOf_mem hx)
  obtain ⟨i0, hi, hz0, hz1, hz2⟩ := info_parts infoRow
  have Hi := Lib.hid hi; have Hz0 := Lib.hid hz0; have Hz1 := Lib.hid hz1; have Hz2 := Lib.hid hz2
  clear hi hz0 hz1 hz2
  obtain ⟨sp, hspe⟩ : ∃ sp, sp = S.sp := ⟨_, rfl⟩
  obtain ⟨t, ht⟩ : ∃ t, t = f + S.sp - 1 := ⟨_, rfl⟩
  rw [← ht]
  rw [← hspe] at Hac hsp ht
  have hw1 : IntKind.i64.wrap (f + sp) = f + sp := by rw [IntKind.wrap_i64]; omega
  have hw2 : IntKind.i64.wrap (f + sp - 1) = t := by rw [IntKind.wrap_i64, ht]; omega
  clear h hO hspe ht
  obtain ⟨N, hN⟩ : ∃ N, N = lnsOf L := ⟨_, rfl⟩
  rw [← hN] at Hser hlen Hmem ⊢
  clear hN
  obtain ⟨n, hn⟩ : ∃ n, n = N.length := ⟨_, rfl⟩
  rw [List.length_map, ← hn] at Hser
  rw [← hn] at hlen
  have Hn := Lib.hid hn
  clear hn
  have Hw1 := Lib.hid hw1; have Hw2 := Lib.hid hw2
  clear hw1 hw2
  go_enter Tryz.func63, Tryz.ntmps63
  go_wp2_with fail
  refine Hser.out.mono ?_
  rintro e w1 ⟨v1, rfl, hown, hb1⟩
  obtain ⟨A1, c1, rfl, _, _, hr1⟩ := own_form hown
  have HR1 := Lib.hid (fun W (hb : Below w1.heap.size w1 W) (k : Nat) (hk : k < n) => (show Rd W w1.heap.size 1 A1 n (N.map fun x : HLn => Value.string (B8 x.nm)) from by
    have e : txC (N.map (·.nm)) = N.map fun x : HLn => Value.string (B8 x.nm) := by unfold txC; rw [List.map_map]; rfl
    rw [← e]; exact hr1.below hb).at1 hk)
  have HB1 := Lib.hid hb1
  clear hown hb1 hr1 z0
  go_wp2
  go_loopw [5, 15] (fun ov iv wr => ∃ (k m : Nat) (ls : List RowV), k ≤ n ∧ m ≤ k ∧ iv = .int .i64 k ∧ wr.ownsRow w1.heap.size 58 2 ov m (rowC ls) ∧ ls.length = m ∧ ls.map rowP2 = strN (N.take k) f t ∧ RowsOwn w1.heap.size wr ls ∧ Below w1.heap.size w1 wr) (fun _ iv _ => n - (intOf iv).toNat)
  case atStart => exact ⟨0, 0, [], Nat.zero_le _, Nat.le_refl _, rfl, World.ownsRow_nil _ _ _ _, rfl, rfl, RowsOwn.nil _ _, Below.refl _ _⟩
  case round =>
    obtain ⟨k, m, ls, hk, hm, rfl, hown, hll, hmap, hro, hbr⟩ := hrel
    obtain ⟨Ao, co, rfl, _, _, _⟩ := own_form hown
    have HBr := Lib.hid hbr; have Hown := Lib.hid hown; have Hll := Lib.hid hll; have Hmap := Lib.hid hmap; have Hro := Lib.hid hro
    have HBw := Lib.hid (Below.call HB1.out hbr HB1.out.size)
    clear hown hll hmap hro
    by_cases hkn : k < n
    · obtain ⟨bb, off, x, hAe, had, hx, e0⟩ := HR1.out _ hbr k hkn
      subst hAe
      obtain ⟨hxL, hxp⟩ := Hmem.out x (List.mem_of_getElem? hx)
      have hSt := HH.out _ HBw.out
      have Hpt := Lib.hid (fun W (hb : Below w.heap.size w W) => hpoints_any x.nm f t W (Nat.le_trans (HO.out.nm x hxL) (by decide)) (HH.out _ hb).he (fun y hy => Nat.le_trans (HO.out.pts y hy) (by decide)))
      rw [hSt.he.pts_of hxL] at Hpt
      have Hst := Lib.hid (show strN (N.take (k + 1)) f t = strN (N.take k) f t ++ (if betL f t x.pts = [] then [] else [(x.nm, betL f t x.pts)]) by rw [take_snoc hx, strN_snoc])
      clear hbr hx hxL hxp hSt
      obtain ⟨P, hP⟩ : ∃ P, P = betL f t x.pts := ⟨_, rfl⟩
      rw [← hP] at Hpt Hst
      clear hP
      obtain ⟨sn, hsn⟩ : ∃ sn, sn = B8 x.nm := ⟨_, rfl⟩
      rw [← hsn] at e0 Hpt
      have Hsn := Lib.hid hsn
      clear hsn
      obtain ⟨p, hp⟩ : ∃ p, p = P.length := ⟨_, rfl⟩
      have Hp := Lib.hid hp
      rw [← hp] at Hpt
      clear hp
      go_wp2
      have HDr := Lib.hid (show Below w.heap.size w wr.drew from HBw.out.drew)
      have hw1 := Hw1.out; have hw2 := Hw2.out
      go_region_held3 (fun w' => w'.cell? ⟨q, 0, none⟩ = some (.pointer (some ⟨hb, 0, none⟩)) ∧ w'.cell? ⟨q, 2, none⟩ = some (.int .i64 sp))
        (first | with_reducible exact Hac.out _ HDr.out | with_reducible exact Hac.out _ HM6.out | exact Hac.out _ HDr.out)
        (first | (go_at_call 61; (with_reducible refine (Hpt.out _ HDr.out).mono ?_); rintro e6 w6 ⟨v6, rfl, ho6, hb6⟩; have HO6 := Lib.hid (own_base ho6 (show w1.heap.size ≤ wr.drew.heap.size from HBr.out.size)); have HB6 := Lib.hid (show Below w1.heap.size w1 w6 from Below.call HBr.out.drew hb6 HBr.out.size); have HM6 := Lib.hid (show Below w.heap.size w w6 from Below.call HDr.out hb6 HDr.out.size); have HW6 := Lib.hid (own_below Hown.out (show Below wr.heap.size wr w6 from Below.call (Below.refl _ _).drew hb6 (Nat.le_refl _)) (Nat.le_refl _)); have HR6 := Lib.hid (Hro.out.below (show Below wr.heap.size wr w6 from Below.call (Below.refl _ _).drew hb6 (Nat.le_refl _)) (Nat.le_refl _)); obtain ⟨A6, c6, rfl, _, _, _⟩ := own_form ho6; clear ho6 hb6))
      clear hw1 hw2
      by_cases hp0 : p = 0
      · have Hs := Lib.hid (show strN (N.take (k + 1)) f t = strN (N.take k) f t by rw [Hst.out, if_pos (List.eq_nil_of_length_eq_zero (Hp.out.symm.trans hp0)), List.append_nil])
        subst hp0
        go_wp2
        go_roundw
        case rel => exact ⟨k + 1, m, ls, by omega, by omega, by go_num, HW6.out, Hll.out, Hmap.out.trans Hs.out.symm, HR6.out, HB6.out⟩
        case measure => simp [intOf]; omega
      · have hp0' : (0 : Int) < (p : Int) := by omega
        have Hs := Lib.hid (show strN (N.take (k + 1)) f t = strN (N.take k) f t ++ [(x.nm, P)] by rw [Hst.out, if_neg (fun e => hp0 (by rw [Hp.out, e]; rfl))])
        have HoA := Lib.hid (show (w6.alloc (.cells #[.string sn, .slice A6 p c6] 58)).ownsRow w1.heap.size 58 2 (.slice Ao m co) m (rowC ls) from HW6.out.alloc _)
        have HrA := Lib.hid (rd_new2 w6 58 (.string sn) (.slice A6 p c6))
        have HzA := Lib.hid (show w1.heap.size ≤ (w6.alloc (.cells #[.string sn, .slice A6 p c6] 58)).heap.size by have := HB6.out.size; simp; omega)
        have HbA := Lib.hid (show Below w1.heap.size w1 (w6.alloc (.cells #[.string sn, .slice A6 p c6] 58)) from Below.alloc HB6.out HB6.out.size _)
        have HRA := Lib.hid (show RowsOwn w1.heap.size (w6.alloc (.cells #[.string sn, .slice A6 p c6] 58)) ls from fun r hr => (HR6.out r hr).alloc _)
        have HOA := Lib.hid (show (w6.alloc (.cells #[.string sn, .slice A6 p c6] 58)).ownsRow w1.heap.size 39 2 (.slice A6 p c6) p (ptsC P) from HO6.out.alloc _)
        have hk63 : m + 1 ≤ maxLen := by unfold maxLen; omega
        have hk8 : (m + 1) * 40 ≤ 140737488355328 := by omega
        have Hone := Lib.hid (show ∀ u ∈ [Value.string sn, Value.slice A6 p c6], u.oneCell' = true by intro u hu; simp at hu; rcases hu with rfl | rfl <;> rfl)
        go_wp2_with (at_builtin; refine wpList_append_rd _ rfl (.tmp 36) (.tmp 40) _ rfl w1.heap.size 58 i0 (.agg #[.string ⟨#[]⟩, .slice none 0 0]) 2 40 Tryz.underlying40 Hi.out Hz0.out Hz1.out Hz2.out rfl (by decide) (.slice Ao m co) m _ rfl HoA.out _ _ 1 1 [.string sn, .slice A6 p c6] rfl HrA.out Hone.out hk63 hk8 HzA.out ?_; intro v' wb hown' hgr hat; have Hv := Lib.hid hown'; have HBb := Lib.hid (Below.grown HbA.out hgr HzA.out (fun g hg => (own_lt HoA.out g hg).1)); have HRb := Lib.hid (HRA.out.after HoA.out hgr); have HOb := Lib.hid (own_after HOA.out HoA.out (by decide) hgr); clear hown' hgr hat)
        go_roundw
        case rel =>
          refine ⟨k + 1, m + 1, ls ++ [⟨x.nm, P, .slice A6 p c6⟩], by omega, by omega, by go_num, ?_, by rw [List.length_append, Hll.out]; rfl, ?_, ?_, HBb.out⟩
          · rw [rowC_snoc]
            have := Hv.out
            rw [Hsn.out] at this
            exact this
          · rw [List.map_append, Hmap.out, Hs.out]; rfl
          · refine HRb.out.snoc ?_
            show wb.ownsRow _ _ _ (.slice A6 p c6) P.length (ptsC P)
            rw [← Hp.out]
            exact HOb.out
        case measure => simp [intOf]; omega
    · obtain rfl : k = n := by omega
      have He := Lib.hid (show N.take k = N from List.take_of_length_le (by rw [Hn.out]; exact Nat.le_refl _))
      clear hbr
      go_wp2
      go_ret
      refine ⟨Ao, co, ls, by show Ending.returned (.slice Ao m co) = _; rw [Hll.out], ⟨by rw [Hll.out]; exact Rd.of_own Hown.out, fun r hr => ?_⟩, by rw [Hmap.out, He.out], HBw.out⟩
      obtain ⟨A, c, e, _, _, hrd⟩ := own_form (Hro.out r hr)
      exact ⟨A, c, e, hrd⟩
end Go.Proofs.YthgefobcohlegaaGreatDoor

namespace Go.Proofs.YthgefobcohlegaaGreatDoor
open Go.RowKit Go.Maps
set_option linter.unusedVariables false

theorem infoBk : (Tryz.prog.info? 85).map (fun i => (i.zero, i.size, i.bytes)) = some (some (.agg #[.int .i64 0, .int .i64 0, .slice none 0 0, .slice none 0 0]), 4, 64) := by kernel_rfl
theorem run_nilBk (w : World) (A : Option Addr) (n c : Nat) : (binOp .eql 55 (.slice A n c) (.slice none 0 0)).run Tryz.prog w = .ok (.bool A.isNone) w :=
  Lib.run_eql_slice_nil w 55 85 A n c 0 0 Tryz.underlying55
set_option maxRecDepth 100000 in
theorem cloneBk_any (A : Option Addr) (n c : Nat) (xs : List Value) (w : World) (hA : Rd w w.heap.size 4 A n xs) (h1 : ∀ u ∈ xs, u.oneCell' = true) (hn : n ≤ 100000) :
    Calls Tryz.prog 36 #[.slice A n c] w fun e w' => ∃ v, e = .returned v ∧ w'.ownsRow w.heap.size 85 4 v n xs ∧ Below w.heap.size w w' := by
  obtain ⟨i0, hi, hz0, hz1, hz2⟩ := info_parts infoBk
  have Hi := Lib.hid hi; have Hz0 := Lib.hid hz0; have Hz1 := Lib.hid hz1; have Hz2 := Lib.hid hz2
  have HA := Lib.hid hA; have Hone := Lib.hid h1
  clear hi hz0 hz1 hz2 h1
  cases A with
  | none =>
    have hn0 : n = 0 := by
      rcases Nat.eq_zero_or_pos n with h | h
      · exact h
      · obtain ⟨b, o, e, _⟩ := hA.2 h; cases e
    subst hn0
    have hps := hA.1
    have Hp := Lib.hid (show xs = [] from List.eq_nil_of_length_eq_zero (by simpa using hA.1))
    have heq : (binOp .eql 55 (.slice none 0 c) (.slice none 0 0)).run Tryz.prog w = .ok (.bool true) w := run_nilBk w none 0 c
    clear hA hps
    go_enter Tryz.func36, Tryz.ntmps36
    go_wp2
    go_ret
    exact ⟨_, rfl, by rw [Hp.out]; exact World.ownsRow_nil _ _ _ _, Below.refl _ _⟩
  | some a =>
    have hk63 : 0 + n ≤ maxLen := by unfold maxLen; omega
    have hk8 : (0 + n) * 64 ≤ 140737488355328 := by omega
    have Hr := Lib.hid ((hA.alloc (Nat.le_refl _) (.cells #[] 85)).more (B' := (w.alloc (.cells #[] 85)).heap.size) (by simp))
    have Ho := Lib.hid (World.ownsRow_made (base := w.heap.size) (e := 85) (size := 4) w #[] 0 (Nat.le_refl _) (Nat.zero_le _) rfl)
    have Hb := Lib.hid (show Below w.heap.size w (w.alloc (.cells #[] 85)) from Below.alloc (Below.refl _ _) (Nat.le_refl _) _)
    have Hs := Lib.hid (show w.heap.size ≤ (w.alloc (.cells #[] 85)).heap.size by simp)
    have heq : (binOp .eql 55 (.slice (some a) n c) (.slice none 0 0)).run Tryz.prog w = .ok (.bool false) w := run_nilBk w (some a) n c
    clear hA
    go_enter Tryz.func36, Tryz.ntmps36
    go_wp2_with (at_builtin; refine wpList_append_rd _ rfl (.tmp 5) (.tmp 6) _ rfl w.heap.size 85 i0 (.agg #[.int .i64 0, .int .i64 0, .slice none 0 0, .slice none 0 0]) 4 64 Tryz.underlying55 Hi.out Hz0.out Hz1.out Hz2.out rfl (by decide) _ 0 _ rfl Ho.out _ _ n c (xs) rfl Hr.out (Hone.out) hk63 hk8 Hs.out ?_; intro v' wa hown' hgr hat; have Hown' := Lib.hid hown'; have Hbe := Lib.hid (Below.grown Hb.out hgr Hs.out (fun g hg => (own_lt Ho.out g hg).1)); clear hown' hgr hat)
    go_ret
    exact ⟨_, rfl, by simpa using Hown'.out, Hbe.out⟩

theorem run_nilTx (w : World) (A : Option Addr) (n c : Nat) : (binOp .eql 48 (.slice A n c) (.slice none 0 0)).run Tryz.prog w = .ok (.bool A.isNone) w :=
  Lib.run_eql_slice_nil w 48 9 A n c 0 0 Tryz.underlying48
set_option maxRecDepth 100000 in
theorem cloneTx_any (A : Option Addr) (n c : Nat) (xs : List Value) (w : World) (hA : Rd w w.heap.size 1 A n xs) (h1 : ∀ u ∈ xs, u.oneCell' = true) (hn : n ≤ 100000) :
    Calls Tryz.prog 40 #[.slice A n c] w fun e w' => ∃ v, e = .returned v ∧ w'.ownsRow w.heap.size 9 1 v n xs ∧ Below w.heap.size w w' := by
  obtain ⟨i0, hi, hz0, hz1, hz2⟩ := info_parts infoTx
  have Hi := Lib.hid hi; have Hz0 := Lib.hid hz0; have Hz1 := Lib.hid hz1; have Hz2 := Lib.hid hz2
  have HA := Lib.hid hA; have Hone := Lib.hid h1
  clear hi hz0 hz1 hz2 h1
  cases A with
  | none =>
    have hn0 : n = 0 := by
      rcases Nat.eq_zero_or_pos n with h | h
      · exact h
      · obtain ⟨b, o, e, _⟩ := hA.2 h; cases e
    subst hn0
    have hps := hA.1
    have Hp := Lib.hid (show xs = [] from List.eq_nil_of_length_eq_zero (by simpa using hA.1))
    have heq : (binOp .eql 48 (.slice none 0 c) (.slice none 0 0)).run Tryz.prog w = .ok (.bool true) w := run_nilTx w none 0 c
    clear hA hps
    go_enter Tryz.func40, Tryz.ntmps40
    go_wp2
    go_ret
    exact ⟨_, rfl, by rw [Hp.out]; exact World.ownsRow_nil _ _ _ _, Below.refl _ _⟩
  | some a =>
    have hk63 : 0 + n ≤ maxLen := by unfold maxLen; omega
    have hk8 : (0 + n) * 16 ≤ 140737488355328 := by omega
    have Hr := Lib.hid ((hA.alloc (Nat.le_refl _) (.cells #[] 9)).more (B' := (w.alloc (.cells #[] 9)).heap.size) (by simp))
    have Ho := Lib.hid (World.ownsRow_made (base := w.heap.size) (e := 9) (size := 1) w #[] 0 (Nat.le_refl _) (Nat.zero_le _) rfl)
    have Hb := Lib.hid (show Below w.heap.size w (w.alloc (.cells #[] 9)) from Below.alloc (Below.refl _ _) (Nat.le_refl _) _)
    have Hs := Lib.hid (show w.heap.size ≤ (w.alloc (.cells #[] 9)).heap.size by simp)
    have heq : (binOp .eql 48 (.slice (some a) n c) (.slice none 0 0)).run Tryz.prog w = .ok (.bool false) w := run_nilTx w (some a) n c
    clear hA
    go_enter Tryz.func40, Tryz.ntmps40
    go_wp2_with (at_builtin; refine wpList_append_rd _ rfl (.tmp 5) (.tmp 6) _ rfl w.heap.size 9 i0 (.string ⟨#[]⟩) 1 16 Tryz.underlying48 Hi.out Hz0.out Hz1.out Hz2.out rfl (by decide) _ 0 _ rfl Ho.out _ _ n c (xs) rfl Hr.out (Hone.out) hk63 hk8 Hs.out ?_; intro v' wa hown' hgr hat; have Hown' := Lib.hid hown'; have Hbe := Lib.hid (Below.grown Hb.out hgr Hs.out (fun g hg => (own_lt Ho.out g hg).1)); clear hown' hgr hat)
    go_ret
    exact ⟨_, rfl, by simpa using Hown'.out, Hbe.out⟩
end Go.Proofs.YthgefobcohlegaaGreatDoor

namespace Go.Proofs.YthgefobcohlegaaGreatDoor
open Go.RowKit Go.Maps
set_option linter.unusedVariables false

theorem run_nilSl (w : World) (A : Option Addr) (n c : Nat) : (binOp .eql 54 (.slice A n c) (.slice none 0 0)).run Tryz.prog w = .ok (.bool A.isNone) w :=
  Lib.run_eql_slice_nil w 54 39 A n c 0 0 Tryz.underlying54
set_option maxRecDepth 100000 in
theorem clonePts_any (A : Option Addr) (n c : Nat) (ps : List (Int × Int)) (w : World) (hA : Rd w w.heap.size 2 A n (ptsC ps)) (hn : n ≤ 100000) :
    Calls Tryz.prog 91 #[.slice A n c] w fun e w' => ∃ v, e = .returned v ∧ w'.ownsRow w.heap.size 39 2 v n (ptsC ps) ∧ Below w.heap.size w w' := by
  obtain ⟨i0, hi, hz0, hz1, hz2⟩ := info_parts infoPt
  have Hi := Lib.hid hi; have Hz0 := Lib.hid hz0; have Hz1 := Lib.hid hz1; have Hz2 := Lib.hid hz2
  have HA := Lib.hid hA
  clear hi hz0 hz1 hz2
  cases A with
  | none =>
    have hn0 : n = 0 := by
      rcases Nat.eq_zero_or_pos n with h | h
      · exact h
      · obtain ⟨b, o, e, _⟩ := hA.2 h; cases e
    subst hn0
    have hps := hA.1
    have Hp := Lib.hid (show ptsC ps = [] from List.eq_nil_of_length_eq_zero (by simpa using hA.1))
    have heq : (binOp .eql 54 (.slice none 0 c) (.slice none 0 0)).run Tryz.prog w = .ok (.bool true) w := run_nilSl w none 0 c
    clear hA hps
    go_enter Tryz.func91, Tryz.ntmps91
    go_wp2
    go_ret
    exact ⟨_, rfl, by rw [Hp.out]; exact World.ownsRow_nil _ _ _ _, Below.refl _ _⟩
  | some a =>
    have hk63 : 0 + n ≤ maxLen := by unfold maxLen; omega
    have hk8 : (0 + n) * 16 ≤ 140737488355328 := by omega
    have Hr := Lib.hid ((hA.alloc (Nat.le_refl _) (.cells #[] 39)).more (B' := (w.alloc (.cells #[] 39)).heap.size) (by simp))
    have Ho := Lib.hid (World.ownsRow_made (base := w.heap.size) (e := 39) (size := 2) w #[] 0 (Nat.le_refl _) (Nat.zero_le _) rfl)
    have Hb := Lib.hid (show Below w.heap.size w (w.alloc (.cells #[] 39)) from Below.alloc (Below.refl _ _) (Nat.le_refl _) _)
    have Hs := Lib.hid (show w.heap.size ≤ (w.alloc (.cells #[] 39)).heap.size by simp)
    have heq : (binOp .eql 54 (.slice (some a) n c) (.slice none 0 0)).run Tryz.prog w = .ok (.bool false) w := run_nilSl w (some a) n c
    clear hA
    go_enter Tryz.func91, Tryz.ntmps91
    go_wp2_with (at_builtin; refine wpList_append_rd _ rfl (.tmp 5) (.tmp 6) _ rfl w.heap.size 39 i0 (.agg #[.int .i64 0, .int .u64 0]) 2 16 Tryz.underlying54 Hi.out Hz0.out Hz1.out Hz2.out rfl (by decide) _ 0 _ rfl Ho.out _ _ n c (ptsC ps) rfl Hr.out (ptsC_one ps) hk63 hk8 Hs.out ?_; intro v' wa hown' hgr hat; have Hown' := Lib.hid hown'; have Hbe := Lib.hid (Below.grown Hb.out hgr Hs.out (fun g hg => (own_lt Ho.out g hg).1)); clear hown' hgr hat)
    go_ret
    exact ⟨_, rfl, by simpa using Hown'.out, Hbe.out⟩

/-- Of the lines with these names, what is left. -/
def cutA (A : List HA) (ns : List Bs) (b : Int) : List HA := A.map fun x => if x.1 ∈ ns then (x.1, hLeft b x.2.1, x.2.2) else x
theorem cutA_nil (A : List HA) (b : Int) : cutA A [] b = A := by
  unfold cutA
  conv => rhs; rw [← List.map_id A]
  apply List.map_congr_left
  intro x _
  simp
def rowsM (M : List HLn) (b : Int) : List (Bs × List (Int × Int)) := (M.filter fun x => decide (hGone b x.pts ≠ [])).map fun x => (x.nm, hGone b x.pts)
theorem rowsM_snoc (M : List HLn) (x : HLn) (b : Int) : rowsM (M ++ [x]) b = rowsM M b ++ if hGone b x.pts = [] then [] else [(x.nm, hGone b x.pts)] := by
  unfold rowsM
  rw [List.filter_append, List.map_append]
  congr 1
  by_cases h : hGone b x.pts = []
  · simp [h]
  · simp [h]
theorem left_gone {b : Int} {l : List (Int × Int)} (h : hGone b l = []) : hLeft b l = l := by
  have := List.takeWhile_append_dropWhile (p := fun p : Int × Int => decide (p.1 < b)) (l := l)
  unfold hGone at h
  rw [h] at this
  exact this
theorem rows_end (L : List HLn) (b : Int) : rowsM (L.filter fun x => decide (x.pts ≠ [])) b = hCutR (absL L) b := by
  unfold rowsM hCutR absL
  rw [List.filter_filter, List.filter_map, List.map_map]
  congr 1
  apply List.filter_congr
  intro x _
  simp only [Function.comp]
  by_cases h : x.pts = []
  · simp [h, hGone]
  · simp [h]
theorem cut_end (L : List HLn) (b : Int) : cutA (absL L) ((L.filter fun x => decide (x.pts ≠ [])).map (·.nm)) b = hCut (absL L) b := by
  unfold cutA hCut absL
  rw [List.map_map, List.map_map]
  apply List.map_congr_left
  intro x hx
  simp only [Function.comp]
  by_cases h : x.pts = []
  · split
    · rfl
    · rw [h]; rfl
  · rw [if_pos (List.mem_map.2 ⟨x, List.mem_filter.2 ⟨hx, by simpa using h⟩, rfl⟩)]
theorem absL_turn0 (L : List HLn) (s : Bs) (v : Value) (pts : List (Int × Int)) (last : Int) : absL (turnL L s v pts last) = (absL L).map fun y => if y.1 == s then (y.1, pts, last) else y := by
  unfold absL turnL
  rw [List.map_map, List.map_map]
  apply List.map_congr_left
  intro y _
  simp only [Function.comp]
  split <;> rfl
theorem abs_inj {L : List HLn} (h : hSrt (absL L)) {x : HLn} (hx : x ∈ L) {y : HA} (hy : y ∈ absL L) (e : y.1 = x.nm) : y = (x.nm, x.pts, x.last) := by
  obtain ⟨z, hz, rfl⟩ := List.mem_map.1 hy
  obtain rfl := srt_inj h hz hx e
  rfl
/-- One line more is cut. -/
theorem cutA_turn {L L2 : List HLn} {x : HLn} {ns : List Bs} {b : Int} (h : hSrt (absL L)) (hx : x ∈ L) (he : absL L2 = cutA (absL L) ns b) (v : Value) :
    absL (turnL L2 x.nm v (hLeft b x.pts) x.last) = cutA (absL L) (ns ++ [x.nm]) b := by
  rw [absL_turn0, he]
  unfold cutA
  rw [List.map_map]
  apply List.map_congr_left
  intro y hy
  simp only [Function.comp]
  by_cases e : y.1 = x.nm
  · have ey := abs_inj h hx hy e
    rw [ey]
    simp
    split <;> simp
  · have e2 : ∀ z : HA, z.1 = y.1 → (if z.1 == x.nm then (z.1, hLeft b x.pts, x.last) else z) = z := fun z hz => by rw [if_neg (by rw [hz]; simpa using e)]
    by_cases hm : y.1 ∈ ns
    · have m1 : y.1 ∈ ns ++ [x.nm] := List.mem_append_left _ hm
      have e3 : (if y.1 ∈ ns then (y.1, hLeft b y.2.1, y.2.2) else y) = (y.1, hLeft b y.2.1, y.2.2) := if_pos hm
      rw [e3, if_pos m1]
      exact e2 _ rfl
    · have m1 : ¬ y.1 ∈ ns ++ [x.nm] := by simp [hm, e]
      have e3 : (if y.1 ∈ ns then (y.1, hLeft b y.2.1, y.2.2) else y) = y := if_neg hm
      rw [e3, if_neg m1]
      exact e2 _ rfl
theorem cutA_keep {L : List HLn} {x : HLn} {ns : List Bs} {b : Int} (h : hSrt (absL L)) (hx : x ∈ L) (hg : hGone b x.pts = []) : cutA (absL L) (ns ++ [x.nm]) b = cutA (absL L) ns b := by
  unfold cutA
  apply List.map_congr_left
  intro y hy
  by_cases e : y.1 = x.nm
  · have ey := abs_inj h hx hy e
    rw [ey]
    simp [left_gone hg]
  · by_cases hm : y.1 ∈ ns
    · rw [if_pos hm, if_pos (by simp [hm])]
    · rw [if_neg hm, if_neg (by simp [hm, e])]
/-- The line as it lies now. -/
theorem line_now {L L2 : List HLn} {x : HLn} {ns : List Bs} {b : Int} (hx : x ∈ L) (he : absL L2 = cutA (absL L) ns b) (hn : x.nm ∉ ns) : ∃ y ∈ L2, y.nm = x.nm ∧ y.pts = x.pts ∧ y.last = x.last := by
  have : (x.nm, x.pts, x.last) ∈ absL L2 := by
    rw [he]
    unfold cutA
    refine List.mem_map.2 ⟨(x.nm, x.pts, x.last), List.mem_map.2 ⟨x, hx, rfl⟩, ?_⟩
    rw [if_neg hn]
  obtain ⟨y, hy, e⟩ := List.mem_map.1 this
  injection e with e1 e2
  injection e2 with e2 e3
  exact ⟨y, hy, e1, e2, e3⟩
/-- Rows in memory. -/
structure RwV where
  nm : Bs
  v : Value
  pts : List (Int × Int)
def rwC (R : List RwV) : List Value := R.flatMap fun r => [.string (B8 r.nm), r.v]
def rwA (R : List RwV) : List (Bs × List (Int × Int)) := R.map fun r => (r.nm, r.pts)
def RowsAt (w : World) (base : Nat) (v : Value) (R : List RwV) : Prop := w.ownsRow base 58 2 v R.length (rwC R) ∧ ∀ r ∈ R, w.ownsRow base 39 2 r.v r.pts.length (ptsC r.pts)
theorem infoRw : (Tryz.prog.info? 58).map (fun i => (i.zero, i.size, i.bytes)) = some (some (.agg #[.string ⟨#[]⟩, .slice none 0 0]), 2, 40) := by kernel_rfl
theorem rwC_snoc (R : List RwV) (r : RwV) : rwC (R ++ [r]) = rwC R ++ [.string (B8 r.nm), r.v] := by simp [rwC]
end Go.Proofs.YthgefobcohlegaaGreatDoor

namespace Go.Proofs.YthgefobcohlegaaGreatDoor
open Go.RowKit Go.Maps
set_option linter.unusedVariables false

theorem gone_take (b : Int) (l : List (Int × Int)) : hGone b l = l.take (hGone b l).length ∧ hLeft b l = l.drop (hGone b l).length := by
  have e := List.takeWhile_append_dropWhile (p := fun p : Int × Int => decide (p.1 < b)) (l := l)
  have key : ∀ t d : List (Int × Int), t ++ d = l → t = l.take t.length ∧ d = l.drop t.length := by
    rintro t d rfl
    exact ⟨List.take_left.symm, List.drop_left.symm⟩
  exact key _ _ e
theorem gone_at (b : Int) : ∀ (l : List (Int × Int)) (j : Nat) (y : Int × Int), (∀ i z, i < j → l[i]? = some z → z.1 < b) → l[j]? = some y → ¬ y.1 < b → (hGone b l).length = j
  | [], j, y, _, h, _ => by simp at h
  | x :: l, 0, y, _, h, hy => by
    obtain rfl : x = y := by simpa using h
    unfold hGone
    rw [List.takeWhile_cons, if_neg (by simpa using hy)]; rfl
  | x :: l, j + 1, y, hp, h, hy => by
    have hx : x.1 < b := hp 0 x (Nat.succ_pos _) rfl
    have ih := gone_at b l j y (fun i z hi hz => hp (i + 1) z (by omega) (by simpa using hz)) (by simpa using h) hy
    unfold hGone at ih ⊢
    rw [List.takeWhile_cons, if_pos (by simpa using hx), List.length_cons, ih]
theorem gone_all (b : Int) : ∀ (l : List (Int × Int)), (∀ (i : Nat) (z : Int × Int), l[i]? = some z → z.1 < b) → (hGone b l).length = l.length
  | [], _ => rfl
  | x :: l, hp => by
    have hx : x.1 < b := hp 0 x rfl
    have ih := gone_all b l (fun i z hz => hp (i + 1) z (by simpa using hz))
    unfold hGone at ih ⊢
    rw [List.takeWhile_cons, if_pos (by simpa using hx), List.length_cons, ih, List.length_cons]

/-- Between two rounds. -/
structure CutInv (F : Nat → Prop) (q mb : Nat) (D : DataW Unit) (L : List HLn) (b : Int) (w w1 : World) (A1 : Option Addr) (c1 m k : Nat) (o : Value) (wr : World) (L2 : List HLn) (R : List RwV) : Prop where
  hd : HeadAt wr (fun j => F j ∨ w.heap.size ≤ j) q mb D L2
  ab : absL L2 = cutA (absL L) (((L.filter fun x => decide (x.pts ≠ [])).take k).map (·.nm)) b
  rw_ : RowsAt wr w1.heap.size o R
  rows : rwA R = rowsM ((L.filter fun x => decide (x.pts ≠ [])).take k) b
  nms : wr.ownsRow w.heap.size 9 1 (.slice A1 m c1) m (txC (hSer L))
  fr : Fr F w wr
  sz : w1.heap.size ≤ wr.heap.size
  nl : R = [] → o = .slice none 0 0
theorem CutInv.skip {F : Nat → Prop} {q mb : Nat} {D : DataW Unit} {L : List HLn} {b : Int} {w w1 : World} {A1 : Option Addr} {c1 m k : Nat} {o : Value} {wr : World} {L2 : List HLn} {R : List RwV} (h : CutInv F q mb D L b w w1 A1 c1 m k o wr L2 R) (hs : hSrt (absL L)) {x : HLn} (hx : (L.filter fun x => decide (x.pts ≠ []))[k]? = some x) (hg : hGone b x.pts = []) :
    CutInv F q mb D L b w w1 A1 c1 m (k + 1) o wr L2 R := by
  have hxm : x ∈ L := (List.mem_filter.1 (List.mem_of_getElem? hx)).1
  refine ⟨h.hd, ?_, h.rw_, ?_, h.nms, h.fr, h.sz, h.nl⟩
  · rw [take_snoc hx, List.map_append, List.map_singleton, cutA_keep hs hxm hg]; exact h.ab
  · rw [take_snoc hx, rowsM_snoc, if_pos hg, List.append_nil]; exact h.rows
theorem ownZ_typed {w : World} {k : Nat} {e : TypeId} {size n : Nat} {v : Value} {xs : List Value} (h : OwnZ w e size v n xs) (hk : ownZB v = some k) : ∃ cs, Blk w k e cs := by
  rcases h with ⟨_, _, A, rfl⟩ | ⟨_, h⟩
  · simp [ownZB, capOf] at hk
  · exact own_typed h (ownZB_le hk)
/-- Writes into blocks of other types leave a head as it was. -/
theorem HeadAt.frT {S F : Nat → Prop} {w w' : World} {q mb : Nat} {D : DataW Unit} {L : List HLn} (h : HeadAt w F q mb D L) (hf : Fr S w w') (hS : ∀ k, S k → k < w.heap.size → ∃ t cs, Blk w k t cs ∧ t ≠ 110 ∧ t ≠ 114 ∧ t ≠ 39) : HeadAt w' F q mb D L := by
  have n1 : ∀ {k : Nat} {t : TypeId} {cs : Array Value}, Blk w k t cs → (t = 110 ∨ t = 114 ∨ t = 39) → ¬ S k := by
    intro k t cs hb ht hk
    obtain ⟨t', cs', hb', h1, h2, h3⟩ := hS k hk hb.lt
    obtain rfl := blk_type hb hb'
    rcases ht with ht | ht | ht
    · exact h1 ht
    · exact h2 ht
    · exact h3 ht
  refine ⟨hf.blk h.hd (n1 h.hd (.inl rfl)), ownsMap_blk h.mp (hf.block _ h.mp.lt fun hk => ?_), h.dof, fun x hx => ?_, h.ap, h.fh, h.fm, h.srt⟩
  · obtain ⟨es, clock, hm, _⟩ := h.mp
    obtain ⟨t', cs', hb', _⟩ := hS mb hk h.mp.lt
    unfold Blk at hb'
    rw [hm] at hb'
    cases hb'
  · obtain ⟨x1, x2, x3⟩ := h.ln x hx
    refine ⟨hf.blk x1 (n1 x1 (.inr (.inl rfl))), x2.fr hf (fun k hk => ?_), x3⟩
    obtain ⟨cs, hc⟩ := ownZ_typed x2 hk
    exact n1 hc (.inr (.inr rfl))
theorem rd_two (W : World) (t : TypeId) (u0 u1 : Value) : Rd (W.alloc (.cells #[u0, u1] t)) (W.alloc (.cells #[u0, u1] t)).heap.size 2 (some ⟨W.heap.size, 0, none⟩) 1 [u0, u1] := by
  refine ⟨rfl, fun _ => ⟨W.heap.size, 0, rfl, by simp, fun j u hu => ?_⟩⟩
  rw [Nat.zero_add, (Blk.new W t #[u0, u1]).cell j]
  simpa using hu
theorem CutInv.rlen {F : Nat → Prop} {q mb : Nat} {D : DataW Unit} {L : List HLn} {b : Int} {w w1 : World} {A1 : Option Addr} {c1 m k : Nat} {o : Value} {wr : World} {L2 : List HLn} {R : List RwV} (h : CutInv F q mb D L b w w1 A1 c1 m k o wr L2 R) : R.length ≤ k := by
  have e := congrArg List.length h.rows
  unfold rwA rowsM at e
  rw [List.length_map, List.length_map] at e
  rw [e]
  exact Nat.le_trans (List.length_filter_le _ _) (List.length_take_le _ _)
set_option maxHeartbeats 1000000 in
theorem CutInv.step {F : Nat → Prop} {q mb : Nat} {D : DataW Unit} {L : List HLn} {b : Int} {w w1 : World} {A1 Ao A2 : Option Addr} {c1 m k co c2 j : Nat} {wr w2 w3 : World} {L2 : List HLn} {R : List RwV} {v' : Value} {x y : HLn} (h : CutInv F q mb D L b w w1 A1 c1 m k (.slice Ao R.length co) wr L2 R) (hs : hSrt (absL L)) (hw1 : w.heap.size ≤ w1.heap.size)
    (hx : (L.filter fun x => decide (x.pts ≠ []))[k]? = some x) (hy : y ∈ L2) (hyn : y.nm = x.nm) (hyp : y.pts = x.pts) (hyl : y.last = x.last) (hj : (hGone b x.pts).length = j) (hj0 : j ≠ 0)
    (hown2 : w2.ownsRow wr.heap.size 39 2 (.slice A2 j c2) j (ptsC (x.pts.take j))) (hb2 : Below wr.heap.size wr w2)
    (hown3 : w3.ownsRow w1.heap.size 58 2 v' (R.length + 1) (rwC R ++ [.string (B8 x.nm), .slice A2 j c2])) (hgr : (w2.alloc (.cells #[.string (B8 x.nm), .slice A2 j c2] 58)).grownBy w3 (Value.slice Ao R.length co).ownBlock) :
    HeadAt w3 (fun j => F j ∨ w.heap.size ≤ j) q mb D L2 ∧ w2.heap.size ≤ w3.heap.size ∧ ∀ w4 v4, w4.ownsRow w3.heap.size 39 2 v4 (x.pts.drop j).length (ptsC (x.pts.drop j)) → Below w3.heap.size w3 w4 →
      CutInv F q mb D L b w w1 A1 c1 m (k + 1) v' (w4.setCell ⟨y.bk, 0, none⟩ v4) (turnL L2 x.nm v4 (x.pts.drop j) x.last) (R ++ [⟨x.nm, .slice A2 j c2, x.pts.take j⟩]) := by
  have hxm : x ∈ L := (List.mem_filter.1 (List.mem_of_getElem? hx)).1
  have hrw2 := own_below h.rw_.1 hb2 (Nat.le_refl _)
  have hfr3 : Fr (fun k => (Value.slice Ao R.length co).ownBlock = some k) w2 w3 := ((Fr.refl _ w2).alloc _).grown hgr (fun k hk => .inr hk)
  have hd2 := h.hd.below hb2
  have hd3 : HeadAt w3 (fun j => F j ∨ w.heap.size ≤ j) q mb D L2 := hd2.frT hfr3 (fun k hk _ => by
    obtain ⟨cs, hc⟩ := own_typed hrw2 hk
    exact ⟨_, cs, hc, by decide, by decide, by decide⟩)
  refine ⟨hd3, hfr3.size, fun w4 v4 ho4 hb4 => ?_⟩
  obtain ⟨g1, g2⟩ := gone_take b x.pts
  rw [hj] at g1 g2
  have hg : hGone b x.pts ≠ [] := fun e => hj0 (by rw [← hj, e]; rfl)
  -- the line's block behind the store
  obtain ⟨y1, y2, y3, y4⟩ := hd3.ln y hy
  have hz : Fr (fun k => k = y.bk) w4 (w4.setCell ⟨y.bk, 0, none⟩ v4) := Fr.setCell (S := fun k => k = y.bk) (Fr.refl _ _) (p := ⟨y.bk, 0, none⟩) (.inr rfl) v4
  have y1b : Blk w4 y.bk 114 #[y.v, .int .i64 y.last] := y1.below hb4 y1.lt
  have hzb : Blk (w4.setCell ⟨y.bk, 0, none⟩ v4) y.bk 114 #[v4, .int .i64 x.last] := by rw [← hyl]; exact y1b.set_ 0 v4
  have ht := hd3.turn (S := fun _ => False) (N := w.heap.size) (v := v4) (pts := x.pts.drop j) (last := x.last) hy (Fr.ofBelow hb4) (fun k hk => hk.elim) (OwnZ.of_own ho4) (fun g hg => .inr ((own_lt ho4 g (ownZB_le hg)).1)) (Nat.le_trans (Nat.le_trans h.fr.size hb2.size) hfr3.size) _ hz hzb (fun g hg e => by
    have := (own_lt ho4 g (ownZB_le hg)).1
    have := y1.lt
    omega)
  have hsz : ∀ k : Nat, k < wr.heap.size → (Value.slice Ao R.length co).ownBlock ≠ some k → k ≠ y.bk → (w4.setCell ⟨y.bk, 0, none⟩ v4).heap[k]? = wr.heap[k]? := fun k h1 h2 h3 =>
    (hz.block k (Nat.lt_of_lt_of_le h1 (Nat.le_trans (Nat.le_trans hb2.size hfr3.size) hb4.size)) h3).trans ((hb4.block k (Nat.lt_of_lt_of_le h1 (Nat.le_trans hb2.size hfr3.size))).trans ((hfr3.block k (Nat.lt_of_lt_of_le h1 hb2.size) h2).trans (hb2.block k h1)))
  have ywr : Blk wr y.bk 114 #[y.v, .int .i64 y.last] := (h.hd.ln y hy).1
  have hkeep : ∀ {base : Nat} {e : TypeId} {size n : Nat} {v : Value} {xs : List Value}, wr.ownsRow base e size v n xs → e ≠ 58 → e ≠ 114 → (w4.setCell ⟨y.bk, 0, none⟩ v4).ownsRow base e size v n xs := by
    intro base e size n v xs ho h1 h2
    refine ⟨ho.1, ?_⟩
    rcases ho.2 with h3 | ⟨g, cap, cur, rfl, hb, hgg, rest⟩
    · exact .inl h3
    · refine .inr ⟨g, cap, cur, rfl, hb, (hsz g (Array.getElem?_eq_some_iff.1 hgg).1 (fun e => ?_) (fun e => ?_)).trans hgg, rest⟩
      · obtain ⟨cs, hc⟩ := own_typed h.rw_.1 e
        exact h1 (blk_type (show Blk wr g _ cur from hgg) hc)
      · subst e
        exact h2 (blk_type (show Blk wr _ _ cur from hgg) ywr)
  have hfin : Fr (fun k => k = y.bk) w3 (w4.setCell ⟨y.bk, 0, none⟩ v4) := Fr.trans ((Fr.ofBelow hb4).mono (fun _ _ h => h.elim)) hz (fun _ _ h => h)
  refine ⟨?_, ?_, ⟨?_, fun r hr => ?_⟩, ?_, hkeep h.nms (by decide) (by decide), ?_, ?_, fun e => by simp at e⟩
  · rw [← hyn]
    exact ht.1.mono (fun k hk => hk.elim (fun h => h) .inr)
  · rw [take_snoc hx, List.map_append, List.map_singleton, ← g2]
    exact cutA_turn hs hxm h.ab v4
  · rw [List.length_append, List.length_singleton, rwC_snoc]
    refine hfin.own hown3 (fun k hk e => ?_)
    obtain ⟨cs, hc⟩ := own_typed hown3 hk
    subst e
    exact absurd (blk_type hc y1) (by decide)
  · rcases List.mem_append.1 hr with hr | hr
    · exact hkeep (h.rw_.2 r hr) (by decide) (by decide)
    · obtain rfl := List.mem_singleton.1 hr
      have ho : w3.ownsRow wr.heap.size 39 2 (.slice A2 j c2) j (ptsC (x.pts.take j)) := hfr3.own hown2 (fun k hk e => by
        obtain ⟨cs, hc⟩ := own_typed hown2 hk
        obtain ⟨cs', hc'⟩ := own_typed hrw2 e
        exact absurd (blk_type hc hc') (by decide))
      have ho2 : (w4.setCell ⟨y.bk, 0, none⟩ v4).ownsRow wr.heap.size 39 2 (.slice A2 j c2) j (ptsC (x.pts.take j)) := hfin.own ho (fun k hk e => by
        obtain ⟨cs, hc⟩ := own_typed ho hk
        subst e
        exact absurd (blk_type hc y1) (by decide))
      have hl : (x.pts.take j).length = j := by rw [← g1, hj]
      show (w4.setCell ⟨y.bk, 0, none⟩ v4).ownsRow w1.heap.size 39 2 (.slice A2 j c2) (x.pts.take j).length (ptsC (x.pts.take j))
      rw [hl]
      exact own_base ho2 h.sz
  · rw [take_snoc hx, rowsM_snoc, if_neg hg, ← h.rows]
    unfold rwA
    rw [List.map_append, ← g1]; rfl
  · refine Fr.trans (Fr.trans (Fr.trans h.fr ((Fr.ofBelow hb2).mono (fun _ _ h => h.elim)) (fun _ _ h => h)) (hfr3.mono (fun k _ hk => hk)) (fun k hk e => ?_)) hfin (fun k hk e => ?_)
    · have := (own_lt hrw2 k e).1
      omega
    · rw [e]
      rcases y3 with h3 | h3
      · exact h3
      · rw [e] at hk; omega
  · exact Nat.le_trans h.sz (Nat.le_trans hb2.size (Nat.le_trans hfr3.size (Nat.le_trans hb4.size hz.size)))
theorem run_nilRw (w : World) (A : Option Addr) (n c : Nat) : (binOp .eql 40 (.slice A n c) (.slice none 0 0)).run Tryz.prog w = .ok (.bool A.isNone) w :=
  Lib.run_eql_slice_nil w 40 58 A n c 0 0 Tryz.underlying40
theorem cut_rd {w : World} {A : Option Addr} {n c j : Nat} {pts : List (Int × Int)} (h : Rd w w.heap.size 2 A n (ptsC pts)) (hj : j ≤ n) (hc : n ≤ c) : Rd w w.heap.size 2 (if c = j then A else A.map (·.add (j * 2))) (n - j) (ptsC (pts.drop j)) := by
  have h := h.cut hj hc
  rw [show (ptsC pts).drop (j * 2) = ptsC (pts.drop j) from flat_drop (fun p : Int × Int => [Value.int .i64 p.1, Value.int .u64 p.2]) 2 (fun _ => rfl) pts j] at h
  exact h
theorem line_rd {F : Nat → Prop} {w : World} {q mb n c : Nat} {D : DataW Unit} {L : List HLn} {y : HLn} {A : Option Addr} {pts : List (Int × Int)} (h : HeadAt w F q mb D L) (hy : y ∈ L) (hyp : y.pts = pts) (hv : y.v = .slice A n c) : Rd w w.heap.size 2 A n (ptsC pts) ∧ n ≤ c := by
  obtain ⟨A', c', e, h1, _, h3⟩ := (h.ln y hy).2.1.form
  rw [hv] at e
  injection e with e1 e2 e3
  rw [← e1, ← e2, hyp] at h3
  exact ⟨h3, by rw [e2, e3]; exact h1⟩
/-- What Cut answers. -/
def HCPost (es : Nat → Addr) (F : Nat → Prop) (q mb : Nat) (D : DataW Unit) (L : List HLn) (b : Int) (w : World) (e : Ending) (w' : World) : Prop :=
  ∃ L2 R v ev, e = .returned (.tuple #[v, ev]) ∧ HeadAt w' (fun j => F j ∨ w.heap.size ≤ j) q mb D L2 ∧ absL L2 = hCut (absL L) b ∧ RowsAt w' w.heap.size v R ∧ rwA R = hCutR (absL L) b ∧ Fr F w w' ∧ (hCutR (absL L) b = [] → v = .slice none 0 0 ∧ ev = sentV (es 4)) ∧ (hCutR (absL L) b ≠ [] → ev = .nilIface)
end Go.Proofs.YthgefobcohlegaaGreatDoor
