/- label.Text and the reference's LabelsText by contracts. -/
import Derived.Test.YtlpkmghhmpkddaaDoorLays
import Derived.Test.YtlpkmghhmpkddaaDoorLabChk
namespace Go.Proofs.YtlpkmghhmpkddaaDoor
open Go.RowKit
set_option linter.unusedVariables false

theorem infoStr : (Tryd.prog.info? 9).map (fun i => (i.zero, i.size, i.bytes)) = some (some (.string ⟨#[]⟩), 1, 16) := by kernel_rfl
def strC (xs : List Bs) : List Value := xs.map fun x => .string (B8 x)
theorem strC_one (xs : List Bs) : ∀ u ∈ strC xs, u.oneCell' = true := by
  intro u hu
  obtain ⟨x, _, rfl⟩ := List.mem_map.1 hu
  rfl
theorem lbT_le {p : Lb} (h1 : nameB p.1 = true) (h2 : wordB p.2 = true) : (lbT p).length ≤ 25 := by
  have e1 := nameB_word h1
  unfold wordB at e1 h2
  rw [Bool.and_eq_true, decide_eq_true_iff] at e1 h2
  unfold lbT
  rw [List.length_append, List.length_cons]
  omega
theorem lab_at {l : List Lb} {k : Nat} {y : Lb} (hy : l[k]? = some y) (h : ∀ j, j < l.length → lbOk l j) : nameB y.1 = true ∧ wordB y.2 = true := by
  obtain ⟨hk, rfl⟩ := List.getElem?_eq_some_iff.1 hy
  obtain ⟨h1, h2, _⟩ := h k hk
  have e : lbAt l k = l[k] := getD_lb (List.getElem?_eq_getElem hk)
  rw [e] at h1 h2
  exact ⟨h1, h2⟩
theorem joinTail_len (xs : List Bs) (h : ∀ x ∈ xs, x.length ≤ 25) : (Lib.joinTail [44] xs).length ≤ 26 * xs.length := by
  induction xs with
  | nil => simp [Lib.joinTail]
  | cons x xs ih =>
    have h1 := h x List.mem_cons_self
    have h2 := ih (fun y hy => h y (List.mem_cons_of_mem _ hy))
    simp only [Lib.joinTail, List.map_cons, List.flatten_cons, List.length_append, List.length_cons, List.length_nil] at h2 ⊢
    omega
theorem textL_len {l : List Lb} (h6 : l.length ≤ 6) (h : ∀ j, j < l.length → lbOk l j) : (textL l).length ≤ 1000 := by
  have hb : ∀ x ∈ l.map lbT, x.length ≤ 25 := fun x hx => by
    obtain ⟨p, hp, rfl⟩ := List.mem_map.1 hx
    obtain ⟨j, hj⟩ := List.getElem?_of_mem hp
    obtain ⟨h1, h2⟩ := lab_at hj h
    exact lbT_le h1 h2
  unfold textL
  cases l with
  | nil => simp [Lib.join_nil]
  | cons p l =>
    rw [List.map_cons, Lib.join_cons, List.length_append]
    have h1 := hb (lbT p) (by simp)
    have h2 := joinTail_len (l.map lbT) (fun x hx => hb x (by simp at hx ⊢; exact .inr hx))
    rw [List.length_map] at h2
    rw [List.length_cons] at h6
    omega

theorem text_none {es : Nat → Addr} {B : Nat} (A : Option Addr) (c : Nat) (w : World) (hS : SVL es B w) :
    Calls Tryd.prog 15 #[.slice A 0 c] w fun e w' => e = .returned (.tuple #[.string ⟨#[]⟩, sentV (es 4)]) ∧ w = w' := by
  have Hc := Lib.hid (lcheck_none A c w hS)
  clear hS
  go_enter Tryd.func15, Tryd.ntmps15
  go_wp2_with fail
  refine Hc.out.mono ?_
  rintro e w' ⟨rfl, rfl⟩
  go_wp2
  go_ret2
  exact ⟨rfl, rfl⟩
theorem text_long {es : Nat → Addr} {B : Nat} (A : Option Addr) (n c : Nat) (w : World) (hS : SVL es B w) (hn : 6 < n) :
    Calls Tryd.prog 15 #[.slice A n c] w fun e w' => e = .returned (.tuple #[.string ⟨#[]⟩, sentV (es 1)]) ∧ w = w' := by
  have Hc := Lib.hid (lcheck_long A n c w hS hn)
  clear hS
  go_enter Tryd.func15, Tryd.ntmps15
  go_wp2_with fail
  refine Hc.out.mono ?_
  rintro e w' ⟨rfl, rfl⟩
  go_wp2
  go_ret2
  exact ⟨rfl, rfl⟩
theorem text_bad {es : Nat → Addr} {B : Nat} (A : Option Addr) (n c : Nat) (l : List Lb) (i : Nat) (w : World) (hS : SVL es B w) (hB0 : B ≤ w.heap.size) (hA : Rd w w.heap.size 2 A n (lbC l)) (h1 : 1 ≤ n) (hn : n ≤ 6) (hi : i < n) (hok : ∀ j, j < i → lbOk l j) (hbad : ¬ lbOk l i) :
    Calls Tryd.prog 15 #[.slice A n c] w fun e w' => ∃ pb, e = .returned (.tuple #[.string ⟨#[]⟩, faultV ⟨pb, 0, none⟩]) ∧ w.heap.size ≤ pb ∧ pb < w'.heap.size ∧ w'.cell? ⟨pb, 0, none⟩ = some (.int .i64 i) ∧ w'.cell? ⟨pb, 1, none⟩ = some (sentV (es (lbCode l i))) ∧ Below w.heap.size w w' := by
  have Hc := Lib.hid (lcheck_any A n c l i w hS hB0 hA h1 hn (by omega) hok (fun _ => hbad))
  have Hi := Lib.hid hi
  clear hS hA hok hbad hi
  go_enter Tryd.func15, Tryd.ntmps15
  go_wp2_with fail
  refine Hc.out.mono ?_
  rintro e w1 ⟨_, hb, hbb⟩
  obtain ⟨pb, rfl, q1, q2, q3, q4⟩ := hb Hi.out
  have Q := Lib.hid (And.intro q1 (And.intro q2 (And.intro q3 (And.intro q4 hbb))))
  clear hb q1 q2 q3 q4 hbb
  go_wp2
  go_ret2
  exact ⟨pb, rfl, Q.out⟩

set_option maxRecDepth 100000 in
set_option maxHeartbeats 4000000 in
theorem text_ok {es : Nat → Addr} {B : Nat} (A : Option Addr) (n c : Nat) (l : List Lb) (w : World) (hS : SVL es B w) (hB0 : B ≤ w.heap.size) (hA : Rd w w.heap.size 2 A n (lbC l)) (h1 : 1 ≤ n) (hn : n ≤ 6) (hok : ∀ j, j < n → lbOk l j) :
    Calls Tryd.prog 15 #[.slice A n c] w fun e w' => e = .returned (.tuple #[.string (B8 (textL l)), .nilIface]) ∧ Below w.heap.size w w' := by
  have hlen : l.length = n := by have := hA.1; rw [lbC_len] at this; omega
  have htl := textL_len (l := l) (by omega) (by rw [hlen]; exact hok)
  have hok' : ∀ j, j < l.length → lbOk l j := by rw [hlen]; exact hok
  have Hc := Lib.hid (lcheck_any A n c l n w hS hB0 hA h1 hn (Nat.le_refl _) hok (fun h => absurd h (Nat.lt_irrefl _)))
  obtain ⟨i0, hi, hz0, hz1, hz2⟩ := info_parts infoStr
  have Hi := Lib.hid hi; have Hz0 := Lib.hid hz0; have Hz1 := Lib.hid hz1; have Hz2 := Lib.hid hz2
  have HA := Lib.hid hA; have Hok := Lib.hid hok'; have Hlen := Lib.hid hlen; have Htl := Lib.hid htl
  have hn' : (n : Int) ≤ 6 := by omega
  clear hS hA hok hok' hlen htl hi hz0 hz1 hz2
  go_enter Tryd.func15, Tryd.ntmps15
  go_wp2_with fail
  refine Hc.out.mono ?_
  rintro e w1 ⟨hg, _, hb⟩
  obtain rfl := hg rfl
  have HB1 := Lib.hid hb
  have HR := Lib.hid (HA.out.below hb)
  have hw1 : w.heap.size ≤ w1.heap.size := hb.size
  clear hg hb
  go_wp2
  go_loopw [5, 15] (fun o iv wr => ∃ k : Nat, k ≤ n ∧ iv = .int .i64 k ∧ wr.ownsRow w1.heap.size 9 1 o k (strC ((l.take k).map lbT)) ∧ Below w1.heap.size w1 wr) (fun _ iv _ => n - (intOf iv).toNat)
  case atStart => exact ⟨0, Nat.zero_le _, rfl, World.ownsRow_nil _ _ _ _, Below.refl _ _⟩
  case round =>
    obtain ⟨k, hk, rfl, hown, hbel⟩ := hrel
    obtain ⟨Ao, co, rfl, hco, _, hro⟩ := own_form hown
    have Hown := Lib.hid hown; have Hbel := Lib.hid hbel; have Hro := Lib.hid hro
    have hwr : w1.heap.size ≤ wr.heap.size := hbel.size
    clear hown hbel hro
    by_cases hkn : k < n
    · obtain ⟨bb, off, y, hAe, had, hy, e0, e1⟩ := (HR.out.below (Hbel.out.mono hw1)).at2 hkn
      subst hAe
      obtain ⟨y1, y2⟩ := lab_at hy Hok.out
      have hT := lbT_le y1 y2
      have w12 : y.1.length ≤ 12 ∧ y.2.length ≤ 12 := by
        have e1 := nameB_word y1
        unfold wordB at e1 y2
        rw [Bool.and_eq_true, decide_eq_true_iff] at e1 y2
        omega
      have Htk := Lib.hid (show strC ((l.take (k + 1)).map lbT) = strC ((l.take k).map lbT) ++ strC [lbT y] by rw [take_snoc hy]; simp [strC])
      have hcat : B8 y.1 ++ ⟨#[61]⟩ ++ B8 y.2 = B8 (lbT y) := by
        rw [show (⟨#[61]⟩ : ByteArray) = B8 [61] from rfl, B8_append, B8_append]; unfold lbT; simp
      have hs1 : (B8 y.1).size ≤ 12 := by rw [B8_size]; omega
      have hs2 : (B8 y.2).size ≤ 12 := by rw [B8_size]; omega
      have Hcat := Lib.hid hcat
      clear hy y1 y2 w12 hT hcat
      generalize B8 y.1 = s1 at e0 hs1 Hcat
      generalize B8 y.2 = s2 at e1 hs2 Hcat
      have hk63 : k + 1 ≤ maxLen := by unfold maxLen; omega
      have hk8 : (k + 1) * 16 ≤ 140737488355328 := by omega
      have HB2 := Lib.hid (Below.alloc Hbel.out hwr (.cells #[.string s1, .string s2] 28))
      have hcl : ¬ 9223372036854775807 < s1.size + 1 := by omega
      have hcl2 : ¬ 9223372036854775807 < s1.size + 1 + s2.size := by omega
      have HoA := Lib.hid (show ((wr.alloc (.cells #[.string s1, .string s2] 28)).alloc (.cells #[.string (s1 ++ ⟨#[61]⟩ ++ s2)] 9)).ownsRow w1.heap.size 9 1 (.slice Ao k co) k (strC ((l.take k).map lbT)) from (Hown.out.alloc _).alloc _)
      have HrA := Lib.hid (show Rd ((wr.alloc (.cells #[.string s1, .string s2] 28)).alloc (.cells #[.string (s1 ++ ⟨#[61]⟩ ++ s2)] 9)) ((wr.alloc (.cells #[.string s1, .string s2] 28)).alloc (.cells #[.string (s1 ++ ⟨#[61]⟩ ++ s2)] 9)).heap.size 1 (some ⟨wr.heap.size + 1, 0, none⟩) 1 [.string (s1 ++ ⟨#[61]⟩ ++ s2)] from by
        have h := Rd.one (wr.alloc (.cells #[.string s1, .string s2] 28)) 9 (.string (s1 ++ ⟨#[61]⟩ ++ s2))
        rw [show (wr.alloc (.cells #[.string s1, .string s2] 28)).heap.size = wr.heap.size + 1 from World.size_alloc _ _] at h
        exact h)
      have HzA := Lib.hid (show w1.heap.size ≤ ((wr.alloc (.cells #[.string s1, .string s2] 28)).alloc (.cells #[.string (s1 ++ ⟨#[61]⟩ ++ s2)] 9)).heap.size by simp; omega)
      have HbA := Lib.hid (show Below w1.heap.size w1 ((wr.alloc (.cells #[.string s1, .string s2] 28)).alloc (.cells #[.string (s1 ++ ⟨#[61]⟩ ++ s2)] 9)) from Below.alloc HB2.out (by simp; omega) _)
      go_wp2_with (at_builtin; refine wpList_append_rd _ rfl (.tmp 19) (.tmp 26) _ rfl w1.heap.size 9 i0 (.string ⟨#[]⟩) 1 16 Tryd.underlying59 Hi.out Hz0.out Hz1.out Hz2.out rfl (by decide) (.slice Ao k co) k _ rfl HoA.out _ _ 1 1 [.string (s1 ++ ⟨#[61]⟩ ++ s2)] rfl HrA.out (by intro u hu; simp at hu; subst hu; rfl) hk63 hk8 HzA.out ?_; intro v' wa hown' hgr hat; rw [Hcat.out] at hown'; have Hv := Lib.hid hown'; have HBb := Lib.hid (Below.grown HbA.out hgr HzA.out (fun g hg => (own_lt HoA.out g hg).1)); clear hown' hgr hat)
      go_roundw
      case rel => exact ⟨k + 1, by omega, by go_num, by rw [Htk.out]; exact Hv.out, HBb.out⟩
      case measure => simp [intOf]; omega
    · obtain rfl : k = n := by omega
      have hlt : l.take k = l := List.take_of_length_le (by rw [Hlen.out]; exact Nat.le_refl _)
      rw [hlt] at Hro
      obtain ⟨bk, o, hAo, hbk, hcell⟩ := Hro.out.2 (by omega)
      subst hAo
      have hxs : ((l.map lbT).map B8).length = k := by rw [List.length_map, List.length_map, Hlen.out]
      have hdl : (((l.map lbT).map B8).map (·.data.toList)) = l.map lbT := by rw [List.map_map, show ((fun b : ByteArray => b.data.toList) ∘ B8) = id from rfl, List.map_id]
      have hJ := Tryd.strings_Join bk o co ((l.map lbT).map B8) ⟨#[44]⟩ wr (fun j x hx => by
        rw [List.getElem?_map] at hx
        obtain ⟨y, hy, rfl⟩ := Option.map_eq_some_iff.1 hx
        exact hcell j _ (by unfold strC; rw [List.getElem?_map, hy]; rfl)) hbk (by rw [hxs]; omega) (by rw [hxs]; exact hco) (by rw [hdl]; exact Nat.le_trans Htl.out (by decide))
      rw [hxs, hdl] at hJ
      have HJ := Lib.hid hJ
      have Hfin := Lib.hid (show (⟨(Lib.join (l.map lbT) [44]).toArray⟩ : ByteArray) = B8 (textL l) from rfl)
      clear hJ hlt hxs hdl hcell
      go_wp2_with fail
      refine HJ.out.mono ?_
      rintro e w' ⟨rfl, hb⟩
      have HBz := Lib.hid (Below.call HB1.out (Below.call Hbel.out hb hwr) hw1)
      clear hb
      go_wp2
      go_ret2
      exact ⟨congrArg (fun b => Ending.returned (.tuple #[.string b, .nilIface])) Hfin.out, HBz.out⟩

theorem text_snoc (l : List Lb) (q : Lb) : textL (l ++ [q]) = if l = [] then lbT q else textL l ++ 44 :: lbT q := by
  unfold textL
  cases l with
  | nil => rw [if_pos rfl]; exact Lib.join_one _ _
  | cons p l =>
    rw [if_neg (by simp), List.map_append, List.map_cons, List.cons_append, Lib.join_cons, Lib.join_cons]
    simp [Lib.joinTail]

set_option maxRecDepth 100000 in
set_option maxHeartbeats 4000000 in
theorem labelsText_any (A : Option Addr) (n c : Nat) (l : List Lb) (w : World) (hA : Rd w w.heap.size 2 A n (lbC l)) (hn : n ≤ 6) (hok : ∀ j, j < n → lbOk l j) :
    Calls Tryd.prog 14 #[.slice A n c] w fun e w' => e = .returned (.string (B8 (textL l))) ∧ Below w.heap.size w w' := by
  have hlen : l.length = n := by have := hA.1; rw [lbC_len] at this; omega
  have hn' : (n : Int) ≤ 6 := by omega
  have HA := Lib.hid hA; have Hlen := Lib.hid hlen
  have Hok := Lib.hid (show ∀ j, j < l.length → lbOk l j by rw [hlen]; exact hok)
  clear hA hok hlen
  go_enter Tryd.func14, Tryd.ntmps14
  go_wp2
  go_loopw [3, 4] (fun o iv wr => ∃ (k q : Nat) (st : ByteArray), k ≤ n ∧ iv = .int .i64 k ∧ o = .string st ∧ st = B8 (textL (l.take k)) ∧ st.size ≤ 1000 ∧ wr = w.drewN q) (fun _ iv _ => n - (intOf iv).toNat)
  case atStart => exact ⟨0, 0, ⟨#[]⟩, Nat.zero_le _, rfl, rfl, rfl, by decide, rfl⟩
  case round =>
    obtain ⟨k, q, st, hk, rfl, rfl, hst, hss, rfl⟩ := hrel
    have Hst := Lib.hid hst
    clear hst
    by_cases hkn : k < n
    · obtain ⟨bb, off, y, hAe, had, hy, e0, e1⟩ := HA.out.at2 hkn
      subst hAe
      obtain ⟨y1, y2⟩ := lab_at hy Hok.out
      have w12 : y.1.length ≤ 12 ∧ y.2.length ≤ 12 := by
        have e1 := nameB_word y1
        unfold wordB at e1 y2
        rw [Bool.and_eq_true, decide_eq_true_iff] at e1 y2
        omega
      have hs1 : (B8 y.1).size ≤ 12 := by rw [B8_size]; omega
      have hs2 : (B8 y.2).size ≤ 12 := by rw [B8_size]; omega
      have hkl : k < l.length := by rw [Hlen.out]; exact hkn
      have hnl : (textL (l.take (k + 1))).length ≤ 1000 := by
        refine textL_len (by rw [List.length_take]; omega) fun j hj => ?_
        rw [List.length_take] at hj
        obtain ⟨g1, g2, g3⟩ := Hok.out j (by omega)
        have e : ∀ i, i < k + 1 → lbAt (l.take (k + 1)) i = lbAt l i := fun i hi => by
          unfold lbAt; rw [List.getD_eq_getElem?_getD, List.getElem?_take, if_pos hi, List.getD_eq_getElem?_getD]
        unfold lbOk
        rw [e j (by omega), e (j - 1) (by omega)]
        exact ⟨g1, g2, g3⟩
      have hcl : ¬ 9223372036854775807 < st.size + 1 := by omega
      by_cases hk0 : k = 0
      · subst hk0
        have Hfin := Lib.hid (show st ++ B8 y.1 ++ ⟨#[61]⟩ ++ B8 y.2 = B8 (textL (l.take (0 + 1))) by
          rw [Hst.out, take_snoc hy, text_snoc, if_pos (by simp), List.take_zero, show (⟨#[61]⟩ : ByteArray) = B8 [61] from rfl, B8_append, B8_append, B8_append]; unfold lbT; simp [textL, Lib.join_nil])
        have Hsz := Lib.hid (show (B8 (textL (l.take (0 + 1)))).size ≤ 1000 by rw [B8_size]; exact hnl)
        simp only [Nat.add_zero, Nat.zero_mul] at e0 e1
        clear hy y1 y2 w12 hnl
        generalize B8 y.1 = s1 at e0 hs1 Hfin
        generalize B8 y.2 = s2 at e1 hs2 Hfin
        have hc1 : ¬ 9223372036854775807 < st.size + s1.size := by omega
        have hc2 : ¬ 9223372036854775807 < st.size + s1.size + 1 := by omega
        have hc3 : ¬ 9223372036854775807 < st.size + s1.size + 1 + s2.size := by omega
        go_wp2
        go_quiet (fail)
        go_wp2
        go_roundw
        case rel => exact ⟨0 + 1, _, _, by omega, by go_num, rfl, Hfin.out, by rw [Hfin.out]; exact Hsz.out, rfl⟩
        case measure => simp [intOf]; omega
      · have hkp : (0 : Int) < (k : Int) := by omega
        have Hfin := Lib.hid (show st ++ ⟨#[44]⟩ ++ B8 y.1 ++ ⟨#[61]⟩ ++ B8 y.2 = B8 (textL (l.take (k + 1))) by
          rw [Hst.out, take_snoc hy, text_snoc, if_neg (by intro h; have h3 := congrArg List.length h; rw [List.length_take, List.length_nil] at h3; omega), show (⟨#[61]⟩ : ByteArray) = B8 [61] from rfl, show (⟨#[44]⟩ : ByteArray) = B8 [44] from rfl, B8_append, B8_append, B8_append, B8_append]; unfold lbT; simp)
        have Hsz := Lib.hid (show (B8 (textL (l.take (k + 1)))).size ≤ 1000 by rw [B8_size]; exact hnl)
        clear hy y1 y2 w12 hnl
        generalize B8 y.1 = s1 at e0 hs1 Hfin
        generalize B8 y.2 = s2 at e1 hs2 Hfin
        have hc1 : ¬ 9223372036854775807 < st.size + 1 + s1.size := by omega
        have hc2 : ¬ 9223372036854775807 < st.size + 1 + s1.size + 1 := by omega
        have hc3 : ¬ 9223372036854775807 < st.size + 1 + s1.size + 1 + s2.size := by omega
        go_wp2
        go_quiet (fail)
        go_wp2
        go_roundw
        case rel => exact ⟨k + 1, _, _, by omega, by go_num, rfl, Hfin.out, by rw [Hfin.out]; exact Hsz.out, rfl⟩
        case measure => simp [intOf]; omega
    · obtain rfl : k = n := by omega
      have Hfin := Lib.hid (show st = B8 (textL l) by rw [Hst.out, List.take_of_length_le (by rw [Hlen.out]; exact Nat.le_refl _)])
      go_wp2
      go_ret
      exact ⟨congrArg (fun b => Ending.returned (.string b)) Hfin.out, Below.drewN (Below.refl _ _) _⟩
end Go.Proofs.YtlpkmghhmpkddaaDoor
