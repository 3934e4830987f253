/- package mask's windows and the reference's zeros and turned, by contracts. -/
import Derived.Test.YtfkklcmepcocoaaGreatDoorMaskQ
import Derived.BigQuiet
namespace Go.Proofs.YtfkklcmepcocoaaGreatDoor
open Go.RowKit
set_option linter.unusedVariables false

theorem TabAt.lt {w : World} (h : TabAt w) : 18 < w.heap.size := by
  have h0 := h 0 (by decide)
  rcases Nat.lt_or_ge 18 w.heap.size with h' | h'
  · exact h'
  · simp [World.cell?, Array.getElem?_eq_none h'] at h0
theorem TabAt.call {w w' : World} {C : Nat} (h : TabAt w) (hb : Below C w w') (hC : w.heap.size ≤ C) : TabAt w' := h.below hb (Nat.lt_of_lt_of_le h.lt hC)
theorem TabAt.alloc {w : World} (h : TabAt w) (o : Obj) : TabAt (w.alloc o) := h.call (Below.alloc (Below.refl w.heap.size w) (Nat.le_refl _) o) (Nat.le_refl _)

def winV (w : Win) : Value := .agg #[.int .i64 w.a, .int .i64 w.t, .int .i64 w.d]
theorem mof_int (x : Nat) (w : World) (h : x < 18446744073709551616) (hT : TabAt w) :
    Calls Tryz.prog 213 #[.int .u64 (x : Int)] w fun e w' => e = .returned (.agg #[.int .i64 (leadN x), .int .i64 (tzN x), .int .i64 (64 - (leadN x : Int) - (tzN x : Int))]) ∧ Below w.heap.size w w' := by
  have h1 := lead_le x
  have h2 : tzN x ≤ 64 := by
    by_cases h0 : x = 0
    · subst h0; decide
    · obtain ⟨m, _, h3⟩ := tz_spec x h0 h; omega
  have hl : min 31 (lzN x : Int) = (leadN x : Int) := by unfold leadN; omega
  have HT := Lib.hid hT; have Hl := Lib.hid hl
  clear hT hl
  go_enter Tryz.func213, Tryz.ntmps213
  go_wp2_with fail
  refine (lz_any x _ h).mono ?_
  rintro e w' ⟨rfl, rfl⟩
  go_wp2_with fail
  refine (tz_any x _ h (HT.out.alloc _)).mono ?_
  rintro e w' ⟨rfl, rfl⟩
  go_wp2
  rw [Hl.out]
  have hb : Below w.heap.size w ((w.alloc (.cells #[.int .i64 (leadN x), .int .i64 (tzN x), .int .i64 (64 - (leadN x : Int) - (tzN x : Int))] 295)).alloc (.cells #[.int .i64 (leadN x), .int .i64 (tzN x), .int .i64 (64 - (leadN x : Int) - (tzN x : Int))] 295)) := by go_grown
  refine bodyPost_ret (v := .agg #[.int .i64 (leadN x), .int .i64 (tzN x), .int .i64 (64 - (leadN x : Int) - (tzN x : Int))]) (by simp [results, Tryz.results213, go_sem]) rfl ?_
  exact ⟨rfl, hb⟩
theorem mof_any (x : Nat) (w : World) (h : x < 18446744073709551616) (h0 : x ≠ 0) (hT : TabAt w) :
    Calls Tryz.prog 213 #[.int .u64 (x : Int)] w fun e w' => e = .returned (winV (winOf x)) ∧ Below w.heap.size w w' := by
  refine (mof_int x w h hT).mono ?_
  rintro e w' ⟨rfl, hb⟩
  refine ⟨?_, hb⟩
  have h1 := (winOf_ok x h0 h).2.2
  have h2 := (winOf_ok x h0 h).2.1
  have e : 64 - (leadN x : Int) - (tzN x : Int) = ((winOf x).d : Int) := by
    show _ = ((64 - leadN x - tzN x : Nat) : Int)
    have h3 : leadN x + tzN x + (64 - leadN x - tzN x) = 64 := h1
    omega
  rw [e]; rfl

theorem mhas_any (a t d a' t' d' : Int) (w : World) :
    Calls Tryz.prog 214 #[.agg #[.int .i64 a, .int .i64 t, .int .i64 d], .agg #[.int .i64 a', .int .i64 t', .int .i64 d']] w fun e w' => e = .returned (.bool (decide (0 < d ∧ a ≤ a' ∧ t ≤ t'))) ∧ Below w.heap.size w w' := by
  by_cases h1 : 0 < d
  · by_cases h2 : a ≤ a'
    · by_cases h3 : t ≤ t'
      · rw [decide_eq_true (show 0 < d ∧ a ≤ a' ∧ t ≤ t' from ⟨h1, h2, h3⟩)]
        go_enter Tryz.func214, Tryz.ntmps214
        go_wp2
        go_ret
        exact ⟨rfl, by go_grown⟩
      · rw [decide_eq_false (show ¬ (0 < d ∧ a ≤ a' ∧ t ≤ t') from fun h => h3 h.2.2)]
        go_enter Tryz.func214, Tryz.ntmps214
        go_wp2
        go_ret
        exact ⟨by simp, by go_grown⟩
    · rw [decide_eq_false (show ¬ (0 < d ∧ a ≤ a' ∧ t ≤ t') from fun h => h2 h.2.1)]
      go_enter Tryz.func214, Tryz.ntmps214
      go_wp2
      go_ret
      exact ⟨rfl, by go_grown⟩
  · rw [decide_eq_false (show ¬ (0 < d ∧ a ≤ a' ∧ t ≤ t') from fun h => h1 h.1)]
    go_enter Tryz.func214, Tryz.ntmps214
    go_wp2
    go_ret
    exact ⟨rfl, by go_grown⟩
theorem mhas_win (w k : Win) (W : World) : Calls Tryz.prog 214 #[winV w, winV k] W fun e w' => e = .returned (.bool (decide (hasW w k))) ∧ Below W.heap.size W w' := by
  refine (mhas_any _ _ _ _ _ _ W).mono ?_
  rintro e w' ⟨rfl, hb⟩
  refine ⟨?_, hb⟩
  congr 2
  apply decide_eq_decide.2
  unfold hasW
  omega

theorem zeros_any (l : List Bool) (hl : l.length ≤ 64) (w : World) : Calls Tryz.prog 208 #[.string (txt l)] w fun e w' => e = .returned (.int .i64 (zerosN l)) ∧ w' = w := by
  have hz := zeros_le l
  have hsz := txt_size l
  have hget : ∀ (i : Nat) (h : i < (txt l).size) (b : Bool), l[i]? = some b → (txt l)[i] = chB b := fun i h b hb => txt_get l i h b hb
  have Hget := Lib.hid hget
  clear hget
  generalize hts : txt l = ts at hsz Hget ⊢
  have hs64 : ts.size ≤ 64 := by omega
  have Hsz := Lib.hid hsz
  clear hts hsz
  go_enter Tryz.func208, Tryz.ntmps208
  go_wp2
  go_loopw [3] (fun n wr => ∃ k : Nat, k ≤ zerosN l ∧ n = .int .i64 k ∧ wr = w) (fun n _ => 65 - (intOf n).toNat)
  case atStart => exact ⟨0, Nat.zero_le _, rfl, rfl⟩
  case round =>
    obtain ⟨k, hk, rfl, rfl⟩ := hrel
    by_cases hlt : k < zerosN l
    · have hks : k < ts.size := by rw [Hsz.out]; omega
      have hc := Hget.out k hks false (zeros_false l k hlt)
      have hcn : ts[k].toNat = 48 := by rw [hc]; rfl
      go_wp2
      go_roundw
      case rel => exact ⟨k + 1, by omega, by go_num, trivial⟩
      case measure => simp [intOf]; omega
    · obtain rfl : k = zerosN l := by omega
      rcases zeros_stop l with h | h
      · have hge : ts.size ≤ zerosN l := by rw [Hsz.out]; exact List.getElem?_eq_none_iff.1 h
        go_wp2
        go_ret
        exact ⟨rfl, rfl⟩
      · have hks : zerosN l < ts.size := by rw [Hsz.out]; exact (List.getElem?_eq_some_iff.1 h).1
        have hc := Hget.out _ hks true h
        have hcn : ts[zerosN l].toNat = 49 := by rw [hc]; rfl
        go_wp2
        go_ret
        exact ⟨rfl, rfl⟩
theorem turned_any (l : List Bool) (hl : l.length ≤ 64) (w : World) : Calls Tryz.prog 209 #[.string (txt l)] w fun e w' => e = .returned (.string (txt l.reverse)) ∧ w' = w := by
  have hsz := txt_size l
  have hs64 : (txt l).size ≤ 64 := by omega
  go_enter Tryz.func209, Tryz.ntmps209
  go_wp2
  go_loopw [3, 4] (fun o i wr => ∃ (k : Nat) (st : ByteArray), k ≤ l.length ∧ i = .int .i64 k ∧ o = .string st ∧ st = txt (l.take k).reverse ∧ st.size = k ∧ wr = w) (fun _ i _ => 65 - (intOf i).toNat)
  case atStart => exact ⟨0, ByteArray.empty, Nat.zero_le _, rfl, rfl, rfl, rfl, rfl⟩
  case round =>
    obtain ⟨k, st, hk, rfl, rfl, hst, hss, rfl⟩ := hrel
    by_cases hlt : k < l.length
    · have hx : (txt l).extract k (k + 1) = txt [l[k]] := by
        rw [txt_extract]
        congr 1
        rw [take_snoc (List.getElem?_eq_getElem hlt), List.drop_append_of_le_length (by rw [List.length_take]; omega)]
        simp
      have hn : txt [l[k]] ++ st = txt (l.take (k + 1)).reverse := by
        rw [hst, txt_append, take_snoc (List.getElem?_eq_getElem hlt), List.reverse_append]; rfl
      have h1 : (txt [l[k]]).size = 1 := txt_size _
      have Hx := Lib.hid hx; have Hn := Lib.hid hn; have Hst := Lib.hid hst
      clear hx hn hst
      go_wp2
      go_roundw
      case rel => exact ⟨k + 1, txt (l.take (k + 1)).reverse, by omega, by go_num, by rw [Hx.out, Hn.out], rfl, by rw [txt_size, List.length_reverse, List.length_take]; omega, trivial⟩
      case measure => simp [intOf]; omega
    · obtain rfl : k = l.length := by omega
      rw [List.take_length] at hst
      subst hst
      go_wp2
      go_ret
      exact ⟨rfl, rfl⟩
end Go.Proofs.YtfkklcmepcocoaaGreatDoor
