/- The reference's ReadTicks by its contract. -/
import Derived.Test.YtfkklcmepcocoaaGreatDoorTicksRdQX
import Derived.Test.YtfkklcmepcocoaaGreatDoorUnwaveQX
import Derived.OwnWalk
namespace Go.Proofs.YtfkklcmepcocoaaGreatDoor
open Go.RowKit
set_option linter.unusedVariables false

theorem getW_le {S : List Bool} {p m : Nat} {k : Int} (h : getW S p = .ok k m) : p + m ≤ S.length := by
  unfold getW at h
  split at h
  · cases h
  · rename_i j _
    split at h
    · cases h
    · split at h
      · injection h with h1 h2; omega
      · cases h

theorem isTick_ok (t : Int) (h1 : -1099511627776 ≤ t) (h2 : t ≤ 1099511627776) (w : World) : Calls Tryz.prog 61 #[.int .i64 t] w fun e w' => e = .returned (.bool true) ∧ w = w' := by
  go_enter Tryz.func61, Tryz.ntmps61
  go_wp2
  go_ret
  exact ⟨rfl, rfl⟩
theorem rf_append {w w6 wa : World} {i : Nat} {acc : List Int} {t : Int} {v v' : Value} (hown : w6.ownsRow w.heap.size 3 1 v i (acc.map (Value.int .i64))) (hb : Below w.heap.size w w6)
    (hown' : wa.ownsRow w.heap.size 3 1 v' (i + 1) (acc.map (Value.int .i64) ++ [.int .i64 t])) (hgr : (w6.alloc (.cells #[.int .i64 t] 3)).grownBy wa v.ownBlock) :
    wa.ownsRow w.heap.size 3 1 v' (i + 1) ((acc ++ [t]).map (Value.int .i64)) ∧ Below w.heap.size w wa :=
  ⟨by rw [List.map_append]; exact hown', Below.grown (Below.alloc hb hb.size _) hgr (by have := hb.size; simp; omega) (fun g hg => (own_lt hown g hg).1)⟩
set_option maxRecDepth 100000 in
set_option maxHeartbeats 8000000 in
theorem readTicks_at (S : List Bool) (b n : Nat) (w : World) (hS : S.length ≤ 1000000) (hb : b ≤ S.length) (hn : n ≤ 120) :
    Calls Tryz.prog 119 #[.string (txt S), .int .i64 b, .int .i64 n] w fun e w' => (∀ c, rdT S n [] b = .err c → e = .returned (.tuple #[.slice none 0 0, .int .i64 0, .int .i64 ((c : Int) + 1)])) ∧
      (∀ l q, rdT S n [] b = .ok l q → ∃ v, e = .returned (.tuple #[v, .int .i64 (q - b : Nat), .int .i64 0]) ∧ w'.ownsRow w.heap.size 3 1 v n (l.map (Value.int .i64))) ∧ Below w.heap.size w w' := by
  have hn' : (n : Int) ≤ 120 := by omega
  obtain ⟨i0, hi, hz0, hz1, hz2⟩ := info_parts infoInt
  have Hi := Lib.hid hi; have Hz0 := Lib.hid hz0; have Hz1 := Lib.hid hz1; have Hz2 := Lib.hid hz2
  have Huw := Lib.hid (fun p hp W => unwave_any S p (by omega) hp W)
  generalize htx : txt S = ts at Huw ⊢
  clear htx hi hz0 hz1 hz2
  go_enter Tryz.func119, Tryz.ntmps119
  go_wp2
  go_loopw [1, 9, 11] (fun at_ o iv wr => ∃ (i q : Nat) (acc : List Int), i ≤ n ∧ iv = .int .i64 i ∧ at_ = .int .i64 q ∧ (b ≤ q ∧ q ≤ S.length) ∧ acc.length = i ∧ (∀ t ∈ acc, -1099511627776 ≤ t ∧ t ≤ 1099511627776) ∧ rdT S n [] b = rdT S (n - i) acc q ∧ wr.ownsRow w.heap.size 3 1 o i (acc.map (Value.int .i64)) ∧ Below w.heap.size w wr) (fun _ _ iv _ => n - (intOf iv).toNat)
  case atStart => exact ⟨0, b, [], by omega, rfl, rfl, ⟨Nat.le_refl _, hb⟩, rfl, by simp, rfl, World.ownsRow_nil _ _ _ _, Below.refl _ _⟩
  case round =>
    obtain ⟨i, q, acc, hin, rfl, rfl, ⟨hbq, hq⟩, hal, hac, hrd, hown, hbel⟩ := hrel
    obtain ⟨Ao, co, rfl, _, _, hro⟩ := own_form hown
    have Hal := Lib.hid hal; have Hac := Lib.hid hac; have Hrd := Lib.hid hrd; have Hown := Lib.hid hown; have Hbel := Lib.hid hbel; have Hro := Lib.hid hro
    have hws : w.heap.size ≤ wr.heap.size := hbel.size
    clear hal hac hrd hown hbel hro
    by_cases hlt : i < n
    · obtain ⟨d, hd⟩ : ∃ d, n - i = d + 1 := ⟨n - i - 1, by omega⟩
      have hd2 : n - (i + 1) = d := by omega
      have Hd := Lib.hid hd; have Hd2 := Lib.hid hd2
      clear hd hd2
      go_wp2_with fail
      refine (Huw.out q (by omega) _).mono ?_
      rintro e w6 ⟨rfl, hb6⟩
      have hz6 : wr.heap.size ≤ w6.heap.size := hb6.size
      have hw6 : w.heap.size ≤ w6.heap.size := Nat.le_trans hws hz6
      have Hb6 := Lib.hid (Below.call Hbel.out hb6 hws)
      have Hown6 := Lib.hid (own_below Hown.out hb6 (Nat.le_refl _))
      have Hro6 := Lib.hid (Hro.out.below hb6)
      clear hb6
      cases hgw : getW S q with
      | none =>
        have Hres := Lib.hid (show rdT S n [] b = .err 4 by rw [Hrd.out, Hd.out]; exact rdT_none hgw)
        have hret : pRet .none = .agg #[.int .i64 0, .int .u64 0, .int .i64 0, .int .i64 5] := rfl
        rw [hret]
        have Hb7 := Lib.hid (show Below w.heap.size w (w6.alloc (.cells #[.int .i64 0, .int .u64 0, .int .i64 0, .int .i64 5] 239)) from Below.alloc Hb6.out hw6 _)
        clear hret hgw
        go_wp2
        go_quiet (fail)
        go_wp2
        go_ret3
        exact ⟨fun c h => (by rw [Hres.out] at h; injection h with h; subst h; rfl), fun l q' h => (by rw [Hres.out] at h; cases h), Below.drewN Hb7.out _⟩
      | bad =>
        have Hres := Lib.hid (show rdT S n [] b = .err 0 by rw [Hrd.out, Hd.out]; exact rdT_bad hgw)
        have hret : pRet .bad = .agg #[.int .i64 0, .int .u64 0, .int .i64 0, .int .i64 1] := rfl
        rw [hret]
        have Hb7 := Lib.hid (show Below w.heap.size w (w6.alloc (.cells #[.int .i64 0, .int .u64 0, .int .i64 0, .int .i64 1] 239)) from Below.alloc Hb6.out hw6 _)
        clear hret hgw
        go_wp2
        go_quiet (fail)
        go_wp2
        go_ret3
        exact ⟨fun c h => (by rw [Hres.out] at h; injection h with h; subst h; rfl), fun l q' h => (by rw [Hres.out] at h; cases h), Below.drewN Hb7.out _⟩
      | ok k m =>
        have hret : pRet (.ok k m) = .agg #[.int .i64 k, .int .u64 0, .int .i64 m, .int .i64 0] := rfl
        rw [hret]
        have hqm := getW_le hgw
        have Hgw := Lib.hid hgw
        have Hb7 := Lib.hid (show Below w.heap.size w (w6.alloc (.cells #[.int .i64 k, .int .u64 0, .int .i64 m, .int .i64 0] 239)) from Below.alloc Hb6.out hw6 _)
        have Hown7 := Lib.hid (Hown6.out.alloc (.cells #[.int .i64 k, .int .u64 0, .int .i64 m, .int .i64 0] 239))
        have Hro7 := Lib.hid (Hro6.out.alloc hz6 (.cells #[.int .i64 k, .int .u64 0, .int .i64 m, .int .i64 0] 239))
        have hk63 : i + 1 ≤ maxLen := by unfold maxLen; omega
        have hk8 : (i + 1) * 8 ≤ 140737488355328 := by omega
        have HK := Lib.hid (Blk.new w6 239 #[.int .i64 k, .int .u64 0, .int .i64 m, .int .i64 0])
        have hw7s : w.heap.size ≤ (w6.alloc (.cells #[.int .i64 k, .int .u64 0, .int .i64 m, .int .i64 0] 239)).heap.size := Hb7.out.size
        have hsa : ∀ u : Value, w.heap.size ≤ ((w6.alloc (.cells #[.int .i64 k, .int .u64 0, .int .i64 m, .int .i64 0] 239)).alloc (.cells #[u] 3)).heap.size := fun u => Nat.le_trans hw7s (by simp)
        have Hsa := Lib.hid hsa
        clear hret hgw hsa
        by_cases hi0 : i = 0
        · subst hi0
          have htn : tNext acc k = k := by unfold tNext; rw [if_pos Hal.out]
          have hnf : ¬ (0 < acc.length ∧ ¬ (-4398046511104 ≤ k ∧ k ≤ 4398046511104)) := by rw [Hal.out]; omega
          have Htn := Lib.hid htn; have Hnf := Lib.hid hnf
          clear htn hnf
          by_cases htk : -1099511627776 ≤ k ∧ k ≤ 1099511627776
          · obtain ⟨t1, t2⟩ := htk
            have Hres := Lib.hid (show rdT S n [] b = rdT S d (acc ++ [k]) (q + m) by rw [Hrd.out, Hd.out, rdT_next Hgw.out Hnf.out (by rw [Htn.out]; exact ⟨t1, t2⟩), Htn.out])
            have HownX := Hown7; have HbX := Hb7; have HsaX := Hsa
            have Hrdt := Lib.hid (show Rd ((w6.alloc (.cells #[.int .i64 k, .int .u64 0, .int .i64 m, .int .i64 0] 239)).alloc (.cells #[.int .i64 (k)] 3)) ((w6.alloc (.cells #[.int .i64 k, .int .u64 0, .int .i64 m, .int .i64 0] 239)).alloc (.cells #[.int .i64 (k)] 3)).heap.size 1 (some ⟨w6.heap.size + 1, 0, none⟩) 1 [.int .i64 (k)] by have h := Rd.one (w6.alloc (.cells #[.int .i64 k, .int .u64 0, .int .i64 m, .int .i64 0] 239)) 3 (.int .i64 (k)); have e : (w6.alloc (.cells #[.int .i64 k, .int .u64 0, .int .i64 m, .int .i64 0] 239)).heap.size = w6.heap.size + 1 := (by simp); rw [e] at h; exact h)
            go_wp2_with (first | (go_at_call 61; refine (isTick_ok _ t1 t2 _).mono ?_; rintro e w' ⟨rfl, rfl⟩) | (at_builtin; refine wpList_append_rd _ rfl (.tmp 75) (.tmp 77) _ rfl w.heap.size 3 i0 (.int .i64 0) 1 8 Tryz.underlying193 Hi.out Hz0.out Hz1.out Hz2.out rfl (by decide) _ 0 _ rfl (HownX.out.alloc _) _ _ 1 1 [.int .i64 (k)] rfl Hrdt.out (int_one [k]) hk63 hk8 (HsaX.out _) ?_; intro v' wa hown' hgr hat; have HQ := Lib.hid (rf_append HownX.out HbX.out hown' hgr); clear hown' hgr hat))
            go_roundw
            case rel => exact ⟨0 + 1, q + m, acc ++ [k], by omega, by go_num, by go_num, ⟨by omega, hqm⟩, by rw [List.length_append, Hal.out]; rfl, fun x hx => (by rcases List.mem_append.1 hx with h | h; exact Hac.out x h; simp at h; subst h; exact ⟨t1, t2⟩), by rw [Hd2.out]; exact Hres.out, HQ.out.1, HQ.out.2⟩
            case measure => simp [intOf]; omega
          · have Hres := Lib.hid (show rdT S n [] b = .err 1 by rw [Hrd.out, Hd.out]; exact rdT_out Hgw.out Hnf.out (by rw [Htn.out]; exact htk))
            have h4 : k < -8796093022208 ∨ (-8796093022208 ≤ k ∧ k < -1099511627776) ∨ (1099511627776 < k ∧ k ≤ 8796093022208) ∨ 8796093022208 < k := by omega
            clear htk
            rcases h4 with h4 | ⟨h4, h5⟩ | ⟨h4, h5⟩ | h4
            · go_wp2
              go_ret3
              exact ⟨fun c h => (by rw [Hres.out] at h; injection h with h; subst h; rfl), fun l q' h => (by rw [Hres.out] at h; cases h), (by first | exact Hb7.out | exact Below.drewN Hb7.out _)⟩
            · go_wp2
              go_ret3
              exact ⟨fun c h => (by rw [Hres.out] at h; injection h with h; subst h; rfl), fun l q' h => (by rw [Hres.out] at h; cases h), (by first | exact Hb7.out | exact Below.drewN Hb7.out _)⟩
            · have hge : -1099511627776 ≤ k := by omega
              have hnl : ¬ k ≤ 1099511627776 := by omega
              have hnd : decide (k ≤ 1099511627776) = false := decide_eq_false hnl
              go_wp2
              go_ret3
              exact ⟨fun c h => (by rw [Hres.out] at h; injection h with h; subst h; rfl), fun l q' h => (by rw [Hres.out] at h; cases h), (by first | exact Hb7.out | exact Below.drewN Hb7.out _)⟩
            · have hge : -1099511627776 ≤ k := by omega
              have hnl : ¬ k ≤ 1099511627776 := by omega
              have hnd : decide (k ≤ 1099511627776) = false := decide_eq_false hnl
              go_wp2
              go_ret3
              exact ⟨fun c h => (by rw [Hres.out] at h; injection h with h; subst h; rfl), fun l q' h => (by rw [Hres.out] at h; cases h), (by first | exact Hb7.out | exact Below.drewN Hb7.out _)⟩
        have hal0 : 0 < acc.length := by rw [Hal.out]; omega
        have c0 : (0 : Int) < (i : Int) := by omega
        obtain ⟨b1, o1, a, hA1, had1, hy1, e1⟩ := Hro7.out.at1 (k := i - 1) (by omega)
        subst hA1
        obtain ⟨ha0, ha1⟩ := Hac.out a (List.mem_of_getElem? hy1)
        have hav := getD_of hy1
        have n1 : IntKind.i64.wrap ((i : Int) - 1) = ((i - 1 : Nat) : Int) := by rw [IntKind.wrap_i64]; omega
        by_cases hi1 : i = 1
        · subst hi1
          have htn : tNext acc k = k + a := by
            unfold tNext; rw [if_neg (by rw [Hal.out]; omega), if_pos Hal.out, ← hav]
          have Htn := Lib.hid htn
          simp only [Nat.sub_self, Nat.add_zero] at e1
          clear htn hav hy1 n1
          by_cases hf3 : 8796093022208 < k
          · have Hres := Lib.hid (show rdT S n [] b = .err 1 by rw [Hrd.out, Hd.out]; exact rdT_far Hgw.out ⟨hal0, by omega⟩)
            go_wp2
            go_ret3
            exact ⟨fun c h => (by rw [Hres.out] at h; injection h with h; subst h; rfl), fun l q' h => (by rw [Hres.out] at h; cases h), (by first | exact Hb7.out | exact Below.drewN Hb7.out _)⟩
          by_cases hf4 : k < -8796093022208
          · have Hres := Lib.hid (show rdT S n [] b = .err 1 by rw [Hrd.out, Hd.out]; exact rdT_far Hgw.out ⟨hal0, by omega⟩)
            go_wp2
            go_ret3
            exact ⟨fun c h => (by rw [Hres.out] at h; injection h with h; subst h; rfl), fun l q' h => (by rw [Hres.out] at h; cases h), (by first | exact Hb7.out | exact Below.drewN Hb7.out _)⟩
          by_cases hfar : -4398046511104 ≤ k ∧ k ≤ 4398046511104
          · obtain ⟨f1, f2⟩ := hfar
            have hnf : ¬ (0 < acc.length ∧ ¬ (-4398046511104 ≤ k ∧ k ≤ 4398046511104)) := fun h => h.2 ⟨f1, f2⟩
            have Hnf := Lib.hid hnf; clear hnf
            by_cases htk : -1099511627776 ≤ k + a ∧ k + a ≤ 1099511627776
            · obtain ⟨t1, t2⟩ := htk
              have Hres := Lib.hid (show rdT S n [] b = rdT S d (acc ++ [k + a]) (q + m) by rw [Hrd.out, Hd.out, rdT_next Hgw.out Hnf.out (by rw [Htn.out]; exact ⟨t1, t2⟩), Htn.out])
              have HownX := Hown7; have HbX := Hb7; have HsaX := Hsa
              have Hrdt := Lib.hid (show Rd ((w6.alloc (.cells #[.int .i64 k, .int .u64 0, .int .i64 m, .int .i64 0] 239)).alloc (.cells #[.int .i64 (k + a)] 3)) ((w6.alloc (.cells #[.int .i64 k, .int .u64 0, .int .i64 m, .int .i64 0] 239)).alloc (.cells #[.int .i64 (k + a)] 3)).heap.size 1 (some ⟨w6.heap.size + 1, 0, none⟩) 1 [.int .i64 (k + a)] by have h := Rd.one (w6.alloc (.cells #[.int .i64 k, .int .u64 0, .int .i64 m, .int .i64 0] 239)) 3 (.int .i64 (k + a)); have e : (w6.alloc (.cells #[.int .i64 k, .int .u64 0, .int .i64 m, .int .i64 0] 239)).heap.size = w6.heap.size + 1 := (by simp); rw [e] at h; exact h)
              go_wp2_with (first | (go_at_call 61; refine (isTick_ok _ t1 t2 _).mono ?_; rintro e w' ⟨rfl, rfl⟩) | (at_builtin; refine wpList_append_rd _ rfl (.tmp 75) (.tmp 77) _ rfl w.heap.size 3 i0 (.int .i64 0) 1 8 Tryz.underlying193 Hi.out Hz0.out Hz1.out Hz2.out rfl (by decide) _ 1 _ rfl (HownX.out.alloc _) _ _ 1 1 [.int .i64 (k + a)] rfl Hrdt.out (int_one [k + a]) hk63 hk8 (HsaX.out _) ?_; intro v' wa hown' hgr hat; have HQ := Lib.hid (rf_append HownX.out HbX.out hown' hgr); clear hown' hgr hat))
              go_roundw
              case rel => exact ⟨1 + 1, q + m, acc ++ [k + a], by omega, by go_num, by go_num, ⟨by omega, hqm⟩, by rw [List.length_append, Hal.out]; rfl, fun x hx => (by rcases List.mem_append.1 hx with h | h; exact Hac.out x h; simp at h; subst h; exact ⟨t1, t2⟩), by rw [Hd2.out]; exact Hres.out, HQ.out.1, HQ.out.2⟩
              case measure => simp [intOf]; omega
            · have Hres := Lib.hid (show rdT S n [] b = .err 1 by rw [Hrd.out, Hd.out]; exact rdT_out Hgw.out Hnf.out (by rw [Htn.out]; exact htk))
              have ht2 : k + a < -1099511627776 ∨ 1099511627776 < k + a := by omega
              clear htk
              rcases ht2 with ht2 | ht2
              · go_wp2
                go_ret3
                exact ⟨fun c h => (by rw [Hres.out] at h; injection h with h; subst h; rfl), fun l q' h => (by rw [Hres.out] at h; cases h), (by first | exact Hb7.out | exact Below.drewN Hb7.out _)⟩
              · have hge : -1099511627776 ≤ k + a := by omega
                have hnl : ¬ k + a ≤ 1099511627776 := by omega
                have hnd : decide (k + a ≤ 1099511627776) = false := decide_eq_false hnl
                go_wp2
                go_ret3
                exact ⟨fun c h => (by rw [Hres.out] at h; injection h with h; subst h; rfl), fun l q' h => (by rw [Hres.out] at h; cases h), (by first | exact Hb7.out | exact Below.drewN Hb7.out _)⟩
          · have Hres := Lib.hid (show rdT S n [] b = .err 1 by rw [Hrd.out, Hd.out]; exact rdT_far Hgw.out ⟨hal0, hfar⟩)
            have ht2 : k + a < -1099511627776 ∨ 1099511627776 < k + a := by omega
            clear hfar
            rcases ht2 with ht2 | ht2
            · go_wp2
              go_ret3
              exact ⟨fun c h => (by rw [Hres.out] at h; injection h with h; subst h; rfl), fun l q' h => (by rw [Hres.out] at h; cases h), (by first | exact Hb7.out | exact Below.drewN Hb7.out _)⟩
            · have hge : -1099511627776 ≤ k + a := by omega
              have hnl : ¬ k + a ≤ 1099511627776 := by omega
              have hnd : decide (k + a ≤ 1099511627776) = false := decide_eq_false hnl
              go_wp2
              go_ret3
              exact ⟨fun c h => (by rw [Hres.out] at h; injection h with h; subst h; rfl), fun l q' h => (by rw [Hres.out] at h; cases h), (by first | exact Hb7.out | exact Below.drewN Hb7.out _)⟩
        · obtain ⟨j, rfl⟩ : ∃ j, i = j + 2 := ⟨i - 2, by omega⟩
          obtain ⟨b2, o2, a2, hA2, had2, hy2, e2⟩ := Hro7.out.at1 (k := j) (by omega)
          injection hA2 with hA2
          injection hA2 with hA3 hA4
          subst hA3; subst hA4
          obtain ⟨ha2, ha3⟩ := Hac.out a2 (List.mem_of_getElem? hy2)
          have hav2 := getD_of hy2
          have htn : tNext acc k = k + a + (a - a2) := by
            unfold tNext
            rw [if_neg (by rw [Hal.out]; omega), if_neg (by rw [Hal.out]; omega), Hal.out, show j + 2 - 2 = j by omega, hav, hav2]
          have Htn := Lib.hid htn
          have e1' : (w6.alloc (.cells #[.int .i64 k, .int .u64 0, .int .i64 m, .int .i64 0] 239)).cell? ⟨b1, o1 + (j + 1), none⟩ = some (.int .i64 a) := e1
          have c1 : (1 : Int) < (j : Int) + 2 := by omega
          have n2 : IntKind.i64.wrap ((j : Int) + 2 - 1) = ((j + 1 : Nat) : Int) := by rw [IntKind.wrap_i64]; omega
          have n3 : IntKind.i64.wrap ((j : Int) + 2 - 2) = ((j : Nat) : Int) := by rw [IntKind.wrap_i64]; omega
          have n4 : IntKind.i64.wrap (a - a2) = a - a2 := by rw [IntKind.wrap_i64]; omega
          clear htn hav hav2 hy1 hy2 n1 e1
          by_cases hf3 : 8796093022208 < k
          · have Hres := Lib.hid (show rdT S n [] b = .err 1 by rw [Hrd.out, Hd.out]; exact rdT_far Hgw.out ⟨hal0, by omega⟩)
            go_wp2
            go_ret3
            exact ⟨fun c h => (by rw [Hres.out] at h; injection h with h; subst h; rfl), fun l q' h => (by rw [Hres.out] at h; cases h), (by first | exact Hb7.out | exact Below.drewN Hb7.out _)⟩
          by_cases hf4 : k < -8796093022208
          · have Hres := Lib.hid (show rdT S n [] b = .err 1 by rw [Hrd.out, Hd.out]; exact rdT_far Hgw.out ⟨hal0, by omega⟩)
            go_wp2
            go_ret3
            exact ⟨fun c h => (by rw [Hres.out] at h; injection h with h; subst h; rfl), fun l q' h => (by rw [Hres.out] at h; cases h), (by first | exact Hb7.out | exact Below.drewN Hb7.out _)⟩
          have n5 : IntKind.i64.wrap (k + a + (a - a2)) = k + a + (a - a2) := by rw [IntKind.wrap_i64]; omega
          by_cases hfar : -4398046511104 ≤ k ∧ k ≤ 4398046511104
          · obtain ⟨f1, f2⟩ := hfar
            have hnf : ¬ (0 < acc.length ∧ ¬ (-4398046511104 ≤ k ∧ k ≤ 4398046511104)) := fun h => h.2 ⟨f1, f2⟩
            have Hnf := Lib.hid hnf; clear hnf
            by_cases htk : -1099511627776 ≤ k + a + (a - a2) ∧ k + a + (a - a2) ≤ 1099511627776
            · obtain ⟨t1, t2⟩ := htk
              have Hres := Lib.hid (show rdT S n [] b = rdT S d (acc ++ [k + a + (a - a2)]) (q + m) by rw [Hrd.out, Hd.out, rdT_next Hgw.out Hnf.out (by rw [Htn.out]; exact ⟨t1, t2⟩), Htn.out])
              go_wp2
              go_quiet (fail)
              have HownX := Lib.hid (own_drewN Hown7.out nq)
              have HbX := Lib.hid (Below.drewN Hb7.out nq)
              have HsaX := Lib.hid (show ∀ u : Value, w.heap.size ≤ (((w6.alloc (.cells #[.int .i64 k, .int .u64 0, .int .i64 m, .int .i64 0] 239)).drewN nq).alloc (.cells #[u] 3)).heap.size from fun u => Hsa.out u)
              have Hrdt := Lib.hid (show Rd (((w6.alloc (.cells #[.int .i64 k, .int .u64 0, .int .i64 m, .int .i64 0] 239)).drewN nq).alloc (.cells #[.int .i64 (k + a + (a - a2))] 3)) (((w6.alloc (.cells #[.int .i64 k, .int .u64 0, .int .i64 m, .int .i64 0] 239)).drewN nq).alloc (.cells #[.int .i64 (k + a + (a - a2))] 3)).heap.size 1 (some ⟨w6.heap.size + 1, 0, none⟩) 1 [.int .i64 (k + a + (a - a2))] by have h := Rd.one ((w6.alloc (.cells #[.int .i64 k, .int .u64 0, .int .i64 m, .int .i64 0] 239)).drewN nq) 3 (.int .i64 (k + a + (a - a2))); have e : ((w6.alloc (.cells #[.int .i64 k, .int .u64 0, .int .i64 m, .int .i64 0] 239)).drewN nq).heap.size = w6.heap.size + 1 := (by simp); rw [e] at h; exact h)
              go_wp2_with (first | (go_at_call 61; refine (isTick_ok _ t1 t2 _).mono ?_; rintro e w' ⟨rfl, rfl⟩) | (at_builtin; refine wpList_append_rd _ rfl (.tmp 75) (.tmp 77) _ rfl w.heap.size 3 i0 (.int .i64 0) 1 8 Tryz.underlying193 Hi.out Hz0.out Hz1.out Hz2.out rfl (by decide) _ (j + 2) _ rfl (HownX.out.alloc _) _ _ 1 1 [.int .i64 (k + a + (a - a2))] rfl Hrdt.out (int_one [k + a + (a - a2)]) hk63 hk8 (HsaX.out _) ?_; intro v' wa hown' hgr hat; have HQ := Lib.hid (rf_append HownX.out HbX.out hown' hgr); clear hown' hgr hat))
              go_roundw
              case rel => exact ⟨(j + 2) + 1, q + m, acc ++ [k + a + (a - a2)], by omega, by go_num, by go_num, ⟨by omega, hqm⟩, by rw [List.length_append, Hal.out]; rfl, fun x hx => (by rcases List.mem_append.1 hx with h | h; exact Hac.out x h; simp at h; subst h; exact ⟨t1, t2⟩), by rw [Hd2.out]; exact Hres.out, HQ.out.1, HQ.out.2⟩
              case measure => simp [intOf]; omega
            · have Hres := Lib.hid (show rdT S n [] b = .err 1 by rw [Hrd.out, Hd.out]; exact rdT_out Hgw.out Hnf.out (by rw [Htn.out]; exact htk))
              have ht2 : k + a + (a - a2) < -1099511627776 ∨ 1099511627776 < k + a + (a - a2) := by omega
              clear htk
              rcases ht2 with ht2 | ht2
              · go_wp2
                go_quiet (fail)
                go_wp2
                go_ret3
                exact ⟨fun c h => (by rw [Hres.out] at h; injection h with h; subst h; rfl), fun l q' h => (by rw [Hres.out] at h; cases h), (by first | exact Hb7.out | exact Below.drewN Hb7.out _)⟩
              · have hge : -1099511627776 ≤ k + a + (a - a2) := by omega
                have hnl : ¬ k + a + (a - a2) ≤ 1099511627776 := by omega
                have hnd : decide (k + a + (a - a2) ≤ 1099511627776) = false := decide_eq_false hnl
                go_wp2
                go_quiet (fail)
                go_wp2
                go_ret3
                exact ⟨fun c h => (by rw [Hres.out] at h; injection h with h; subst h; rfl), fun l q' h => (by rw [Hres.out] at h; cases h), (by first | exact Hb7.out | exact Below.drewN Hb7.out _)⟩
          · have Hres := Lib.hid (show rdT S n [] b = .err 1 by rw [Hrd.out, Hd.out]; exact rdT_far Hgw.out ⟨hal0, hfar⟩)
            have ht2 : k + a + (a - a2) < -1099511627776 ∨ 1099511627776 < k + a + (a - a2) := by omega
            clear hfar
            rcases ht2 with ht2 | ht2
            · go_wp2
              go_quiet (fail)
              go_wp2
              go_ret3
              exact ⟨fun c h => (by rw [Hres.out] at h; injection h with h; subst h; rfl), fun l q' h => (by rw [Hres.out] at h; cases h), (by first | exact Hb7.out | exact Below.drewN Hb7.out _)⟩
            · have hge : -1099511627776 ≤ k + a + (a - a2) := by omega
              have hnl : ¬ k + a + (a - a2) ≤ 1099511627776 := by omega
              have hnd : decide (k + a + (a - a2) ≤ 1099511627776) = false := decide_eq_false hnl
              go_wp2
              go_quiet (fail)
              go_wp2
              go_ret3
              exact ⟨fun c h => (by rw [Hres.out] at h; injection h with h; subst h; rfl), fun l q' h => (by rw [Hres.out] at h; cases h), (by first | exact Hb7.out | exact Below.drewN Hb7.out _)⟩
    · obtain rfl : i = n := by omega
      have Hres := Lib.hid (show rdT S i [] b = .ok acc q by rw [Hrd.out, Nat.sub_self]; rfl)
      have hsub : (q : Int) - (b : Int) = ((q - b : Nat) : Int) := by omega
      have Hsub := Lib.hid hsub
      clear hsub
      go_wp2
      go_ret3
      refine ⟨fun c h => (by rw [Hres.out] at h; cases h), fun l q' h => ?_, Hbel.out⟩
      rw [Hres.out] at h
      injection h with h1 h2
      subst h1; subst h2
      exact ⟨_, congrArg (fun z : Int => Ending.returned (.tuple #[_, .int .i64 z, .int .i64 0])) Hsub.out, Hown.out⟩
end Go.Proofs.YtfkklcmepcocoaaGreatDoor
