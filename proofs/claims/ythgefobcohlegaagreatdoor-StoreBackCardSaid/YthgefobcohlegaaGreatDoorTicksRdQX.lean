/- wave.Read by its contract: so many ticks, or an error. -/
import Derived.Test.YthgefobcohlegaaGreatDoorWaveGetQX
import Derived.Test.YthgefobcohlegaaGreatDoorMkfX
namespace Go.Proofs.YthgefobcohlegaaGreatDoor
open Go.RowKit
set_option linter.unusedVariables false

inductive TRes where
  | err (c : Nat) : TRes
  | ok (l : List Int) (q : Nat) : TRes
def tNext (acc : List Int) (k : Int) : Int := if acc.length = 0 then k else if acc.length = 1 then k + acc.getD 0 0 else k + acc.getD (acc.length - 1) 0 + (acc.getD (acc.length - 1) 0 - acc.getD (acc.length - 2) 0)
/-- n ticks more, behind those of acc, from place q on. -/
def rdT (S : List Bool) : Nat → List Int → Nat → TRes
  | 0, acc, q => .ok acc q
  | n + 1, acc, q => match getW S q with
    | .none => .err 4
    | .bad => .err 0
    | .ok k m => if 0 < acc.length ∧ ¬ (-4398046511104 ≤ k ∧ k ≤ 4398046511104) then .err 1
      else if -1099511627776 ≤ tNext acc k ∧ tNext acc k ≤ 1099511627776 then rdT S n (acc ++ [tNext acc k]) (q + m) else .err 1
theorem rdT_none {S : List Bool} {n q : Nat} {acc : List Int} (h : getW S q = .none) : rdT S (n + 1) acc q = .err 4 := by simp only [rdT, h]
theorem rdT_bad {S : List Bool} {n q : Nat} {acc : List Int} (h : getW S q = .bad) : rdT S (n + 1) acc q = .err 0 := by simp only [rdT, h]
theorem rdT_far {S : List Bool} {n q m : Nat} {acc : List Int} {k : Int} (h : getW S q = .ok k m) (hf : 0 < acc.length ∧ ¬ (-4398046511104 ≤ k ∧ k ≤ 4398046511104)) : rdT S (n + 1) acc q = .err 1 := by
  simp only [rdT, h]; rw [if_pos hf]
theorem rdT_out {S : List Bool} {n q m : Nat} {acc : List Int} {k : Int} (h : getW S q = .ok k m) (hf : ¬ (0 < acc.length ∧ ¬ (-4398046511104 ≤ k ∧ k ≤ 4398046511104))) (ht : ¬ (-1099511627776 ≤ tNext acc k ∧ tNext acc k ≤ 1099511627776)) : rdT S (n + 1) acc q = .err 1 := by
  simp only [rdT, h]; rw [if_neg hf, if_neg ht]
theorem rdT_next {S : List Bool} {n q m : Nat} {acc : List Int} {k : Int} (h : getW S q = .ok k m) (hf : ¬ (0 < acc.length ∧ ¬ (-4398046511104 ≤ k ∧ k ≤ 4398046511104))) (ht : -1099511627776 ≤ tNext acc k ∧ tNext acc k ≤ 1099511627776) : rdT S (n + 1) acc q = rdT S n (acc ++ [tNext acc k]) (q + m) := by
  simp only [rdT, h]; rw [if_neg hf, if_pos ht]
theorem getD_last {acc : List Int} {t : Int} : (acc ++ [t]).getD acc.length 0 = t := by
  rw [List.getD_eq_getElem?_getD]; simp
theorem getD_old {acc : List Int} {t : Int} {i : Nat} (h : i < acc.length) : (acc ++ [t]).getD i 0 = acc.getD i 0 := by
  rw [List.getD_eq_getElem?_getD, List.getD_eq_getElem?_getD, List.getElem?_append_left h]

theorem read_bad {es : Nat → Addr} {B : Nat} (a : Value) (n : Int) (w : World) (hS : SV es B w) (hn : n < 0 ∨ 120 < n) :
    Calls Tryz.prog 197 #[a, .int .i64 n] w fun e w' => e = .returned (.tuple #[.slice none 0 0, sentV (es 1)]) ∧ Below w.heap.size w w' := by
  have g1 : w.cell? ⟨0, 0, none⟩ = some (sentV (es 1)) := hS.var 1 (by decide)
  clear hS
  rcases hn with h | h
  · go_enter Tryz.func197, Tryz.ntmps197
    go_wp2
    go_quiet (fail)
    go_wp2
    go_ret2
    exact ⟨rfl, Below.drewN (Below.refl _ _) _⟩
  · have h0 : 0 ≤ n := by omega
    go_enter Tryz.func197, Tryz.ntmps197
    go_wp2
    go_quiet (fail)
    go_wp2
    go_ret2
    exact ⟨rfl, Below.drewN (Below.refl _ _) _⟩

theorem right_ok (t : Int) (h1 : -1099511627776 ≤ t) (h2 : t ≤ 1099511627776) (w : World) : Calls Tryz.prog 187 #[.int .i64 t] w fun e w' => e = .returned (.bool true) ∧ w = w' := by
  go_enter Tryz.func187, Tryz.ntmps187
  go_wp2
  go_ret
  exact ⟨rfl, rfl⟩
/-- What a round that appends t leaves. -/
theorem rd_append {w w6 wa : World} {g q N i : Nat} {xs : List Nat} {acc : List Int} {t : Int} {v v' : Value} (hg : g < w.heap.size) (hown : w6.ownsRow w.heap.size 3 1 v i (acc.map (Value.int .i64))) (hr : ReaderAt w6 g xs q N) (hf : Fr (fun k => k = g) w w6)
    (hown' : wa.ownsRow w.heap.size 3 1 v' (i + 1) (acc.map (Value.int .i64) ++ [.int .i64 t])) (hgr : (w6.alloc (.cells #[.int .i64 t] 3)).grownBy wa v.ownBlock) :
    wa.ownsRow w.heap.size 3 1 v' (i + 1) ((acc ++ [t]).map (Value.int .i64)) ∧ ReaderAt wa g xs q N ∧ Fr (fun k => k = g) w wa :=
  ⟨by rw [List.map_append]; exact hown', ⟨(hr.1.alloc _).grown hgr (fun e => by have := (own_lt hown g e.symm).1; omega), hr.2⟩, (hf.alloc _).grown hgr (fun k hk => .inl (own_lt hown k hk).1)⟩

set_option maxRecDepth 100000 in
set_option maxHeartbeats 8000000 in
theorem read_any {es : Nat → Addr} {B : Nat} (g p N : Nat) (xs : List Nat) (n : Nat) (w : World) (hS : SV es B w) (hB0 : B ≤ w.heap.size) (hBg : B ≤ g) (h : ReaderAt w g xs p N) (hn : n ≤ 120) :
    Calls Tryz.prog 197 #[.pointer (some ⟨g, 0, none⟩), .int .i64 n] w fun e w' => (∀ c, rdT ((rbits xs).take N) n [] p = .err c → e = .returned (.tuple #[.slice none 0 0, sentV (es c)])) ∧
      (∀ l q, rdT ((rbits xs).take N) n [] p = .ok l q → ∃ v, e = .returned (.tuple #[v, .nilIface]) ∧ w'.ownsRow w.heap.size 3 1 v n (l.map (Value.int .i64)) ∧ ReaderAt w' g xs q N) ∧ Fr (fun k => k = g) w w' := by
  obtain ⟨S, hSS⟩ : ∃ S, S = (rbits xs).take N := ⟨_, rfl⟩
  rw [← hSS]
  have hg : g < w.heap.size := h.1.lt
  have hn' : (n : Int) ≤ 120 := by omega
  obtain ⟨i0, hi, hz0, hz1, hz2⟩ := info_parts infoInt
  have Hi := Lib.hid hi; have Hz0 := Lib.hid hz0; have Hz1 := Lib.hid hz1; have Hz2 := Lib.hid hz2
  have HS := Lib.hid hS; have H := Lib.hid h; have HSS := Lib.hid hSS
  clear hS h hSS hi hz0 hz1 hz2
  go_enter Tryz.func197, Tryz.ntmps197
  go_wp2
  go_loopw [6, 7, 8, 23] (fun o la st iv wr => ∃ (i q : Nat) (acc : List Int) (a b : Int), i ≤ n ∧ iv = .int .i64 i ∧ acc.length = i ∧ la = .int .i64 a ∧ st = .int .i64 b ∧ (-1099511627776 ≤ a ∧ a ≤ 1099511627776) ∧ (-2199023255552 ≤ b ∧ b ≤ 2199023255552) ∧
      (0 < i → a = acc.getD (i - 1) 0) ∧ (i ≤ 1 → b = 0) ∧ (1 < i → b = acc.getD (i - 1) 0 - acc.getD (i - 2) 0) ∧ rdT S n [] p = rdT S (n - i) acc q ∧ ReaderAt wr g xs q N ∧ wr.ownsRow w.heap.size 3 1 o i (acc.map (Value.int .i64)) ∧ Fr (fun k => k = g) w wr) (fun _ _ _ iv _ => n - (intOf iv).toNat)
  case atStart => exact ⟨0, p, [], 0, 0, by omega, rfl, rfl, rfl, rfl, by omega, by omega, by omega, fun _ => rfl, by omega, rfl, H.out, World.ownsRow_nil _ _ _ _, Fr.refl _ _⟩
  case round =>
    obtain ⟨i, q, acc, a, b, hin, rfl, hal, rfl, rfl, ha, hb, hav, hb0, hbv, hrd, hR, hown, hfr⟩ := hrel
    obtain ⟨ha0, ha1⟩ := ha
    obtain ⟨hb1, hb2⟩ := hb
    have Hal := Lib.hid hal; have Hav := Lib.hid hav; have Hb0 := Lib.hid hb0; have Hbv := Lib.hid hbv; have Hrd := Lib.hid hrd; have HR := Lib.hid hR; have Hown := Lib.hid hown; have Hfr := Lib.hid hfr
    have hws : w.heap.size ≤ wr.heap.size := hfr.size
    clear hal hav hb0 hbv hrd hR hown hfr
    by_cases hlt : i < n
    · obtain ⟨d, hd⟩ : ∃ d, n - i = d + 1 := ⟨n - i - 1, by omega⟩
      have hd2 : n - (i + 1) = d := by omega
      have Hd := Lib.hid hd; have Hd2 := Lib.hid hd2
      clear hd hd2
      go_wp2_with fail
      refine (wget_any g q N xs _ (HS.out.below (Hfr.out.below hB0 (fun k hk hs => by omega)) (Nat.le_refl _)) (Nat.le_trans hB0 hws) hBg HR.out).mono ?_
      rintro e w6 ⟨rfl, hf6, _, hr6⟩
      rw [← HSS.out] at hr6 ⊢
      have hw6 : w.heap.size ≤ w6.heap.size := Nat.le_trans hws hf6.size
      have Hown6 := Lib.hid (hf6.own Hown.out (fun k hk hs => by have := (own_lt Hown.out k hk).1; omega))
      have Hf6 := Lib.hid (Fr.trans Hfr.out hf6 (fun k _ h => h))
      have Hr6 := Lib.hid hr6
      have g1 : w6.cell? ⟨0, 0, none⟩ = some (sentV (es 1)) := (HS.out.below (Hf6.out.below hB0 (fun k hk hs => by omega)) (Nat.le_refl _)).var 1 (by decide)
      clear hf6 hr6
      cases hgw : getW S q with
      | none =>
        have Hres := Lib.hid (show rdT S n [] p = .err 4 by rw [Hrd.out, Hd.out]; exact rdT_none hgw)
        have hret : wRet es .none = .tuple #[.int .i64 0, sentV (es 4)] := rfl
        rw [hret]
        clear hret hgw
        go_wp2
        go_ret2
        exact ⟨fun c h => (by rw [Hres.out] at h; injection h with h; subst h; rfl), fun l q' h => (by rw [Hres.out] at h; cases h), Hf6.out⟩
      | bad =>
        have Hres := Lib.hid (show rdT S n [] p = .err 0 by rw [Hrd.out, Hd.out]; exact rdT_bad hgw)
        have hret : wRet es .bad = .tuple #[.int .i64 0, sentV (es 0)] := rfl
        rw [hret]
        clear hret hgw
        go_wp2
        go_ret2
        exact ⟨fun c h => (by rw [Hres.out] at h; injection h with h; subst h; rfl), fun l q' h => (by rw [Hres.out] at h; cases h), Hf6.out⟩
      | ok k m =>
        have hret : wRet es (.ok k m) = .tuple #[.int .i64 k, .nilIface] := rfl
        rw [hret]
        have Hr7 := Lib.hid (Hr6.out k m hgw)
        have Hgw := Lib.hid hgw
        have hsz : w.heap.size ≤ w6.heap.size := hw6
        have hk63 : i + 1 ≤ maxLen := by unfold maxLen; omega
        have hk8 : (i + 1) * 8 ≤ 140737488355328 := by omega
        have hsa : ∀ u : Value, w.heap.size ≤ (w6.alloc (.cells #[u] 3)).heap.size := fun u => by simp; omega
        have Hsa := Lib.hid hsa
        clear hret hgw hsa
        by_cases hi0 : i = 0
        · have c0 : (i : Int) ≤ 0 := by omega
          have htn : tNext acc k = k := by unfold tNext; rw [if_pos (by rw [Hal.out]; exact hi0)]
          have hnf : ¬ (0 < acc.length ∧ ¬ (-4398046511104 ≤ k ∧ k ≤ 4398046511104)) := by rw [Hal.out, hi0]; omega
          have Hi0 := Lib.hid hi0; have Htn := Lib.hid htn; have Hnf := Lib.hid hnf
          have e0 : ((i : Int) == 0) = true := by simp [hi0]
          clear hi0 htn hnf
          by_cases htk : -1099511627776 ≤ k ∧ k ≤ 1099511627776
          · obtain ⟨t1, t2⟩ := htk
            have Hres := Lib.hid (show rdT S n [] p = rdT S d (acc ++ [k]) (q + m) by rw [Hrd.out, Hd.out, rdT_next Hgw.out Hnf.out (by rw [Htn.out]; exact ⟨t1, t2⟩), Htn.out])
            go_wp2_with (first | (go_at_call 187; refine (right_ok _ t1 t2 _).mono ?_; rintro e w' ⟨rfl, rfl⟩) | (at_builtin; refine wpList_append_rd _ rfl (.tmp 63) (.tmp 65) _ rfl w.heap.size 3 i0 (.int .i64 0) 1 8 Tryz.underlying61 Hi.out Hz0.out Hz1.out Hz2.out rfl (by decide) _ i _ rfl (Hown6.out.alloc _) _ _ 1 1 [.int .i64 (k)] rfl (Rd.one w6 3 (.int .i64 (k))) (int_one [k]) hk63 hk8 (Hsa.out _) ?_; intro v' wa hown' hgr hat; have HQ := Lib.hid (rd_append hg Hown6.out Hr7.out Hf6.out hown' hgr); clear hown' hgr hat))
            go_roundw
            case rel => exact ⟨i + 1, q + m, acc ++ [k], k, b, by omega, by go_num, by rw [List.length_append, Hal.out]; rfl, rfl, rfl, ⟨t1, t2⟩, ⟨by have := Hb0.out (by have := Hi0.out; omega); omega, by have := Hb0.out (by have := Hi0.out; omega); omega⟩, fun _ => by have h3 := Hal.out; rw [show i + 1 - 1 = acc.length by omega, getD_last], fun _ => Hb0.out (by have := Hi0.out; omega), fun h => absurd h (by have := Hi0.out; omega), by rw [Hd2.out]; exact Hres.out, HQ.out.2.1, HQ.out.1, HQ.out.2.2⟩
            case measure => simp [intOf]; omega
          · have Hres := Lib.hid (show rdT S n [] p = .err 1 by rw [Hrd.out, Hd.out]; exact rdT_out Hgw.out Hnf.out (by rw [Htn.out]; exact htk))
            have ht2 : k < -1099511627776 ∨ 1099511627776 < k := by omega
            clear htk
            rcases ht2 with ht2 | ht2
            · go_wp2
              go_quiet (fail)
              go_wp2
              go_ret2
              exact ⟨fun c h => (by rw [Hres.out] at h; injection h with h; subst h; rfl), fun l q' h => (by rw [Hres.out] at h; cases h), Hf6.out.drewN _⟩
            · have hge : -1099511627776 ≤ k := by omega
              have hnl : ¬ k ≤ 1099511627776 := by omega
              have hnd : decide (k ≤ 1099511627776) = false := decide_eq_false hnl
              go_wp2
              go_quiet (fail)
              go_wp2
              go_ret2
              exact ⟨fun c h => (by rw [Hres.out] at h; injection h with h; subst h; rfl), fun l q' h => (by rw [Hres.out] at h; cases h), Hf6.out.drewN _⟩
        by_cases hfar : -4398046511104 ≤ k ∧ k ≤ 4398046511104
        · obtain ⟨f1, f2⟩ := hfar
          have hnf : ¬ (0 < acc.length ∧ ¬ (-4398046511104 ≤ k ∧ k ≤ 4398046511104)) := fun h => h.2 ⟨f1, f2⟩
          have Hnf := Lib.hid hnf
          have e0 : ((i : Int) == 0) = false := by rw [beq_eq_false_iff_ne]; omega
          clear hnf
          by_cases hi1 : i = 1
          · have htn : tNext acc k = a + k := by
              have h1 := Hav.out (by omega)
              unfold tNext; rw [if_neg (by rw [Hal.out]; exact hi0), if_pos (by rw [Hal.out]; exact hi1), h1, hi1]
              simp only [Nat.sub_self]; omega
            have e1 : ((i : Int) == 1) = true := by simp [hi1]
            have Hi0 := Lib.hid hi1; have Htn := Lib.hid htn
            clear hi0 hi1 htn
            by_cases htk : -1099511627776 ≤ a + k ∧ a + k ≤ 1099511627776
            · obtain ⟨t1, t2⟩ := htk
              have Hres := Lib.hid (show rdT S n [] p = rdT S d (acc ++ [a + k]) (q + m) by rw [Hrd.out, Hd.out, rdT_next Hgw.out Hnf.out (by rw [Htn.out]; exact ⟨t1, t2⟩), Htn.out])
              go_wp2_with (first | (go_at_call 187; refine (right_ok _ t1 t2 _).mono ?_; rintro e w' ⟨rfl, rfl⟩) | (at_builtin; refine wpList_append_rd _ rfl (.tmp 63) (.tmp 65) _ rfl w.heap.size 3 i0 (.int .i64 0) 1 8 Tryz.underlying61 Hi.out Hz0.out Hz1.out Hz2.out rfl (by decide) _ i _ rfl (Hown6.out.alloc _) _ _ 1 1 [.int .i64 (a + k)] rfl (Rd.one w6 3 (.int .i64 (a + k))) (int_one [a + k]) hk63 hk8 (Hsa.out _) ?_; intro v' wa hown' hgr hat; have HQ := Lib.hid (rd_append hg Hown6.out Hr7.out Hf6.out hown' hgr); clear hown' hgr hat))
              go_roundw
              case rel => exact ⟨i + 1, q + m, acc ++ [a + k], a + k, k, by omega, by go_num, by rw [List.length_append, Hal.out]; rfl, rfl, rfl, ⟨t1, t2⟩, ⟨by have h1 := Hi0.out; omega, by have h1 := Hi0.out; omega⟩, fun _ => by have h3 := Hal.out; rw [show i + 1 - 1 = acc.length by omega, getD_last], fun h => absurd h (by have := Hi0.out; omega), fun _ => by have h1 := Hi0.out; have h2 := Hav.out (by omega); have h3 := Hal.out; rw [show i + 1 - 1 = acc.length by omega, getD_last, show i + 1 - 2 = i - 1 by omega, getD_old (by omega), ← h2]; omega, by rw [Hd2.out]; exact Hres.out, HQ.out.2.1, HQ.out.1, HQ.out.2.2⟩
              case measure => simp [intOf]; omega
            · have Hres := Lib.hid (show rdT S n [] p = .err 1 by rw [Hrd.out, Hd.out]; exact rdT_out Hgw.out Hnf.out (by rw [Htn.out]; exact htk))
              have ht2 : a + k < -1099511627776 ∨ 1099511627776 < a + k := by omega
              clear htk
              rcases ht2 with ht2 | ht2
              · go_wp2
                go_quiet (fail)
                go_wp2
                go_ret2
                exact ⟨fun c h => (by rw [Hres.out] at h; injection h with h; subst h; rfl), fun l q' h => (by rw [Hres.out] at h; cases h), Hf6.out.drewN _⟩
              · have hge : -1099511627776 ≤ a + k := by omega
                have hnl : ¬ a + k ≤ 1099511627776 := by omega
                have hnd : decide (a + k ≤ 1099511627776) = false := decide_eq_false hnl
                go_wp2
                go_quiet (fail)
                go_wp2
                go_ret2
                exact ⟨fun c h => (by rw [Hres.out] at h; injection h with h; subst h; rfl), fun l q' h => (by rw [Hres.out] at h; cases h), Hf6.out.drewN _⟩
          · have htn : tNext acc k = a + (b + k) := by
              have h1 := Hav.out (by omega)
              have h2 := Hbv.out (by omega)
              unfold tNext; rw [if_neg (by rw [Hal.out]; exact hi0), if_neg (by rw [Hal.out]; exact hi1), Hal.out, h2, h1]
              omega
            have e1 : ((i : Int) == 1) = false := by rw [beq_eq_false_iff_ne]; omega
            have hi2 : 1 < i := by omega
            have Hi0 := Lib.hid hi2; have Htn := Lib.hid htn
            clear hi0 hi1 htn
            by_cases htk : -1099511627776 ≤ a + (b + k) ∧ a + (b + k) ≤ 1099511627776
            · obtain ⟨t1, t2⟩ := htk
              have Hres := Lib.hid (show rdT S n [] p = rdT S d (acc ++ [a + (b + k)]) (q + m) by rw [Hrd.out, Hd.out, rdT_next Hgw.out Hnf.out (by rw [Htn.out]; exact ⟨t1, t2⟩), Htn.out])
              go_wp2_with (first | (go_at_call 187; refine (right_ok _ t1 t2 _).mono ?_; rintro e w' ⟨rfl, rfl⟩) | (at_builtin; refine wpList_append_rd _ rfl (.tmp 63) (.tmp 65) _ rfl w.heap.size 3 i0 (.int .i64 0) 1 8 Tryz.underlying61 Hi.out Hz0.out Hz1.out Hz2.out rfl (by decide) _ i _ rfl (Hown6.out.alloc _) _ _ 1 1 [.int .i64 (a + (b + k))] rfl (Rd.one w6 3 (.int .i64 (a + (b + k)))) (int_one [a + (b + k)]) hk63 hk8 (Hsa.out _) ?_; intro v' wa hown' hgr hat; have HQ := Lib.hid (rd_append hg Hown6.out Hr7.out Hf6.out hown' hgr); clear hown' hgr hat))
              go_roundw
              case rel => exact ⟨i + 1, q + m, acc ++ [a + (b + k)], a + (b + k), b + k, by omega, by go_num, by rw [List.length_append, Hal.out]; rfl, rfl, rfl, ⟨t1, t2⟩, ⟨by have h1 := Hi0.out; omega, by have h1 := Hi0.out; omega⟩, fun _ => by have h3 := Hal.out; rw [show i + 1 - 1 = acc.length by omega, getD_last], fun h => absurd h (by have := Hi0.out; omega), fun _ => by have h1 := Hi0.out; have h2 := Hav.out (by omega); have h3 := Hal.out; rw [show i + 1 - 1 = acc.length by omega, getD_last, show i + 1 - 2 = i - 1 by omega, getD_old (by omega), ← h2]; omega, by rw [Hd2.out]; exact Hres.out, HQ.out.2.1, HQ.out.1, HQ.out.2.2⟩
              case measure => simp [intOf]; omega
            · have Hres := Lib.hid (show rdT S n [] p = .err 1 by rw [Hrd.out, Hd.out]; exact rdT_out Hgw.out Hnf.out (by rw [Htn.out]; exact htk))
              have ht2 : a + (b + k) < -1099511627776 ∨ 1099511627776 < a + (b + k) := by omega
              clear htk
              rcases ht2 with ht2 | ht2
              · go_wp2
                go_quiet (fail)
                go_wp2
                go_ret2
                exact ⟨fun c h => (by rw [Hres.out] at h; injection h with h; subst h; rfl), fun l q' h => (by rw [Hres.out] at h; cases h), Hf6.out.drewN _⟩
              · have hge : -1099511627776 ≤ a + (b + k) := by omega
                have hnl : ¬ a + (b + k) ≤ 1099511627776 := by omega
                have hnd : decide (a + (b + k) ≤ 1099511627776) = false := decide_eq_false hnl
                go_wp2
                go_quiet (fail)
                go_wp2
                go_ret2
                exact ⟨fun c h => (by rw [Hres.out] at h; injection h with h; subst h; rfl), fun l q' h => (by rw [Hres.out] at h; cases h), Hf6.out.drewN _⟩
        · have hpos : 0 < acc.length := by rw [Hal.out]; omega
          have Hres := Lib.hid (show rdT S n [] p = .err 1 by rw [Hrd.out, Hd.out]; exact rdT_far Hgw.out ⟨hpos, hfar⟩)
          have e0 : ((i : Int) == 0) = false := by rw [beq_eq_false_iff_ne]; omega
          have hf2 : k < -4398046511104 ∨ 4398046511104 < k := by omega
          clear hpos hfar hi0
          rcases hf2 with hf2 | hf2
          · go_wp2
            go_quiet (fail)
            go_wp2
            go_ret2
            exact ⟨fun c h => (by rw [Hres.out] at h; injection h with h; subst h; rfl), fun l q' h => (by rw [Hres.out] at h; cases h), Hf6.out.drewN _⟩
          · have hge : -4398046511104 ≤ k := by omega
            have hnl : ¬ k ≤ 4398046511104 := by omega
            go_wp2
            go_quiet (fail)
            go_wp2
            go_ret2
            exact ⟨fun c h => (by rw [Hres.out] at h; injection h with h; subst h; rfl), fun l q' h => (by rw [Hres.out] at h; cases h), Hf6.out.drewN _⟩
    · obtain rfl : i = n := by omega
      have Hres := Lib.hid (show rdT S i [] p = .ok acc q by rw [Hrd.out, Nat.sub_self]; rfl)
      go_wp2
      go_ret2
      refine ⟨fun c h => (by rw [Hres.out] at h; cases h), fun l q' h => ?_, Hfr.out⟩
      rw [Hres.out] at h
      injection h with h1 h2
      subst h1; subst h2
      exact ⟨_, rfl, Hown.out, HR.out⟩
end Go.Proofs.YthgefobcohlegaaGreatDoor
