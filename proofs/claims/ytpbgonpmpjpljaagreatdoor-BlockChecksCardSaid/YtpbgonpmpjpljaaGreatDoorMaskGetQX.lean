/- mask.Read by its contract. -/
import Derived.Test.YtpbgonpmpjpljaaGreatDoorMaskChgQX
import Derived.OwnWalk
namespace Go.Proofs.YtpbgonpmpjpljaaGreatDoor
open Go.RowKit
set_option linter.unusedVariables false

theorem infoU64 : (Tryz.prog.info? 55).map (fun i => (i.zero, i.size, i.bytes)) = some (some (.int .u64 0), 1, 8) := by kernel_rfl
theorem u64_one (xs : List Nat) : ∀ u ∈ xs.map (fun x : Nat => Value.int .u64 (x : Int)), u.oneCell' = true := by
  intro u hu
  obtain ⟨x, _, rfl⟩ := List.mem_map.1 hu
  rfl
theorem Rd.oneg (w : World) (t : TypeId) (u : Value) : Rd (w.alloc (.cells #[u] t)) (w.alloc (.cells #[u] t)).heap.size 1 (some ⟨w.heap.size, 0, none⟩) 1 [u] :=
  ⟨rfl, fun _ => ⟨_, _, rfl, by simp, fun j x hx => by rw [Nat.zero_add, (Blk.new w _ _).cell]; simpa using hx⟩⟩
theorem md_append {w w6 wa : World} {base g q N i : Nat} {xs : List Nat} {acc : List Nat} {ww : Win} {t : Nat} {v v' : Value} (hg : g < w.heap.size) (hown : w6.ownsRow (w.heap.size + 1) 55 1 v i (acc.map fun x : Nat => Value.int .u64 (x : Int))) (hr : ReaderAt w6 g xs q N) (hf : Fr (fun k => k = g) w w6)
    (hk : Blk w6 w.heap.size 244 #[.int .i64 ww.a, .int .i64 ww.t, .int .i64 ww.d])
    (hown' : wa.ownsRow (w.heap.size + 1) 55 1 v' (i + 1) (acc.map (fun x : Nat => Value.int .u64 (x : Int)) ++ [.int .u64 (t : Int)])) (hgr : (w6.alloc (.cells #[.int .u64 (t : Int)] 55)).grownBy wa v.ownBlock) :
    wa.ownsRow (w.heap.size + 1) 55 1 v' (i + 1) ((acc ++ [t]).map fun x : Nat => Value.int .u64 (x : Int)) ∧ ReaderAt wa g xs q N ∧ Fr (fun k => k = g) w wa ∧ Blk wa w.heap.size 244 #[.int .i64 ww.a, .int .i64 ww.t, .int .i64 ww.d] :=
  ⟨by rw [List.map_append]; exact hown', ⟨(hr.1.alloc _).grown hgr (fun e => by have := (own_lt hown g e.symm).1; omega), hr.2⟩, (hf.alloc _).grown hgr (fun k hk => .inl (by have := (own_lt hown k hk).1; omega)), (hk.alloc _).grown hgr (fun e => by have := (own_lt hown _ e.symm).1; omega)⟩

set_option maxRecDepth 100000 in
set_option maxHeartbeats 8000000 in
theorem mread_any {es : Nat → Addr} {B : Nat} (g p N : Nat) (xs : List Nat) (n : Nat) (S : List Bool) (w : World) (hSS : S = (rbits xs).take N) (hS : SV es B w) (hT : TabAt w) (hTB : 15 < B) (hB0 : B ≤ w.heap.size) (hBg : B ≤ g) (h : ReaderAt w g xs p N) (hn : n ≤ 120) :
    Calls Tryz.prog 137 #[.pointer (some ⟨g, 0, none⟩), .int .i64 n] w fun e w' => (∀ c, rdM S n [] w0 p = .err c → e = .returned (.tuple #[.slice none 0 0, sentV (es c)])) ∧
      (∀ l q, rdM S n [] w0 p = .ok l q → ∃ v, e = .returned (.tuple #[v, .nilIface]) ∧ w'.ownsRow w.heap.size 55 1 v n (l.map fun x : Nat => Value.int .u64 (x : Int)) ∧ ReaderAt w' g xs q N) ∧ Fr (fun k => k = g) w w' := by
  have hg : g < w.heap.size := h.1.lt
  have hSl : S.length = N := by rw [hSS]; exact h.len
  have hn' : (n : Int) ≤ 120 := by omega
  obtain ⟨i0, hi, hz0, hz1, hz2⟩ := info_parts infoU64
  have Hi := Lib.hid hi; have Hz0 := Lib.hid hz0; have Hz1 := Lib.hid hz1; have Hz2 := Lib.hid hz2
  have HS := Lib.hid hS; have H := Lib.hid h; have HSS := Lib.hid hSS; have HT := Lib.hid hT; have HSl := Lib.hid hSl
  clear hS h hSS hi hz0 hz1 hz2 hT hSl
  go_enter Tryz.func137, Tryz.ntmps137
  go_wp2
  go_loopw [6, 25] (fun o iv wr => ∃ (i q : Nat) (acc : List Nat) (ww : Win), i ≤ n ∧ iv = .int .i64 i ∧ acc.length = i ∧ (∀ x ∈ acc, x < 18446744073709551616) ∧ (ww = w0 ∨ ww.Ok) ∧ rdM S n [] w0 p = rdM S (n - i) acc ww q ∧ ReaderAt wr g xs q N ∧
      Blk wr w.heap.size 244 #[.int .i64 ww.a, .int .i64 ww.t, .int .i64 ww.d] ∧ wr.ownsRow (w.heap.size + 1) 55 1 o i (acc.map fun x : Nat => Value.int .u64 (x : Int)) ∧ Fr (fun k => k = g) w wr) (fun _ iv _ => n - (intOf iv).toNat)
  case atStart => exact ⟨0, p, [], w0, by omega, rfl, rfl, by simp, .inl rfl, rfl, ⟨H.out.1.alloc _, H.out.2⟩, Blk.new w _ _, World.ownsRow_nil _ _ _ _, (Fr.refl _ _).alloc _⟩
  case round =>
    obtain ⟨i, q, acc, ww, hin, rfl, hal, hac, hwo, hrd, hR, hk, hown, hfr⟩ := hrel
    obtain ⟨Ao, co, rfl, _, _, hro⟩ := own_form hown
    have Hal := Lib.hid hal; have Hac := Lib.hid hac; have Hwo := Lib.hid hwo; have Hrd := Lib.hid hrd; have HR := Lib.hid hR; have Hown := Lib.hid hown; have Hfr := Lib.hid hfr; have HK := Lib.hid hk; have Hro := Lib.hid hro
    have hws : w.heap.size < wr.heap.size := hk.lt
    have hqN : q ≤ N := hR.2.1
    have Hbl := Lib.hid (Hfr.out.below hB0 (fun k hk hs => by omega))
    clear hal hac hwo hrd hR hown hfr hk hro
    by_cases hlt : i < n
    · obtain ⟨d, hd⟩ : ∃ d, n - i = d + 1 := ⟨n - i - 1, by omega⟩
      have hd2 : n - (i + 1) = d := by omega
      have Hd := Lib.hid hd; have Hd2 := Lib.hid hd2
      have hk63 : i + 1 ≤ maxLen := by unfold maxLen; omega
      have hk8 : (i + 1) * 8 ≤ 140737488355328 := by omega
      clear hd hd2
      by_cases hi0 : i = 0
      · subst hi0
        have hacc : acc = [] := List.eq_nil_of_length_eq_zero Hal.out
        subst hacc
        by_cases h64 : N < q + 64
        · have Hres := Lib.hid (show rdM S n [] w0 p = .err 4 by rw [Hrd.out, Hd.out]; exact rdM_first_none rfl (by rw [HSl.out]; exact h64))
          go_wp2_with fail
          refine (get_none g q N xs 64 _ (HS.out.below Hbl.out (Nat.le_refl _)) (by omega) HR.out (by omega) h64).mono ?_
          rintro e w6 ⟨rfl, hb6⟩
          have Hb6 := Lib.hid hb6; clear hb6
          go_wp2
          go_ret2
          exact ⟨fun c h => (by rw [Hres.out] at h; injection h with h; subst h; rfl), fun l q' h => (by rw [Hres.out] at h; cases h), Fr.call Hfr.out Hb6.out (by omega)⟩
        · have Hres := Lib.hid (show rdM S n [] w0 p = rdM S d [vAt S q 64] ww (q + 64) by rw [Hrd.out, Hd.out]; exact rdM_first rfl (by rw [HSl.out]; exact h64))
          go_wp2_with fail
          refine (get_ok g q N xs 64 _ HR.out (by omega) (by omega)).mono ?_
          rintro e w6 ⟨rfl, hr6, hf6⟩
          rw [rd_at (N := N) (by omega), ← HSS.out]
          have hv : vAt S q 64 < 18446744073709551616 := vAt_lt S q 64
          generalize vAt S q 64 = v at hv Hres ⊢
          have hw6 : wr.heap.size ≤ w6.heap.size := hf6.size
          have Hr6 := Lib.hid hr6
          have Hown6 := Lib.hid (hf6.own Hown.out (fun k hk hs => by have := (own_lt Hown.out k hk).1; omega))
          have HK6 := Lib.hid (hf6.blk HK.out (by omega))
          have Hf6 := Lib.hid (Fr.trans Hfr.out hf6 (fun k _ h => h))
          have Hsa := Lib.hid (show w.heap.size + 1 ≤ (w6.alloc (.cells #[.int .u64 (v : Int)] 55)).heap.size by simp; omega)
          clear hr6 hf6
          go_wp2_with (at_builtin; refine wpList_append_rd _ rfl (.tmp 38) (.tmp 40) _ rfl (w.heap.size + 1) 55 i0 (.int .u64 0) 1 8 Tryz.underlying97 Hi.out Hz0.out Hz1.out Hz2.out rfl (by decide) _ 0 _ rfl (Hown6.out.alloc _) _ _ 1 1 [.int .u64 (v : Int)] rfl (Rd.oneg w6 55 (.int .u64 (v : Int))) (u64_one [v]) hk63 hk8 Hsa.out ?_; intro v' wa hown' hgr hat; have HQ := Lib.hid (md_append (base := 0) hg Hown6.out Hr6.out Hf6.out HK6.out hown' hgr); clear hown' hgr hat)
          go_roundw
          case rel => exact ⟨0 + 1, q + 64, [v], ww, by omega, by go_num, rfl, fun x hx => (by rw [List.mem_singleton] at hx; omega), Hwo.out, by rw [Hd2.out]; exact Hres.out, HQ.out.2.1, HQ.out.2.2.2, HQ.out.1, HQ.out.2.2.1⟩
          case measure => simp [intOf]; omega
      · have hal0 : acc.length ≠ 0 := by rw [Hal.out]; exact hi0
        have Hal0 := Lib.hid hal0
        have hi1 : ((i : Int) == 0) = false := by rw [beq_eq_false_iff_ne]; omega
        obtain ⟨z0, z1, z2⟩ := HK.out.trio
        clear hal0
        go_wp2_with fail
        refine (change_any g q N xs S _ ww HSS.out (HS.out.below Hbl.out (Nat.le_refl _)) (HT.out.below Hbl.out hTB) hTB (by omega) hBg HR.out Hwo.out).mono ?_
        rintro e w6 ⟨her, hok, hf6⟩
        have hw6 : wr.heap.size ≤ w6.heap.size := hf6.size
        have Hf6 := Lib.hid (Fr.trans Hfr.out hf6 (fun k _ h => h))
        have Hf6' := Lib.hid hf6
        clear hf6 z0 z1 z2
        cases hc : chg S ww q with
        | err ce =>
          obtain ⟨ra, rt, rd, rfl⟩ := her ce hc
          have Hres := Lib.hid (show rdM S n [] w0 p = .err ce by rw [Hrd.out, Hd.out]; exact rdM_err Hal0.out hc)
          clear her hok hc
          go_wp2
          go_ret2
          exact ⟨fun c h => (by rw [Hres.out] at h; injection h with h; subst h; rfl), fun l q' h => (by rw [Hres.out] at h; cases h), Hf6.out.alloc _⟩
        | ok x w2 q2 =>
          obtain ⟨rfl, hr6⟩ := hok x w2 q2 hc
          obtain ⟨hxl, hwo2⟩ := chg_lt Hwo.out hc
          have Hown6 := Lib.hid (Hf6'.out.own Hown.out (fun k hk => by have := (own_lt Hown.out k hk).1; omega))
          have HK6 := Lib.hid (Hf6'.out.blk HK.out (by omega))
          obtain ⟨b1, o1, y, hA1, had1, hy1, e1⟩ := (Rd.of_own Hown6.out).at1 (k := i - 1) (by omega)
          subst hA1
          have hyl := Hac.out y (List.mem_of_getElem? hy1)
          have hyg : acc.getD (acc.length - 1) 0 = y := by rw [Hal.out]; exact getD_get hy1
          have hxr : bits BinOp.xor IntKind.u64 (y : Int) (x : Int) = ((y ^^^ x : Nat) : Int) := bits_xor_u64_nat y x hyl hxl
          have hYl : y ^^^ x < 18446744073709551616 := Nat.xor_lt_two_pow (n := 64) hyl hxl
          have Hres := Lib.hid (show rdM S n [] w0 p = rdM S d (acc ++ [y ^^^ x]) w2 q2 by rw [Hrd.out, Hd.out, rdM_next Hal0.out hc, hyg])
          obtain ⟨Y, hY⟩ : ∃ Y, Y = y ^^^ x := ⟨_, rfl⟩
          rw [← hY] at hxr hYl Hres
          have n1 : IntKind.i64.wrap ((i : Int) - 1) = ((i - 1 : Nat) : Int) := by rw [IntKind.wrap_i64]; omega
          have hi2 : 0 < i := by omega
          have hi3 : (0 : Int) < (i : Int) := by omega
          obtain ⟨ca, ct, cd⟩ := w2
          obtain ⟨wB, hwB⟩ : ∃ wB, wB = (((w6.setCell ⟨w.heap.size, 0, none⟩ (.int .i64 (ca : Int))).setCell ⟨w.heap.size, 1, none⟩ (.int .i64 (ct : Int))).setCell ⟨w.heap.size, 2, none⟩ (.int .i64 (cd : Int))).alloc (.cells #[.int .i64 (ca : Int), .int .i64 (ct : Int), .int .i64 (cd : Int)] 244) := ⟨_, rfl⟩
          have hwBs : w6.heap.size + 1 = wB.heap.size := by rw [hwB]; simp
          have HownB := Lib.hid (show wB.ownsRow (w.heap.size + 1) 55 1 (.slice (some ⟨b1, o1, none⟩) i co) i (acc.map fun x : Nat => Value.int .u64 (x : Int)) from by
            rw [hwB]
            have hne : some w.heap.size ≠ (Value.slice (some ⟨b1, o1, none⟩) i co).ownBlock := fun e => by have := (own_lt Hown6.out _ e.symm).1; omega
            exact (own_set (own_set (own_set Hown6.out hne _) hne _) hne _).alloc _)
          have HrB := Lib.hid (show ReaderAt wB g xs q2 N from by rw [hwB]; exact ⟨(((hr6.1.far (by show g ≠ w.heap.size; omega) _).far (by show g ≠ w.heap.size; omega) _).far (by show g ≠ w.heap.size; omega) _).alloc _, hr6.2⟩)
          have HfB := Lib.hid (show Fr (fun k => k = g) w wB from by rw [hwB]; exact (((Hf6.out.setCell (.inl (Nat.le_refl _)) _).setCell (.inl (Nat.le_refl _)) _).setCell (.inl (Nat.le_refl _)) _).alloc _)
          have HkB := Lib.hid (show Blk wB w.heap.size 244 #[.int .i64 (ca : Int), .int .i64 (ct : Int), .int .i64 (cd : Int)] from by rw [hwB]; exact (((HK6.out.set_ 0 _).set_ 1 _).set_ 2 _).alloc _)
          have Hsa := Lib.hid (show w.heap.size + 1 ≤ (wB.alloc (.cells #[.int .u64 (Y : Int)] 55)).heap.size by simp; have := hwBs; omega)
          have Hrdq := Lib.hid (show Rd (wB.alloc (.cells #[.int .u64 (Y : Int)] 55)) (wB.alloc (.cells #[.int .u64 (Y : Int)] 55)).heap.size 1 (some ⟨wB.heap.size, 0, none⟩) 1 [.int .u64 (Y : Int)] from Rd.oneg wB 55 (.int .u64 (Y : Int)))
          have Hmem := Lib.hid (show ∀ z ∈ acc ++ [Y], z < 18446744073709551616 from fun z hz => by rcases List.mem_append.1 hz with h | h; exact Hac.out z h; rw [List.mem_singleton] at h; omega)
          obtain ⟨b1', o1', y', hA1', had1', hy1', e1'⟩ := (Rd.of_own HownB.out).at1 (k := i - 1) (by omega)
          injection hA1' with hA2
          injection hA2 with hA3 hA4
          subst hA3; subst hA4
          obtain rfl : y = y' := Option.some.inj (hy1.symm.trans hy1')
          rw [hwB] at e1'
          have HwB := Lib.hid hwB
          obtain ⟨z0, z1, z2⟩ := HK6.out.trio
          have f0 := HK6.out.frozen 0; have f1 := HK6.out.frozen 1; have f2 := HK6.out.frozen 2
          have hlt6 : w.heap.size < w6.heap.size := by omega
          clear her hok hc hr6 hy1 hyg hY hwB hy1' had1'
          go_wp2_with (at_builtin; rw [← HwB.out]; refine wpList_append_rd _ rfl (.tmp 53) (.tmp 61) _ rfl (w.heap.size + 1) 55 i0 (.int .u64 0) 1 8 Tryz.underlying97 Hi.out Hz0.out Hz1.out Hz2.out rfl (by decide) _ i _ rfl (HownB.out.alloc _) _ _ 1 1 [.int .u64 (Y : Int)] rfl Hrdq.out (u64_one [Y]) hk63 hk8 Hsa.out ?_; intro v' wa hown' hgr hat; have HQ := Lib.hid (md_append (base := 0) (ww := ⟨ca, ct, cd⟩) hg HownB.out HrB.out HfB.out HkB.out hown' hgr); clear hown' hgr hat)
          go_roundw
          case rel => exact ⟨i + 1, q2, acc ++ [Y], ⟨ca, ct, cd⟩, by omega, by go_num, by rw [List.length_append, Hal.out]; rfl, Hmem.out, hwo2, by rw [Hd2.out]; exact Hres.out, HQ.out.2.1, HQ.out.2.2.2, HQ.out.1, HQ.out.2.2.1⟩
          case measure => simp [intOf]; omega
    · obtain rfl : i = n := by omega
      have Hres := Lib.hid (show rdM S i [] w0 p = .ok acc q by rw [Hrd.out, Nat.sub_self]; rfl)
      go_wp2
      go_ret2
      refine ⟨fun c h => (by rw [Hres.out] at h; cases h), fun l q' h => ?_, Hfr.out⟩
      rw [Hres.out] at h
      injection h with h1 h2
      subst h1; subst h2
      exact ⟨_, rfl, own_base Hown.out (Nat.le_succ _), HR.out⟩
end Go.Proofs.YtpbgonpmpjpljaaGreatDoor
