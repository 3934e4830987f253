/- mask.Read by its contract. -/
import Derived.Test.YthgefobcohlegaaGreatDoorMaskChgQX
import Derived.OwnWalk
import Derived.Test.YthgefobcohlegaaGreatDoorChunkEncQX
import Derived.Test.YthgefobcohlegaaGreatDoorTicksRdQX
namespace Go.Proofs.YthgefobcohlegaaGreatDoor
open Go.RowKit
set_option linter.unusedVariables false

theorem infoU64 : (Tryz.prog.info? 33).map (fun i => (i.zero, i.size, i.bytes)) = some (some (.int .u64 0), 1, 8) := by kernel_rfl
theorem u64_one (xs : List Nat) : ∀ u ∈ xs.map (fun x : Nat => Value.int .u64 (x : Int)), u.oneCell' = true := by
  intro u hu
  obtain ⟨x, _, rfl⟩ := List.mem_map.1 hu
  rfl
theorem Rd.oneg (w : World) (t : TypeId) (u : Value) : Rd (w.alloc (.cells #[u] t)) (w.alloc (.cells #[u] t)).heap.size 1 (some ⟨w.heap.size, 0, none⟩) 1 [u] :=
  ⟨rfl, fun _ => ⟨_, _, rfl, by simp, fun j x hx => by rw [Nat.zero_add, (Blk.new w _ _).cell]; simpa using hx⟩⟩
theorem md_append {w w6 wa : World} {base g q N i : Nat} {xs : List Nat} {acc : List Nat} {ww : Win} {t : Nat} {v v' : Value} (hg : g < w.heap.size) (hown : w6.ownsRow (w.heap.size + 1) 33 1 v i (acc.map fun x : Nat => Value.int .u64 (x : Int))) (hr : ReaderAt w6 g xs q N) (hf : Fr (fun k => k = g) w w6)
    (hk : Blk w6 w.heap.size 316 #[.int .i64 ww.a, .int .i64 ww.t, .int .i64 ww.d])
    (hown' : wa.ownsRow (w.heap.size + 1) 33 1 v' (i + 1) (acc.map (fun x : Nat => Value.int .u64 (x : Int)) ++ [.int .u64 (t : Int)])) (hgr : (w6.alloc (.cells #[.int .u64 (t : Int)] 33)).grownBy wa v.ownBlock) :
    wa.ownsRow (w.heap.size + 1) 33 1 v' (i + 1) ((acc ++ [t]).map fun x : Nat => Value.int .u64 (x : Int)) ∧ ReaderAt wa g xs q N ∧ Fr (fun k => k = g) w wa ∧ Blk wa w.heap.size 316 #[.int .i64 ww.a, .int .i64 ww.t, .int .i64 ww.d] :=
  ⟨by rw [List.map_append]; exact hown', ⟨(hr.1.alloc _).grown hgr (fun e => by have := (own_lt hown g e.symm).1; omega), hr.2⟩, (hf.alloc _).grown hgr (fun k hk => .inl (by have := (own_lt hown k hk).1; omega)), (hk.alloc _).grown hgr (fun e => by have := (own_lt hown _ e.symm).1; omega)⟩

set_option maxRecDepth 100000 in
set_option maxHeartbeats 8000000 in
theorem mread_any {es : Nat → Addr} {B : Nat} (g p N : Nat) (xs : List Nat) (n : Nat) (S : List Bool) (w : World) (hSS : S = (rbits xs).take N) (hS : SV es B w) (hT : TabAt w) (hTB : 19 < B) (hB0 : B ≤ w.heap.size) (hBg : B ≤ g) (h : ReaderAt w g xs p N) (hn : n ≤ 120) :
    Calls Tryz.prog 198 #[.pointer (some ⟨g, 0, none⟩), .int .i64 n] w fun e w' => (∀ c, rdM S n [] w0 p = .err c → e = .returned (.tuple #[.slice none 0 0, sentV (es c)])) ∧
      (∀ l q, rdM S n [] w0 p = .ok l q → ∃ v, e = .returned (.tuple #[v, .nilIface]) ∧ w'.ownsRow w.heap.size 33 1 v n (l.map fun x : Nat => Value.int .u64 (x : Int)) ∧ ReaderAt w' g xs q N) ∧ Fr (fun k => k = g) w w' := by
  have hg : g < w.heap.size := h.1.lt
  have hSl : S.length = N := by rw [hSS]; exact h.len
  have hn' : (n : Int) ≤ 120 := by omega
  obtain ⟨i0, hi, hz0, hz1, hz2⟩ := info_parts infoU64
  have Hi := Lib.hid hi; have Hz0 := Lib.hid hz0; have Hz1 := Lib.hid hz1; have Hz2 := Lib.hid hz2
  have HS := Lib.hid hS; have H := Lib.hid h; have HSS := Lib.hid hSS; have HT := Lib.hid hT; have HSl := Lib.hid hSl
  clear hS h hSS hi hz0 hz1 hz2 hT hSl
  go_enter Tryz.func198, Tryz.ntmps198
  go_wp2
  go_loopw [6, 25] (fun o iv wr => ∃ (i q : Nat) (acc : List Nat) (ww : Win), i ≤ n ∧ iv = .int .i64 i ∧ acc.length = i ∧ (∀ x ∈ acc, x < 18446744073709551616) ∧ (ww = w0 ∨ ww.Ok) ∧ rdM S n [] w0 p = rdM S (n - i) acc ww q ∧ ReaderAt wr g xs q N ∧
      Blk wr w.heap.size 316 #[.int .i64 ww.a, .int .i64 ww.t, .int .i64 ww.d] ∧ wr.ownsRow (w.heap.size + 1) 33 1 o i (acc.map fun x : Nat => Value.int .u64 (x : Int)) ∧ Fr (fun k => k = g) w wr) (fun _ iv _ => n - (intOf iv).toNat)
  case atStart => exact ⟨0, p, [], w0, by omega, rfl, rfl, by simp, .inl rfl, rfl, ⟨H.out.1.alloc _, H.out.2⟩, Blk.new w _ _, World.ownsRow_nil _ _ _ _, (Fr.refl _ _).alloc _⟩
  case round =>
    obtain ⟨i, q, acc, ww, hin, rfl, hal, hac, hwo, hrd, hR, hk, hown, hfr⟩ := hrel
    obtain ⟨Ao, co, rfl, _, _, hro⟩ := own_form hown
    have Hal := Lib.hid hal; have Hac := Lib.hid hac; have Hwo := Lib.hid hwo; have Hrd := Lib.hid hrd; have HR := Lib.hid hR; have Hown := Lib.hid hown; have Hfr := Lib.hid hfr; have HK := Lib.hid hk; have Hro := Lib.hid hro
    have hws : w.heap.size < wr.heap.size := hk.lt
    have hqN : q ≤ N := hR.2.1
    have Hbl := Lib.hid (Hfr.out.below hB0 (fun k hk hs => by omega))
    clear hal hac hwo hrd hR hown hfr hk hro
    by_cases hlt : i < n
    · obtain ⟨d, hd⟩ : ∃ d, n - i = d + 1 := ⟨n - i - 1, by omega⟩
      have hd2 : n - (i + 1) = d := by omega
      have Hd := Lib.hid hd; have Hd2 := Lib.hid hd2
      have hk63 : i + 1 ≤ maxLen := by unfold maxLen; omega
      have hk8 : (i + 1) * 8 ≤ 140737488355328 := by omega
      clear hd hd2
      by_cases hi0 : i = 0
      · subst hi0
        have hacc : acc = [] := List.eq_nil_of_length_eq_zero Hal.out
        subst hacc
        by_cases h64 : N < q + 64
        · have Hres := Lib.hid (show rdM S n [] w0 p = .err 4 by rw [Hrd.out, Hd.out]; exact rdM_first_none rfl (by rw [HSl.out]; exact h64))
          go_wp2_with fail
          refine (get_none g q N xs 64 _ (HS.out.below Hbl.out (Nat.le_refl _)) (by omega) HR.out (by omega) h64).mono ?_
          rintro e w6 ⟨rfl, hb6⟩
          have Hb6 := Lib.hid hb6; clear hb6
          go_wp2
          go_ret2
          exact ⟨fun c h => (by rw [Hres.out] at h; injection h with h; subst h; rfl), fun l q' h => (by rw [Hres.out] at h; cases h), Fr.call Hfr.out Hb6.out (by omega)⟩
        · have Hres := Lib.hid (show rdM S n [] w0 p = rdM S d [vAt S q 64] ww (q + 64) by rw [Hrd.out, Hd.out]; exact rdM_first rfl (by rw [HSl.out]; exact h64))
          go_wp2_with fail
          refine (get_ok g q N xs 64 _ HR.out (by omega) (by omega)).mono ?_
          rintro e w6 ⟨rfl, hr6, hf6⟩
          rw [rd_at (N := N) (by omega), ← HSS.out]
          have hv : vAt S q 64 < 18446744073709551616 := vAt_lt S q 64
          generalize vAt S q 64 = v at hv Hres ⊢
          have hw6 : wr.heap.size ≤ w6.heap.size := hf6.size
          have Hr6 := Lib.hid hr6
          have Hown6 := Lib.hid (hf6.own Hown.out (fun k hk hs => by have := (own_lt Hown.out k hk).1; omega))
          have HK6 := Lib.hid (hf6.blk HK.out (by omega))
          have Hf6 := Lib.hid (Fr.trans Hfr.out hf6 (fun k _ h => h))
          have Hsa := Lib.hid (show w.heap.size + 1 ≤ (w6.alloc (.cells #[.int .u64 (v : Int)] 33)).heap.size by simp; omega)
          clear hr6 hf6
          go_wp2_with (at_builtin; refine wpList_append_rd _ rfl (.tmp 38) (.tmp 40) _ rfl (w.heap.size + 1) 33 i0 (.int .u64 0) 1 8 Tryz.underlying246 Hi.out Hz0.out Hz1.out Hz2.out rfl (by decide) _ 0 _ rfl (Hown6.out.alloc _) _ _ 1 1 [.int .u64 (v : Int)] rfl (Rd.oneg w6 33 (.int .u64 (v : Int))) (u64_one [v]) hk63 hk8 Hsa.out ?_; intro v' wa hown' hgr hat; have HQ := Lib.hid (md_append (base := 0) hg Hown6.out Hr6.out Hf6.out HK6.out hown' hgr); clear hown' hgr hat)
          go_roundw
          case rel => exact ⟨0 + 1, q + 64, [v], ww, by omega, by go_num, rfl, fun x hx => (by rw [List.mem_singleton] at hx; omega), Hwo.out, by rw [Hd2.out]; exact Hres.out, HQ.out.2.1, HQ.out.2.2.2, HQ.out.1, HQ.out.2.2.1⟩
          case measure => simp [intOf]; omega
      · have hal0 : acc.length ≠ 0 := by rw [Hal.out]; exact hi0
        have Hal0 := Lib.hid hal0
        have hi1 : ((i : Int) == 0) = false := by rw [beq_eq_false_iff_ne]; omega
        obtain ⟨z0, z1, z2⟩ := HK.out.trio
        clear hal0
        go_wp2_with fail
        refine (change_any g q N xs S _ ww HSS.out (HS.out.below Hbl.out (Nat.le_refl _)) (HT.out.below Hbl.out hTB) hTB (by omega) hBg HR.out Hwo.out).mono ?_
        rintro e w6 ⟨her, hok, hf6⟩
        have hw6 : wr.heap.size ≤ w6.heap.size := hf6.size
        have Hf6 := Lib.hid (Fr.trans Hfr.out hf6 (fun k _ h => h))
        have Hf6' := Lib.hid hf6
        clear hf6 z0 z1 z2
        cases hc : chg S ww q with
        | err ce =>
          obtain ⟨ra, rt, rd, rfl⟩ := her ce hc
          have Hres := Lib.hid (show rdM S n [] w0 p = .err ce by rw [Hrd.out, Hd.out]; exact rdM_err Hal0.out hc)
          clear her hok hc
          go_wp2
          go_ret2
          exact ⟨fun c h => (by rw [Hres.out] at h; injection h with h; subst h; rfl), fun l q' h => (by rw [Hres.out] at h; cases h), Hf6.out.alloc _⟩
        | ok x w2 q2 =>
          obtain ⟨rfl, hr6⟩ := hok x w2 q2 hc
          obtain ⟨hxl, hwo2⟩ := chg_lt Hwo.out hc
          have Hown6 := Lib.hid (Hf6'.out.own Hown.out (fun k hk => by have := (own_lt Hown.out k hk).1; omega))
          have HK6 := Lib.hid (Hf6'.out.blk HK.out (by omega))
          obtain ⟨b1, o1, y, hA1, had1, hy1, e1⟩ := (Rd.of_own Hown6.out).at1 (k := i - 1) (by omega)
          subst hA1
          have hyl := Hac.out y (List.mem_of_getElem? hy1)
          have hyg : acc.getD (acc.length - 1) 0 = y := by rw [Hal.out]; exact getD_get hy1
          have hxr : bits BinOp.xor IntKind.u64 (y : Int) (x : Int) = ((y ^^^ x : Nat) : Int) := bits_xor_u64_nat y x hyl hxl
          have hYl : y ^^^ x < 18446744073709551616 := Nat.xor_lt_two_pow (n := 64) hyl hxl
          have Hres := Lib.hid (show rdM S n [] w0 p = rdM S d (acc ++ [y ^^^ x]) w2 q2 by rw [Hrd.out, Hd.out, rdM_next Hal0.out hc, hyg])
          obtain ⟨Y, hY⟩ : ∃ Y, Y = y ^^^ x := ⟨_, rfl⟩
          rw [← hY] at hxr hYl Hres
          have n1 : IntKind.i64.wrap ((i : Int) - 1) = ((i - 1 : Nat) : Int) := by rw [IntKind.wrap_i64]; omega
          have hi2 : 0 < i := by omega
          have hi3 : (0 : Int) < (i : Int) := by omega
          obtain ⟨ca, ct, cd⟩ := w2
          obtain ⟨wB, hwB⟩ : ∃ wB, wB = (((w6.setCell ⟨w.heap.size, 0, none⟩ (.int .i64 (ca : Int))).setCell ⟨w.heap.size, 1, none⟩ (.int .i64 (ct : Int))).setCell ⟨w.heap.size, 2, none⟩ (.int .i64 (cd : Int))).alloc (.cells #[.int .i64 (ca : Int), .int .i64 (ct : Int), .int .i64 (cd : Int)] 316) := ⟨_, rfl⟩
          have hwBs : w6.heap.size + 1 = wB.heap.size := by rw [hwB]; simp
          have HownB := Lib.hid (show wB.ownsRow (w.heap.size + 1) 33 1 (.slice (some ⟨b1, o1, none⟩) i co) i (acc.map fun x : Nat => Value.int .u64 (x : Int)) from by
            rw [hwB]
            have hne : some w.heap.size ≠ (Value.slice (some ⟨b1, o1, none⟩) i co).ownBlock := fun e => by have := (own_lt Hown6.out _ e.symm).1; omega
            exact (own_set (own_set (own_set Hown6.out hne _) hne _) hne _).alloc _)
          have HrB := Lib.hid (show ReaderAt wB g xs q2 N from by rw [hwB]; exact ⟨(((hr6.1.far (by show g ≠ w.heap.size; omega) _).far (by show g ≠ w.heap.size; omega) _).far (by show g ≠ w.heap.size; omega) _).alloc _, hr6.2⟩)
          have HfB := Lib.hid (show Fr (fun k => k = g) w wB from by rw [hwB]; exact (((Hf6.out.setCell (.inl (Nat.le_refl _)) _).setCell (.inl (Nat.le_refl _)) _).setCell (.inl (Nat.le_refl _)) _).alloc _)
          have HkB := Lib.hid (show Blk wB w.heap.size 316 #[.int .i64 (ca : Int), .int .i64 (ct : Int), .int .i64 (cd : Int)] from by rw [hwB]; exact (((HK6.out.set_ 0 _).set_ 1 _).set_ 2 _).alloc _)
          have Hsa := Lib.hid (show w.heap.size + 1 ≤ (wB.alloc (.cells #[.int .u64 (Y : Int)] 33)).heap.size by simp; have := hwBs; omega)
          have Hrdq := Lib.hid (show Rd (wB.alloc (.cells #[.int .u64 (Y : Int)] 33)) (wB.alloc (.cells #[.int .u64 (Y : Int)] 33)).heap.size 1 (some ⟨wB.heap.size, 0, none⟩) 1 [.int .u64 (Y : Int)] from Rd.oneg wB 33 (.int .u64 (Y : Int)))
          have Hmem := Lib.hid (show ∀ z ∈ acc ++ [Y], z < 18446744073709551616 from fun z hz => by rcases List.mem_append.1 hz with h | h; exact Hac.out z h; rw [List.mem_singleton] at h; omega)
          obtain ⟨b1', o1', y', hA1', had1', hy1', e1'⟩ := (Rd.of_own HownB.out).at1 (k := i - 1) (by omega)
          injection hA1' with hA2
          injection hA2 with hA3 hA4
          subst hA3; subst hA4
          obtain rfl : y = y' := Option.some.inj (hy1.symm.trans hy1')
          rw [hwB] at e1'
          have HwB := Lib.hid hwB
          obtain ⟨z0, z1, z2⟩ := HK6.out.trio
          have f0 := HK6.out.frozen 0; have f1 := HK6.out.frozen 1; have f2 := HK6.out.frozen 2
          have hlt6 : w.heap.size < w6.heap.size := by omega
          clear her hok hc hr6 hy1 hyg hY hwB hy1' had1'
          go_wp2_with (at_builtin; rw [← HwB.out]; refine wpList_append_rd _ rfl (.tmp 53) (.tmp 61) _ rfl (w.heap.size + 1) 33 i0 (.int .u64 0) 1 8 Tryz.underlying246 Hi.out Hz0.out Hz1.out Hz2.out rfl (by decide) _ i _ rfl (HownB.out.alloc _) _ _ 1 1 [.int .u64 (Y : Int)] rfl Hrdq.out (u64_one [Y]) hk63 hk8 Hsa.out ?_; intro v' wa hown' hgr hat; have HQ := Lib.hid (md_append (base := 0) (ww := ⟨ca, ct, cd⟩) hg HownB.out HrB.out HfB.out HkB.out hown' hgr); clear hown' hgr hat)
          go_roundw
          case rel => exact ⟨i + 1, q2, acc ++ [Y], ⟨ca, ct, cd⟩, by omega, by go_num, by rw [List.length_append, Hal.out]; rfl, Hmem.out, hwo2, by rw [Hd2.out]; exact Hres.out, HQ.out.2.1, HQ.out.2.2.2, HQ.out.1, HQ.out.2.2.1⟩
          case measure => simp [intOf]; omega
    · obtain rfl : i = n := by omega
      have Hres := Lib.hid (show rdM S i [] w0 p = .ok acc q by rw [Hrd.out, Nat.sub_self]; rfl)
      go_wp2
      go_ret2
      refine ⟨fun c h => (by rw [Hres.out] at h; cases h), fun l q' h => ?_, Hfr.out⟩
      rw [Hres.out] at h
      injection h with h1 h2
      subst h1; subst h2
      exact ⟨_, rfl, own_base Hown.out (Nat.le_succ _), HR.out⟩
end Go.Proofs.YthgefobcohlegaaGreatDoor

namespace Go.Proofs.YthgefobcohlegaaGreatDoor
open Go.RowKit
set_option linter.unusedVariables false

inductive PRes where
  | err (c : Nat) : PRes
  | ok (l : List (Int × Int)) : PRes
deriving DecidableEq
def zipP (ts : List Int) (vs : List Nat) : List (Int × Int) := List.zipWith (fun (t : Int) (v : Nat) => (t, (v : Int))) ts vs
/-- What points reads of some bytes. -/
def ptR (xs : List Nat) : PRes :=
  if xs.length = 0 then .err 4 else if 120 < vAt (rbits xs) 0 8 then .err 1 else
  match rdT (rbits xs) (vAt (rbits xs) 0 8) [] 8 with
  | .err c => .err c
  | .ok ts q => match rdM (rbits xs) (vAt (rbits xs) 0 8) [] w0 q with
    | .err c => .err c
    | .ok vs _ => .ok (zipP ts vs)
/-- What Decode reads of some bytes. -/
def decR (xs : List Nat) : PRes :=
  if xs.length < 5 then .err 0 else if fourL (sumL (xs.take (xs.length - 4))) ≠ xs.drop (xs.length - 4) then .err 8 else
  match ptR (xs.take (xs.length - 4)) with
  | .err _ => .err 0
  | .ok l => if (∀ j, j < l.length → okAt l j) ∧ chunkL l = xs then .ok l else .err 0
theorem rdM_lt {S : List Bool} : ∀ (n : Nat) (acc : List Nat) (w : Win) (q : Nat) (l : List Nat) (p : Nat), (w = w0 ∨ w.Ok) → (∀ x ∈ acc, x < 18446744073709551616) → rdM S n acc w q = .ok l p → ∀ x ∈ l, x < 18446744073709551616 := by
  intro n
  induction n with
  | zero => intro acc w q l p hw ha h; injection h with h1 h2; subst h1; exact ha
  | succ n ih =>
    intro acc w q l p hw ha h
    simp only [rdM] at h
    split at h
    · split at h
      · cases h
      · exact ih _ _ _ _ _ hw (fun x hx => by rw [List.mem_singleton] at hx; rw [hx]; exact vAt_lt S q 64) h
    · split at h
      · cases h
      · rename_i e
        obtain ⟨hx, hw'⟩ := chg_lt hw e
        refine ih _ _ _ _ _ hw' (fun x hx' => ?_) h
        rcases List.mem_append.1 hx' with h' | h'
        · exact ha x h'
        · rw [List.mem_singleton] at h'
          rw [h']
          refine Nat.xor_lt_two_pow (n := 64) ?_ hx
          rw [List.getD_eq_getElem?_getD]
          cases e2 : acc[acc.length - 1]? with
          | none => simp
          | some y => exact ha y (List.mem_of_getElem? e2)
theorem rdT_len {S : List Bool} : ∀ (n : Nat) (acc : List Int) (q : Nat) (l : List Int) (p : Nat), rdT S n acc q = .ok l p → l.length = acc.length + n := by
  intro n
  induction n with
  | zero => intro acc q l p h; injection h with h1 h2; subst h1; rfl
  | succ n ih =>
    intro acc q l p h
    simp only [rdT] at h
    split at h
    · cases h
    · cases h
    · split at h
      · cases h
      · split at h
        · have := ih _ _ _ _ h; rw [List.length_append, List.length_singleton] at this; omega
        · cases h
theorem zipP_get {ts : List Int} {vs : List Nat} {k : Nat} {t : Int} {v : Nat} (h1 : ts[k]? = some t) (h2 : vs[k]? = some v) : (zipP ts vs)[k]? = some (t, (v : Int)) := by
  unfold zipP; rw [List.getElem?_zipWith, h1, h2]
theorem zipP_len {ts : List Int} {vs : List Nat} {n : Nat} (h1 : ts.length = n) (h2 : vs.length = n) : (zipP ts vs).length = n := by
  unfold zipP; rw [List.length_zipWith]; omega
theorem zipP_mem {ts : List Int} {vs : List Nat} (h : ∀ x ∈ vs, x < 18446744073709551616) : ∀ p ∈ zipP ts vs, 0 ≤ p.2 ∧ p.2 < 18446744073709551616 := by
  intro p hp
  obtain ⟨j, hj, rfl⟩ := List.getElem_of_mem hp
  unfold zipP at hj ⊢
  rw [List.getElem_zipWith]
  rw [List.length_zipWith] at hj
  have := h (vs[j]'(by omega)) (List.getElem_mem _)
  show 0 ≤ ((vs[j]'(by omega) : Nat) : Int) ∧ ((vs[j]'(by omega) : Nat) : Int) < _
  omega

set_option maxRecDepth 100000 in
set_option maxHeartbeats 4000000 in
theorem points_any {es : Nat → Addr} {B : Nat} (xs : List Nat) (w : World) (hS : SV es B w) (hT : TabAt w) (hTB : 19 < B) (hB0 : B ≤ w.heap.size) (hx : ∀ x ∈ xs, x < 256) (hxl : xs.length ≤ 100000) :
    Calls Tryz.prog 164 #[.string (bytesOf xs)] w fun e w' => (∀ c, ptR xs = .err c → e = .returned (.tuple #[.slice none 0 0, sentV (es c)])) ∧
      (∀ l, ptR xs = .ok l → ∃ v, e = .returned (.tuple #[v, .nilIface]) ∧ w'.ownsRow w.heap.size 39 2 v l.length (ptsC l)) ∧ Below w.heap.size w w' := by
  obtain ⟨st, hst⟩ : ∃ st, st = bytesOf xs := ⟨_, rfl⟩
  obtain ⟨m, hm⟩ : ∃ m, m = xs.length := ⟨_, rfl⟩
  have hsz : st.size = m := by rw [hst, bytesOf_size, hm]
  have hm1 : m ≤ 100000 := by omega
  obtain ⟨S, hSS⟩ : ∃ S, S = rbits xs := ⟨_, rfl⟩
  have hSl : S.length = 8 * m := by rw [hSS, rbits_len, hm]
  have hS2 : S = (rbits xs).take (8 * m) := by rw [← hSS, List.take_of_length_le (by rw [hSl]; exact Nat.le_refl _)]
  have Ho := Lib.hid (show ∀ W, Calls Tryz.prog 195 #[.string st, .int .i64 ((8 * m : Nat) : Int)] W fun e w' => e = .returned (.tuple #[.pointer (some ⟨W.heap.size, 0, none⟩), .nilIface]) ∧ ReaderAt w' W.heap.size xs 0 (8 * m) ∧ Below W.heap.size W w' from fun W => by rw [hst]; exact open_ok xs (8 * m) W hx (by omega) (by omega) (by omega))
  have hn8 : IntKind.i64.wrap (8 * (m : Int)) = ((8 * m : Nat) : Int) := by rw [IntKind.wrap_i64]; omega
  have hp0 : m = 0 → ptR xs = .err 4 := fun h => by unfold ptR; rw [if_pos (by omega)]
  have hp1 : m ≠ 0 → 120 < vAt S 0 8 → ptR xs = .err 1 := fun h h2 => by unfold ptR; rw [if_neg (by omega), ← hSS, if_pos h2]
  have hp2 : m ≠ 0 → ¬ 120 < vAt S 0 8 → ∀ c, rdT S (vAt S 0 8) [] 8 = .err c → ptR xs = .err c := fun h h2 c h3 => by unfold ptR; rw [if_neg (by omega), ← hSS, if_neg h2, h3]
  have hp3 : m ≠ 0 → ¬ 120 < vAt S 0 8 → ∀ ts q, rdT S (vAt S 0 8) [] 8 = .ok ts q → ∀ c, rdM S (vAt S 0 8) [] w0 q = .err c → ptR xs = .err c := fun h h2 ts q h3 c h4 => by unfold ptR; rw [if_neg (by omega), ← hSS, if_neg h2, h3]; simp only [h4]
  have hp4 : m ≠ 0 → ¬ 120 < vAt S 0 8 → ∀ ts q, rdT S (vAt S 0 8) [] 8 = .ok ts q → ∀ vs q2, rdM S (vAt S 0 8) [] w0 q = .ok vs q2 → ptR xs = .ok (zipP ts vs) := fun h h2 ts q h3 vs q2 h4 => by unfold ptR; rw [if_neg (by omega), ← hSS, if_neg h2, h3]; simp only [h4]
  have Hp0 := Lib.hid hp0; have Hp1 := Lib.hid hp1; have Hp2 := Lib.hid hp2; have Hp3 := Lib.hid hp3; have Hp4 := Lib.hid hp4
  have HS := Lib.hid hS; have HT := Lib.hid hT; have HSl := Lib.hid hSl; have HS2 := Lib.hid hS2
  obtain ⟨i0, hi, hz0, hz1, hz2⟩ := info_parts infoPt
  have Hi := Lib.hid hi; have Hz0 := Lib.hid hz0; have Hz1 := Lib.hid hz1; have Hz2 := Lib.hid hz2
  rw [← hst]
  clear hst hm hp0 hp1 hp2 hp3 hp4 hS hT hSl hS2 hSS hx hxl hi hz0 hz1 hz2
  go_enter Tryz.func164, Tryz.ntmps164
  go_wp2_with fail
  refine (Ho.out _).mono ?_
  rintro e w1 ⟨rfl, hr, hb⟩
  have hg : w.heap.size ≤ w.heap.size := Nat.le_refl _
  have hB1 := Lib.hid hb; have Hr1 := Lib.hid hr
  obtain ⟨g, hgg⟩ : ∃ g, g = w.heap.size := ⟨_, rfl⟩
  rw [← hgg] at Hr1 ⊢
  have hBg : B ≤ g := by omega
  have hg1 : g < w1.heap.size := Hr1.out.1.lt
  have Hgg := Lib.hid hgg
  have HSV1 := Lib.hid (HS.out.below hB1.out hB0)
  have hw1 : w.heap.size ≤ w1.heap.size := hB1.out.size
  clear hb hr hg hgg
  by_cases hm0 : m = 0
  · have Hres := Lib.hid (Hp0.out hm0)
    go_wp2_with fail
    refine (get_none g 0 (8 * m) xs 8 _ HSV1.out (by omega) Hr1.out (by omega) (by omega)).mono ?_
    rintro e w2 ⟨rfl, hb⟩
    have hB2 := Lib.hid (Below.call hB1.out hb hw1)
    clear hb hm0
    go_wp2
    go_ret2
    exact ⟨fun c h => (by rw [Hres.out] at h; injection h with h; subst h; rfl), fun l h => (by rw [Hres.out] at h; cases h), hB2.out⟩
  · go_wp2_with fail
    refine (get_ok g 0 (8 * m) xs 8 _ Hr1.out (by omega) (by omega)).mono ?_
    rintro e w2 ⟨rfl, hr2, hf2⟩
    rw [rd_at (N := 8 * m) (by omega), ← HS2.out]
    have hn256 : vAt S 0 8 < 256 := vAt_lt S 0 8
    obtain ⟨n, hn⟩ : ∃ n, n = vAt S 0 8 := ⟨_, rfl⟩
    rw [← hn] at hn256 Hp1 Hp2 Hp3 Hp4 ⊢
    have hB2 := Lib.hid (Below.trans hB1.out (hf2.below hw1 (fun k hk hs => by have := Hgg.out; omega)))
    have hw2 : w.heap.size ≤ w2.heap.size := hB2.out.size
    have Hr2 := Lib.hid (show ReaderAt w2 g xs 8 (8 * m) from hr2)
    have HSV2 := Lib.hid (HS.out.below hB2.out hB0)
    clear hr2 hf2 hn
    by_cases h120 : 120 < n
    · have Hres := Lib.hid (Hp1.out hm0 h120)
      have h120' : (120 : Int) < n := by omega
      go_wp2_with fail
      refine (read_bad _ (n : Int) _ HSV2.out (by omega)).mono ?_
      rintro e w3 ⟨rfl, hb⟩
      have hB3 := Lib.hid (Below.call hB2.out hb hw2)
      clear hb
      go_wp2
      go_ret2
      exact ⟨fun c h => (by rw [Hres.out] at h; injection h with h; subst h; rfl), fun l h => (by rw [Hres.out] at h; cases h), hB3.out⟩
    · go_wp2_with fail
      refine (read_any g 8 (8 * m) xs n _ HSV2.out (by omega) hBg Hr2.out (by omega)).mono ?_
      rintro e w3 ⟨her, hok, hf3⟩
      rw [← HS2.out] at her hok
      have hB3 := Lib.hid (Below.trans hB2.out (hf3.below hw2 (fun k hk hs => by have := Hgg.out; omega)))
      have hw3 : w.heap.size ≤ w3.heap.size := hB3.out.size
      have HSV3 := Lib.hid (HS.out.below hB3.out hB0)
      clear hf3
      cases hrt : rdT S n [] 8 with
      | err ce =>
        obtain rfl := her ce hrt
        have Hres := Lib.hid (Hp2.out hm0 h120 ce hrt)
        clear her hok hrt
        go_wp2
        go_ret2
        exact ⟨fun c h => (by rw [Hres.out] at h; injection h with h; subst h; rfl), fun l h => (by rw [Hres.out] at h; cases h), hB3.out⟩
      | ok ts q =>
        obtain ⟨v3, rfl, hown3, hr3⟩ := hok ts q hrt
        obtain ⟨A1, c1, rfl, _, _, _⟩ := own_form hown3
        have Hr3 := Lib.hid hr3; have Hown3 := Lib.hid hown3; have Hrt := Lib.hid hrt
        clear her hok hr3 hown3 hrt
        go_wp2_with fail
        refine (mread_any g q (8 * m) xs n S _ HS2.out HSV3.out (HT.out.call hB3.out (Nat.le_refl _)) hTB (by omega) hBg Hr3.out (by omega)).mono ?_
        rintro e w4 ⟨her, hok, hf4⟩
        have hB4 := Lib.hid (Below.trans hB3.out (hf4.below hw3 (fun k hk hs => by have := Hgg.out; omega)))
        have hw4 : w.heap.size ≤ w4.heap.size := hB4.out.size
        have Hown4 := Lib.hid (hf4.own Hown3.out (fun k hk hs => by
          have h1 := (own_lt Hown3.out k hk).1
          have := Hgg.out
          subst hs
          have h2 := own_ne_blk Hown3.out Hr3.out.1 (by decide)
          exact h2 hk.symm))
        clear hf4
        cases hrm : rdM S n [] w0 q with
        | err ce =>
          obtain rfl := her ce hrm
          have Hres := Lib.hid (Hp3.out hm0 h120 ts q Hrt.out ce hrm)
          clear her hok hrm
          go_wp2
          go_ret2
          exact ⟨fun c h => (by rw [Hres.out] at h; injection h with h; subst h; rfl), fun l h => (by rw [Hres.out] at h; cases h), hB4.out⟩
        | ok vs q2 =>
          obtain ⟨v4, rfl, hown5, _⟩ := hok vs q2 hrm
          obtain ⟨A2, c2, rfl, _, _, _⟩ := own_form hown5
          have Hres := Lib.hid (Hp4.out hm0 h120 ts q Hrt.out vs q2 hrm)
          have hl1 : ts.length = n := by have := rdT_len n [] 8 ts q Hrt.out; simpa using this
          have hl2 : vs.length = n := by have := rdM_len n [] w0 q vs q2 hrm; simpa using this
          have Hrd1 := Lib.hid (Rd.of_own Hown4.out); have Hrd2 := Lib.hid (Rd.of_own hown5)
          have Hll := Lib.hid (zipP_len hl1 hl2)
          obtain ⟨l, hl⟩ : ∃ l, l = zipP ts vs := ⟨_, rfl⟩
          rw [← hl] at Hres Hll
          have Hzl := Lib.hid hl
          have hn' : (n : Int) ≤ 120 := by omega
          clear her hok hrm hown5 hl1 hl2 hl
          go_wp2
          go_loopw [9, 52] (fun o iv wr => ∃ k : Nat, k ≤ n ∧ iv = .int .i64 k ∧ wr.ownsRow w4.heap.size 39 2 o k (ptsC (l.take k)) ∧ Below w4.heap.size w4 wr) (fun _ iv _ => n - (intOf iv).toNat)
          case atStart => exact ⟨0, Nat.zero_le _, rfl, World.ownsRow_nil _ _ _ _, Below.refl _ _⟩
          case round =>
            obtain ⟨k, hk, rfl, hown, hbel⟩ := hrel
            obtain ⟨Ao, co, rfl, _, _, _⟩ := own_form hown
            have Hown := Lib.hid hown; have Hbel := Lib.hid hbel
            have hwr : w4.heap.size ≤ wr.heap.size := hbel.size
            clear hown hbel
            by_cases hkn : k < n
            · obtain ⟨b1, o1, t, hA1, had1, hy1, e1⟩ := (Hrd1.out.below Hbel.out).at1 hkn
              obtain ⟨b2, o2, v, hA2, had2, hy2, e2⟩ := (Hrd2.out.below Hbel.out).at1 hkn
              subst hA1; subst hA2
              have hlk : l[k]? = some (t, (v : Int)) := by rw [Hzl.out]; exact zipP_get hy1 hy2
              have Htk := Lib.hid (show ptsC (l.take (k + 1)) = ptsC (l.take k) ++ ptsC [(t, (v : Int))] by rw [take_snoc hlk]; simp [ptsC])
              have hk63 : k + 1 ≤ maxLen := by unfold maxLen; omega
              have hk8 : (k + 1) * 16 ≤ 140737488355328 := by omega
              have HS0 := Lib.hid (show wr.drew.cell? ⟨b1, o1 + k, none⟩ = some (.int .i64 t) ∧ wr.drew.cell? ⟨b2, o2 + k, none⟩ = some (.int .u64 (v : Int)) from ⟨e1, e2⟩)
              have hb1 : b1 < wr.heap.size := Nat.lt_of_lt_of_le had1 hwr
              have hb2 : b2 < wr.heap.size := Nat.lt_of_lt_of_le had2 hwr
              have hbal : Below wr.heap.size wr (wr.alloc (.cells #[.int .i64 t, .int .u64 (v : Int)] 39)).drew := (Below.alloc (Below.refl _ _) (Nat.le_refl _) _).drew
              have HS1 := Lib.hid (show (wr.alloc (.cells #[.int .i64 t, .int .u64 (v : Int)] 39)).drew.cell? ⟨b1, o1 + k, none⟩ = some (.int .i64 t) ∧ (wr.alloc (.cells #[.int .i64 t, .int .u64 (v : Int)] 39)).drew.cell? ⟨b2, o2 + k, none⟩ = some (.int .u64 (v : Int)) from ⟨(hbal.cell (p := ⟨b1, o1 + k, none⟩) hb1).trans e1, (hbal.cell (p := ⟨b2, o2 + k, none⟩) hb2).trans e2⟩)
              have HoA := Lib.hid (show (wr.alloc (.cells #[.int .i64 t, .int .u64 (v : Int)] 39)).drew.ownsRow w4.heap.size 39 2 (.slice Ao k co) k (ptsC (l.take k)) from own_drew (Hown.out.alloc _))
              have HrA := Lib.hid (show Rd (wr.alloc (.cells #[.int .i64 t, .int .u64 (v : Int)] 39)).drew (wr.alloc (.cells #[.int .i64 t, .int .u64 (v : Int)] 39)).drew.heap.size 2 (some ⟨wr.heap.size, 0, none⟩) 1 (ptsC [(t, (v : Int))]) from Rd.one2 wr 39 (t, (v : Int)))
              have HzA := Lib.hid (show w4.heap.size ≤ (wr.alloc (.cells #[.int .i64 t, .int .u64 (v : Int)] 39)).drew.heap.size by simp; omega)
              have HbA := Lib.hid (show Below w4.heap.size w4 (wr.alloc (.cells #[.int .i64 t, .int .u64 (v : Int)] 39)).drew from (Below.alloc Hbel.out hwr _).drew)
              have Hb1 := Lib.hid had1; have Hb2 := Lib.hid had2
              clear hbal hlk hy1 hy2
              go_wp2
              go_region_held3 (fun w' => w'.cell? ⟨b1, o1 + k, none⟩ = some (.int .i64 t) ∧ w'.cell? ⟨b2, o2 + k, none⟩ = some (.int .u64 (v : Int)))
                (first | with_reducible exact HS0.out | with_reducible exact HS1.out | with_reducible exact HS2.out)
                (first | (refine step_append_rd _ rfl (.tmp 55) (.tmp 65) _ rfl w4.heap.size 39 i0 (.agg #[.int .i64 0, .int .u64 0]) 2 16 Tryz.underlying54 Hi.out Hz0.out Hz1.out Hz2.out rfl (by decide) (.slice Ao k co) k _ rfl HoA.out _ _ 1 1 (ptsC [(t, (v : Int))]) rfl HrA.out (ptsC_one [(t, (v : Int))]) hk63 hk8 HzA.out ?_; intro v' wa hown' hgr hat; have Hv := Lib.hid hown'; have hBb := Below.grown HbA.out hgr HzA.out (fun g hg => (own_lt HoA.out g hg).1); have HS2 := Lib.hid (And.intro ((hBb.cell (p := ⟨b1, o1 + k, none⟩) Hb1.out).trans ((Below.cell Hbel.out (p := ⟨b1, o1 + k, none⟩) Hb1.out).symm.trans e1)) ((hBb.cell (p := ⟨b2, o2 + k, none⟩) Hb2.out).trans ((Below.cell Hbel.out (p := ⟨b2, o2 + k, none⟩) Hb2.out).symm.trans e2))); have HBb := Lib.hid hBb; clear hown' hgr hat hBb))
              all_goals
                go_wp2
                go_roundw
                case rel => exact ⟨k + 1, by omega, by go_num, by rw [Htk.out]; exact Hv.out, HBb.out⟩
                case measure => simp [intOf]; omega
            · obtain rfl : k = n := by omega
              have hlt : l.take k = l := List.take_of_length_le (by rw [Hll.out]; exact Nat.le_refl _)
              have Ho2 := Lib.hid (by rw [← hlt]; exact Hown.out : wr.ownsRow w4.heap.size 39 2 (.slice Ao k co) k (ptsC l))
              clear hlt
              go_wp2
              go_ret2
              refine ⟨fun c h => (by rw [Hres.out] at h; cases h), fun l' h => ?_, Below.call hB4.out Hbel.out hw4⟩
              rw [Hres.out] at h
              injection h with h
              subst h
              exact ⟨_, rfl, by rw [Hll.out]; exact own_base Ho2.out hw4⟩

theorem bytesOf_extract (xs : List Nat) (i j : Nat) : (bytesOf xs).extract i j = bytesOf ((xs.take j).drop i) := by
  unfold bytesOf; rw [B8_extract, List.map_drop, List.map_take]
theorem bytesOf_inj {a b : List Nat} (ha : ∀ x ∈ a, x < 256) (hb : ∀ x ∈ b, x < 256) (h : (bytesOf a).toList = (bytesOf b).toList) : a = b := by
  unfold bytesOf at h
  rw [B8_toList, B8_toList] at h
  have hinj : ∀ x y : Nat, x < 256 → y < 256 → UInt8.ofNat x = UInt8.ofNat y → x = y := fun x y hx hy h => by
    have h2 := congrArg UInt8.toNat h
    rw [UInt8.toNat_ofNat', UInt8.toNat_ofNat'] at h2
    omega
  induction a generalizing b with
  | nil => cases b with
    | nil => rfl
    | cons y b => simp at h
  | cons x a ih => cases b with
    | nil => simp at h
    | cons y b =>
      simp only [List.map_cons, List.cons.injEq] at h
      rw [hinj x y (ha x List.mem_cons_self) (hb y List.mem_cons_self) h.1, ih (fun z hz => ha z (List.mem_cons_of_mem _ hz)) (fun z hz => hb z (List.mem_cons_of_mem _ hz)) h.2]
theorem chunkL_256 (l : List (Int × Int)) : ∀ x ∈ chunkL l, x < 256 := by
  intro x hx
  rcases List.mem_append.1 hx with h | h
  · exact packN_256 _ x h
  · exact fourL_256 _ x h
theorem ptR_ok {xs : List Nat} {l : List (Int × Int)} (h : ptR xs = .ok l) : l.length ≤ 120 ∧ ∀ p ∈ l, 0 ≤ p.2 ∧ p.2 < 18446744073709551616 := by
  unfold ptR at h
  split at h
  · cases h
  split at h
  · cases h
  rename_i h120
  split at h
  · cases h
  rename_i ts q hrt
  split at h
  · cases h
  rename_i vs q2 hrm
  injection h with h
  subst h
  have hl1 := rdT_len _ [] 8 ts q hrt
  have hl2 := rdM_len _ [] w0 q vs q2 hrm
  simp only [List.length_nil, Nat.zero_add] at hl1 hl2
  exact ⟨by rw [zipP_len hl1 hl2]; omega, zipP_mem (rdM_lt _ [] w0 q vs q2 (.inl rfl) (by simp) hrm)⟩

set_option maxRecDepth 100000 in
set_option maxHeartbeats 4000000 in
theorem decode_any {es : Nat → Addr} {B : Nat} (xs : List Nat) (w : World) (hS : SV es B w) (hT : TabAt w) (hTB : 19 < B) (hB0 : B ≤ w.heap.size) (hx : ∀ x ∈ xs, x < 256) (hxl : xs.length ≤ 100000) :
    Calls Tryz.prog 122 #[.string (bytesOf xs)] w fun e w' => (∀ c, decR xs = .err c → e = .returned (.tuple #[.slice none 0 0, sentV (es c)])) ∧
      (∀ l, decR xs = .ok l → ∃ v, e = .returned (.tuple #[v, .nilIface]) ∧ w'.ownsRow w.heap.size 39 2 v l.length (ptsC l)) ∧ Below w.heap.size w w' := by
  obtain ⟨st, hst⟩ : ∃ st, st = bytesOf xs := ⟨_, rfl⟩
  obtain ⟨n, hn⟩ : ∃ n, n = xs.length := ⟨_, rfl⟩
  have hsz : st.size = n := by rw [hst, bytesOf_size, hn]
  have hn1 : n ≤ 100000 := by omega
  have g0 : w.cell? ⟨4, 0, none⟩ = some (sentV (es 0)) := hS.var 0 (by decide)
  by_cases h5 : n < 5
  · have Hres := Lib.hid (show decR xs = .err 0 by unfold decR; rw [if_pos (by omega)])
    have h5' : (n : Int) < 5 := by omega
    rw [← hst]
    clear hst hn hS hT hx hxl
    go_enter Tryz.func122, Tryz.ntmps122
    go_wp2
    go_quiet (fail)
    go_wp2
    go_ret2
    exact ⟨fun c h => (by rw [Hres.out] at h; injection h with h; subst h; rfl), fun l h => (by rw [Hres.out] at h; cases h), Below.drewN (Below.refl _ _) _⟩
  obtain ⟨m, hm⟩ : ∃ m, m = n - 4 := ⟨_, rfl⟩
  obtain ⟨bs, hbs⟩ : ∃ bs, bs = xs.take m := ⟨_, rfl⟩
  have hbx : ∀ x ∈ bs, x < 256 := by rw [hbs]; exact fun x h => hx x (List.mem_of_mem_take h)
  have hbl : bs.length = m := by rw [hbs, List.length_take]; omega
  have hex : st.extract 0 m = bytesOf bs := by rw [hst, bytesOf_extract, List.drop_zero, hbs]
  have hex2 : st.extract m n = bytesOf (xs.drop m) := by rw [hst, bytesOf_extract, List.take_of_length_le (by omega)]
  have hdx : ∀ x ∈ xs.drop m, x < 256 := fun x h => hx x (List.mem_of_mem_drop h)
  have hd8 : fourL (sumL bs) ≠ xs.drop m → decR xs = .err 8 := fun h => by unfold decR; rw [if_neg (by omega), ← hn, ← hm, ← hbs, if_pos h]
  have hd0 : fourL (sumL bs) = xs.drop m → ∀ c, ptR bs = .err c → decR xs = .err 0 := fun h c h2 => by unfold decR; rw [if_neg (by omega), ← hn, ← hm, ← hbs, if_neg (by simpa using h), h2]
  have hd1 : fourL (sumL bs) = xs.drop m → ∀ l, ptR bs = .ok l → decR xs = if (∀ j, j < l.length → okAt l j) ∧ chunkL l = xs then .ok l else .err 0 := fun h l h2 => by unfold decR; rw [if_neg (by omega), ← hn, ← hm, ← hbs, if_neg (by simpa using h), h2]
  have n1 : IntKind.i64.wrap ((n : Int) - 4) = (m : Int) := by rw [IntKind.wrap_i64]; omega
  have hm1 : m ≤ st.size := by omega
  have hm2 : (m : Int) ≤ (n : Int) := by omega
  have h5' : ¬ (n : Int) < 5 := by omega
  have Hsum := Lib.hid (fun W => sum_any bs hbx (by omega) W)
  have Hfour := Lib.hid (fun W => cfour_any (sumL bs) (sumL_lt _) W)
  have Hpt := Lib.hid (fun W (hf : Below w.heap.size w W) => points_any bs W (hS.below hf hB0) (hT.call hf (Nat.le_refl _)) hTB (Nat.le_trans hB0 hf.size) hbx (by omega))
  have Hcmp := Lib.hid (show ((st.toList == st.toList) = true) ∧ ∀ l, (chunkL l ≠ xs → ((bytesOf (chunkL l)).toList == st.toList) = false) from ⟨by simp, fun l h => by rw [beq_eq_false_iff_ne, hst]; exact fun h2 => h (bytesOf_inj (chunkL_256 l) hx h2)⟩)
  have Heq := Lib.hid (show ∀ l, chunkL l = xs → bytesOf (chunkL l) = st from fun l h => by rw [h, hst])
  have Hd8 := Lib.hid hd8; have Hd0 := Lib.hid hd0; have Hd1 := Lib.hid hd1; have HS := Lib.hid hS; have HT := Lib.hid hT
  have hne : fourL (sumL bs) ≠ xs.drop m → ((bytesOf (fourL (sumL bs))).toList == (st.extract m n).toList) = false := fun h => by rw [beq_eq_false_iff_ne, hex2]; exact fun h2 => h (bytesOf_inj (fourL_256 _) hdx h2)
  have heq : fourL (sumL bs) = xs.drop m → bytesOf (fourL (sumL bs)) = st.extract m n := fun h => by rw [h, hex2]
  rw [← hex] at Hsum Hpt
  rw [← hst]
  by_cases hsum : fourL (sumL bs) = xs.drop m
  · rw [heq hsum] at Hfour
    have Hsm := Lib.hid hsum
    generalize sumL bs = z at Hsum Hfour
    clear hst hn hm hbs hbx hbl hex hex2 hdx hd8 hd0 hd1 hS hT hx hxl hne heq hsum
    go_enter Tryz.func122, Tryz.ntmps122
    go_wp2
    go_region_held3 (fun _ => True) (first | trivial)
      (first
        | (go_at_call 79; refine (Hsum.out _).mono ?_; rintro e w1 ⟨rfl, rfl⟩)
        | (go_at_call 161; refine (Hfour.out _).mono ?_; rintro e w2 ⟨rfl, hb2⟩; have hb2 := Lib.hid hb2))
    have HB2 := Lib.hid (Below.call (Below.refl w.heap.size w).drew hb2.out (Nat.le_refl _))
    go_wp2_with fail
    refine (Hpt.out _ HB2.out).mono ?_
    rintro e w3 ⟨her, hok, hb3⟩
    have HB3 := Lib.hid (Below.call HB2.out hb3 HB2.out.size)
    have hw2 : w.heap.size ≤ w2.heap.size := HB2.out.size
    have hw3 : w2.heap.size ≤ w3.heap.size := hb3.size
    have g03 : w3.cell? ⟨4, 0, none⟩ = some (sentV (es 0)) := (HS.out.below HB3.out hB0).var 0 (by decide)
    clear hb3
    cases hpt : ptR bs with
    | err ce =>
      obtain rfl := her ce hpt
      have Hres := Lib.hid (Hd0.out Hsm.out ce hpt)
      clear her hok hpt
      go_wp2
      go_quiet (fail)
      go_wp2
      go_ret2
      exact ⟨fun c h => (by rw [Hres.out] at h; injection h with h; subst h; rfl), fun l h => (by rw [Hres.out] at h; cases h), Below.drewN HB3.out _⟩
    | ok l =>
      obtain ⟨v, rfl, hown⟩ := hok l hpt
      obtain ⟨A3, c3, rfl, _, _, _⟩ := own_form hown
      obtain ⟨hl120, hlm⟩ := ptR_ok hpt
      have Hdec := Lib.hid (Hd1.out Hsm.out l hpt)
      have Hown := Lib.hid hown; have Hlm := Lib.hid hlm
      have Hrd := Lib.hid (Rd.of_own hown)
      obtain ⟨i, hi1, hi2, hi3⟩ := first_pt l l.length
      have Hi2 := Lib.hid hi2
      clear her hok hpt hown hlm
      by_cases hil : i < l.length
      · have hnok := hi3 hil
        have Hres := Lib.hid (show decR xs = .err 0 by rw [Hdec.out, if_neg (fun h => hnok (h.1 i hil))])
        go_wp2_with fail
        refine (encode_bad A3 l.length c3 l i _ (HS.out.below HB3.out hB0) (by omega) Hrd.out (by omega) hil Hi2.out hnok).mono ?_
        rintro e w4 ⟨pb, rfl, _, _, _, _, hb4⟩
        have HB4 := Lib.hid (Below.call HB3.out hb4 HB3.out.size)
        have g04 : w4.cell? ⟨4, 0, none⟩ = some (sentV (es 0)) := (HS.out.below HB4.out hB0).var 0 (by decide)
        clear hb4 hi3 hnok hi2
        go_wp2
        go_quiet (fail)
        go_wp2
        go_ret2
        exact ⟨fun c h => (by rw [Hres.out] at h; injection h with h; subst h; rfl), fun l h => (by rw [Hres.out] at h; cases h), Below.drewN HB4.out _⟩
      · obtain rfl : i = l.length := by omega
        go_wp2_with fail
        refine (encode_ok A3 l.length c3 l _ (HS.out.below HB3.out hB0) (HT.out.call HB3.out (Nat.le_refl _)) (by omega) Hrd.out (by omega) Hi2.out Hlm.out).mono ?_
        rintro e w4 ⟨rfl, hb4⟩
        have HB4 := Lib.hid (Below.call HB3.out hb4 HB3.out.size)
        have Hown4 := Lib.hid (own_below Hown.out hb4 (Nat.le_refl _))
        have g04 : w4.cell? ⟨4, 0, none⟩ = some (sentV (es 0)) := (HS.out.below HB4.out hB0).var 0 (by decide)
        clear hb4 hi3 hi2
        by_cases hcx : chunkL l = xs
        · have Hres := Lib.hid (show decR xs = .ok l by rw [Hdec.out, if_pos ⟨Hi2.out, hcx⟩])
          rw [Heq.out l hcx]
          clear hcx
          go_wp2
          go_ret2
          refine ⟨fun c h => (by rw [Hres.out] at h; cases h), fun l' h => ?_, HB4.out⟩
          rw [Hres.out] at h
          injection h with h
          subst h
          exact ⟨_, rfl, own_base Hown4.out hw2⟩
        · have Hres := Lib.hid (show decR xs = .err 0 by rw [Hdec.out, if_neg (fun h => hcx h.2)])
          have hcn := Hcmp.out.2 l hcx
          generalize bytesOf (chunkL l) = t5 at hcn ⊢
          clear hcx
          go_wp2
          go_quiet (fail)
          go_wp2
          go_ret2
          exact ⟨fun c h => (by rw [Hres.out] at h; injection h with h; subst h; rfl), fun l h => (by rw [Hres.out] at h; cases h), Below.drewN HB4.out _⟩
  · have hn2 := hne hsum
    have Hres := Lib.hid (Hd8.out hsum)
    have Hgl := Lib.hid (show ∀ W, Below w.heap.size w W → W.cell? ⟨9, 0, none⟩ = some (sentV (es 8)) from fun W h => (HS.out.below h hB0).var 8 (by decide))
    generalize bytesOf (fourL (sumL bs)) = t4 at Hfour hn2
    generalize sumL bs = z at Hsum Hfour
    clear hst hn hm hbs hbx hbl hex hex2 hdx hd8 hd0 hd1 hS hT hx hxl hne heq hsum
    go_enter Tryz.func122, Tryz.ntmps122
    go_wp2
    go_region_held3 (fun _ => True) (first | trivial)
      (first
        | (go_at_call 79; refine (Hsum.out _).mono ?_; rintro e w1 ⟨rfl, rfl⟩)
        | (go_at_call 161; refine (Hfour.out _).mono ?_; rintro e w2 ⟨rfl, hb2⟩; have hb2 := Lib.hid hb2))
    have HB2 := Lib.hid (Below.call (Below.refl w.heap.size w).drew hb2.out (Nat.le_refl _))
    have g8 := Hgl.out _ HB2.out
    go_wp2
    go_quiet (fail)
    go_wp2
    go_ret2
    exact ⟨fun c h => (by rw [Hres.out] at h; injection h with h; subst h; rfl), fun l h => (by rw [Hres.out] at h; cases h), Below.drewN HB2.out _⟩
end Go.Proofs.YthgefobcohlegaaGreatDoor
