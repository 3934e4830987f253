/- chunk.points and chunk.Decode by contracts. -/
import Derived.Test.YtpbgonpmpjpljaaGreatDoorChunkEncQX
import Derived.Test.YtpbgonpmpjpljaaGreatDoorMkjX
import Derived.Test.YtpbgonpmpjpljaaGreatDoorMaskGetQX
import Derived.Test.YtpbgonpmpjpljaaGreatDoorMkgX
import Derived.Deep.RegionHeld3
namespace Go.Proofs.YtpbgonpmpjpljaaGreatDoor
open Go.RowKit
set_option linter.unusedVariables false

inductive PRes where
  | err (c : Nat) : PRes
  | ok (l : List (Int × Int)) : PRes
deriving DecidableEq
def zipP (ts : List Int) (vs : List Nat) : List (Int × Int) := List.zipWith (fun (t : Int) (v : Nat) => (t, (v : Int))) ts vs
/-- What points reads of some bytes. -/
def ptR (xs : List Nat) : PRes :=
  if xs.length = 0 then .err 4 else if 120 < vAt (rbits xs) 0 8 then .err 1 else
  match rdT (rbits xs) (vAt (rbits xs) 0 8) [] 8 with
  | .err c => .err c
  | .ok ts q => match rdM (rbits xs) (vAt (rbits xs) 0 8) [] w0 q with
    | .err c => .err c
    | .ok vs _ => .ok (zipP ts vs)
/-- What Decode reads of some bytes. -/
def decR (xs : List Nat) : PRes :=
  if xs.length < 5 then .err 0 else if fourL (sumL (xs.take (xs.length - 4))) ≠ xs.drop (xs.length - 4) then .err 8 else
  match ptR (xs.take (xs.length - 4)) with
  | .err _ => .err 0
  | .ok l => if (∀ j, j < l.length → okAt l j) ∧ chunkL l = xs then .ok l else .err 0
theorem rdM_lt {S : List Bool} : ∀ (n : Nat) (acc : List Nat) (w : Win) (q : Nat) (l : List Nat) (p : Nat), (w = w0 ∨ w.Ok) → (∀ x ∈ acc, x < 18446744073709551616) → rdM S n acc w q = .ok l p → ∀ x ∈ l, x < 18446744073709551616 := by
  intro n
  induction n with
  | zero => intro acc w q l p hw ha h; injection h with h1 h2; subst h1; exact ha
  | succ n ih =>
    intro acc w q l p hw ha h
    simp only [rdM] at h
    split at h
    · split at h
      · cases h
      · exact ih _ _ _ _ _ hw (fun x hx => by rw [List.mem_singleton] at hx; rw [hx]; exact vAt_lt S q 64) h
    · split at h
      · cases h
      · rename_i e
        obtain ⟨hx, hw'⟩ := chg_lt hw e
        refine ih _ _ _ _ _ hw' (fun x hx' => ?_) h
        rcases List.mem_append.1 hx' with h' | h'
        · exact ha x h'
        · rw [List.mem_singleton] at h'
          rw [h']
          refine Nat.xor_lt_two_pow (n := 64) ?_ hx
          rw [List.getD_eq_getElem?_getD]
          cases e2 : acc[acc.length - 1]? with
          | none => simp
          | some y => exact ha y (List.mem_of_getElem? e2)
theorem rdT_len {S : List Bool} : ∀ (n : Nat) (acc : List Int) (q : Nat) (l : List Int) (p : Nat), rdT S n acc q = .ok l p → l.length = acc.length + n := by
  intro n
  induction n with
  | zero => intro acc q l p h; injection h with h1 h2; subst h1; rfl
  | succ n ih =>
    intro acc q l p h
    simp only [rdT] at h
    split at h
    · cases h
    · cases h
    · split at h
      · cases h
      · split at h
        · have := ih _ _ _ _ h; rw [List.length_append, List.length_singleton] at this; omega
        · cases h
theorem zipP_get {ts : List Int} {vs : List Nat} {k : Nat} {t : Int} {v : Nat} (h1 : ts[k]? = some t) (h2 : vs[k]? = some v) : (zipP ts vs)[k]? = some (t, (v : Int)) := by
  unfold zipP; rw [List.getElem?_zipWith, h1, h2]
theorem zipP_len {ts : List Int} {vs : List Nat} {n : Nat} (h1 : ts.length = n) (h2 : vs.length = n) : (zipP ts vs).length = n := by
  unfold zipP; rw [List.length_zipWith]; omega
theorem zipP_mem {ts : List Int} {vs : List Nat} (h : ∀ x ∈ vs, x < 18446744073709551616) : ∀ p ∈ zipP ts vs, 0 ≤ p.2 ∧ p.2 < 18446744073709551616 := by
  intro p hp
  obtain ⟨j, hj, rfl⟩ := List.getElem_of_mem hp
  unfold zipP at hj ⊢
  rw [List.getElem_zipWith]
  rw [List.length_zipWith] at hj
  have := h (vs[j]'(by omega)) (List.getElem_mem _)
  show 0 ≤ ((vs[j]'(by omega) : Nat) : Int) ∧ ((vs[j]'(by omega) : Nat) : Int) < _
  omega

set_option maxRecDepth 100000 in
set_option maxHeartbeats 4000000 in
theorem points_any {es : Nat → Addr} {B : Nat} (xs : List Nat) (w : World) (hS : SV es B w) (hT : TabAt w) (hTB : 15 < B) (hB0 : B ≤ w.heap.size) (hx : ∀ x ∈ xs, x < 256) (hxl : xs.length ≤ 100000) :
    Calls Tryz.prog 110 #[.string (bytesOf xs)] w fun e w' => (∀ c, ptR xs = .err c → e = .returned (.tuple #[.slice none 0 0, sentV (es c)])) ∧
      (∀ l, ptR xs = .ok l → ∃ v, e = .returned (.tuple #[v, .nilIface]) ∧ w'.ownsRow w.heap.size 57 2 v l.length (ptsC l)) ∧ Below w.heap.size w w' := by
  obtain ⟨st, hst⟩ : ∃ st, st = bytesOf xs := ⟨_, rfl⟩
  obtain ⟨m, hm⟩ : ∃ m, m = xs.length := ⟨_, rfl⟩
  have hsz : st.size = m := by rw [hst, bytesOf_size, hm]
  have hm1 : m ≤ 100000 := by omega
  obtain ⟨S, hSS⟩ : ∃ S, S = rbits xs := ⟨_, rfl⟩
  have hSl : S.length = 8 * m := by rw [hSS, rbits_len, hm]
  have hS2 : S = (rbits xs).take (8 * m) := by rw [← hSS, List.take_of_length_le (by rw [hSl]; exact Nat.le_refl _)]
  have Ho := Lib.hid (show ∀ W, Calls Tryz.prog 134 #[.string st, .int .i64 ((8 * m : Nat) : Int)] W fun e w' => e = .returned (.tuple #[.pointer (some ⟨W.heap.size, 0, none⟩), .nilIface]) ∧ ReaderAt w' W.heap.size xs 0 (8 * m) ∧ Below W.heap.size W w' from fun W => by rw [hst]; exact open_ok xs (8 * m) W hx (by omega) (by omega) (by omega))
  have hn8 : IntKind.i64.wrap (8 * (m : Int)) = ((8 * m : Nat) : Int) := by rw [IntKind.wrap_i64]; omega
  have hp0 : m = 0 → ptR xs = .err 4 := fun h => by unfold ptR; rw [if_pos (by omega)]
  have hp1 : m ≠ 0 → 120 < vAt S 0 8 → ptR xs = .err 1 := fun h h2 => by unfold ptR; rw [if_neg (by omega), ← hSS, if_pos h2]
  have hp2 : m ≠ 0 → ¬ 120 < vAt S 0 8 → ∀ c, rdT S (vAt S 0 8) [] 8 = .err c → ptR xs = .err c := fun h h2 c h3 => by unfold ptR; rw [if_neg (by omega), ← hSS, if_neg h2, h3]
  have hp3 : m ≠ 0 → ¬ 120 < vAt S 0 8 → ∀ ts q, rdT S (vAt S 0 8) [] 8 = .ok ts q → ∀ c, rdM S (vAt S 0 8) [] w0 q = .err c → ptR xs = .err c := fun h h2 ts q h3 c h4 => by unfold ptR; rw [if_neg (by omega), ← hSS, if_neg h2, h3]; simp only [h4]
  have hp4 : m ≠ 0 → ¬ 120 < vAt S 0 8 → ∀ ts q, rdT S (vAt S 0 8) [] 8 = .ok ts q → ∀ vs q2, rdM S (vAt S 0 8) [] w0 q = .ok vs q2 → ptR xs = .ok (zipP ts vs) := fun h h2 ts q h3 vs q2 h4 => by unfold ptR; rw [if_neg (by omega), ← hSS, if_neg h2, h3]; simp only [h4]
  have Hp0 := Lib.hid hp0; have Hp1 := Lib.hid hp1; have Hp2 := Lib.hid hp2; have Hp3 := Lib.hid hp3; have Hp4 := Lib.hid hp4
  have HS := Lib.hid hS; have HT := Lib.hid hT; have HSl := Lib.hid hSl; have HS2 := Lib.hid hS2
  obtain ⟨i0, hi, hz0, hz1, hz2⟩ := info_parts infoPt
  have Hi := Lib.hid hi; have Hz0 := Lib.hid hz0; have Hz1 := Lib.hid hz1; have Hz2 := Lib.hid hz2
  rw [← hst]
  clear hst hm hp0 hp1 hp2 hp3 hp4 hS hT hSl hS2 hSS hx hxl hi hz0 hz1 hz2
  go_enter Tryz.func110, Tryz.ntmps110
  go_wp2_with fail
  refine (Ho.out _).mono ?_
  rintro e w1 ⟨rfl, hr, hb⟩
  have hg : w.heap.size ≤ w.heap.size := Nat.le_refl _
  have hB1 := Lib.hid hb; have Hr1 := Lib.hid hr
  obtain ⟨g, hgg⟩ : ∃ g, g = w.heap.size := ⟨_, rfl⟩
  rw [← hgg] at Hr1 ⊢
  have hBg : B ≤ g := by omega
  have hg1 : g < w1.heap.size := Hr1.out.1.lt
  have Hgg := Lib.hid hgg
  have HSV1 := Lib.hid (HS.out.below hB1.out hB0)
  have hw1 : w.heap.size ≤ w1.heap.size := hB1.out.size
  clear hb hr hg hgg
  by_cases hm0 : m = 0
  · have Hres := Lib.hid (Hp0.out hm0)
    go_wp2_with fail
    refine (get_none g 0 (8 * m) xs 8 _ HSV1.out (by omega) Hr1.out (by omega) (by omega)).mono ?_
    rintro e w2 ⟨rfl, hb⟩
    have hB2 := Lib.hid (Below.call hB1.out hb hw1)
    clear hb hm0
    go_wp2
    go_ret2
    exact ⟨fun c h => (by rw [Hres.out] at h; injection h with h; subst h; rfl), fun l h => (by rw [Hres.out] at h; cases h), hB2.out⟩
  · go_wp2_with fail
    refine (get_ok g 0 (8 * m) xs 8 _ Hr1.out (by omega) (by omega)).mono ?_
    rintro e w2 ⟨rfl, hr2, hf2⟩
    rw [rd_at (N := 8 * m) (by omega), ← HS2.out]
    have hn256 : vAt S 0 8 < 256 := vAt_lt S 0 8
    obtain ⟨n, hn⟩ : ∃ n, n = vAt S 0 8 := ⟨_, rfl⟩
    rw [← hn] at hn256 Hp1 Hp2 Hp3 Hp4 ⊢
    have hB2 := Lib.hid (Below.trans hB1.out (hf2.below hw1 (fun k hk hs => by have := Hgg.out; omega)))
    have hw2 : w.heap.size ≤ w2.heap.size := hB2.out.size
    have Hr2 := Lib.hid (show ReaderAt w2 g xs 8 (8 * m) from hr2)
    have HSV2 := Lib.hid (HS.out.below hB2.out hB0)
    clear hr2 hf2 hn
    by_cases h120 : 120 < n
    · have Hres := Lib.hid (Hp1.out hm0 h120)
      have h120' : (120 : Int) < n := by omega
      go_wp2_with fail
      refine (read_bad _ (n : Int) _ HSV2.out (by omega)).mono ?_
      rintro e w3 ⟨rfl, hb⟩
      have hB3 := Lib.hid (Below.call hB2.out hb hw2)
      clear hb
      go_wp2
      go_ret2
      exact ⟨fun c h => (by rw [Hres.out] at h; injection h with h; subst h; rfl), fun l h => (by rw [Hres.out] at h; cases h), hB3.out⟩
    · go_wp2_with fail
      refine (read_any g 8 (8 * m) xs n _ HSV2.out (by omega) hBg Hr2.out (by omega)).mono ?_
      rintro e w3 ⟨her, hok, hf3⟩
      rw [← HS2.out] at her hok
      have hB3 := Lib.hid (Below.trans hB2.out (hf3.below hw2 (fun k hk hs => by have := Hgg.out; omega)))
      have hw3 : w.heap.size ≤ w3.heap.size := hB3.out.size
      have HSV3 := Lib.hid (HS.out.below hB3.out hB0)
      clear hf3
      cases hrt : rdT S n [] 8 with
      | err ce =>
        obtain rfl := her ce hrt
        have Hres := Lib.hid (Hp2.out hm0 h120 ce hrt)
        clear her hok hrt
        go_wp2
        go_ret2
        exact ⟨fun c h => (by rw [Hres.out] at h; injection h with h; subst h; rfl), fun l h => (by rw [Hres.out] at h; cases h), hB3.out⟩
      | ok ts q =>
        obtain ⟨v3, rfl, hown3, hr3⟩ := hok ts q hrt
        obtain ⟨A1, c1, rfl, _, _, _⟩ := own_form hown3
        have Hr3 := Lib.hid hr3; have Hown3 := Lib.hid hown3; have Hrt := Lib.hid hrt
        clear her hok hr3 hown3 hrt
        go_wp2_with fail
        refine (mread_any g q (8 * m) xs n S _ HS2.out HSV3.out (HT.out.call hB3.out (Nat.le_refl _)) hTB (by omega) hBg Hr3.out (by omega)).mono ?_
        rintro e w4 ⟨her, hok, hf4⟩
        have hB4 := Lib.hid (Below.trans hB3.out (hf4.below hw3 (fun k hk hs => by have := Hgg.out; omega)))
        have hw4 : w.heap.size ≤ w4.heap.size := hB4.out.size
        have Hown4 := Lib.hid (hf4.own Hown3.out (fun k hk hs => by
          have h1 := (own_lt Hown3.out k hk).1
          have := Hgg.out
          subst hs
          have h2 := own_ne_blk Hown3.out Hr3.out.1 (by decide)
          exact h2 hk.symm))
        clear hf4
        cases hrm : rdM S n [] w0 q with
        | err ce =>
          obtain rfl := her ce hrm
          have Hres := Lib.hid (Hp3.out hm0 h120 ts q Hrt.out ce hrm)
          clear her hok hrm
          go_wp2
          go_ret2
          exact ⟨fun c h => (by rw [Hres.out] at h; injection h with h; subst h; rfl), fun l h => (by rw [Hres.out] at h; cases h), hB4.out⟩
        | ok vs q2 =>
          obtain ⟨v4, rfl, hown5, _⟩ := hok vs q2 hrm
          obtain ⟨A2, c2, rfl, _, _, _⟩ := own_form hown5
          have Hres := Lib.hid (Hp4.out hm0 h120 ts q Hrt.out vs q2 hrm)
          have hl1 : ts.length = n := by have := rdT_len n [] 8 ts q Hrt.out; simpa using this
          have hl2 : vs.length = n := by have := rdM_len n [] w0 q vs q2 hrm; simpa using this
          have Hrd1 := Lib.hid (Rd.of_own Hown4.out); have Hrd2 := Lib.hid (Rd.of_own hown5)
          have Hll := Lib.hid (zipP_len hl1 hl2)
          obtain ⟨l, hl⟩ : ∃ l, l = zipP ts vs := ⟨_, rfl⟩
          rw [← hl] at Hres Hll
          have Hzl := Lib.hid hl
          have hn' : (n : Int) ≤ 120 := by omega
          clear her hok hrm hown5 hl1 hl2 hl
          go_wp2
          go_loopw [9, 52] (fun o iv wr => ∃ k : Nat, k ≤ n ∧ iv = .int .i64 k ∧ wr.ownsRow w4.heap.size 57 2 o k (ptsC (l.take k)) ∧ Below w4.heap.size w4 wr) (fun _ iv _ => n - (intOf iv).toNat)
          case atStart => exact ⟨0, Nat.zero_le _, rfl, World.ownsRow_nil _ _ _ _, Below.refl _ _⟩
          case round =>
            obtain ⟨k, hk, rfl, hown, hbel⟩ := hrel
            obtain ⟨Ao, co, rfl, _, _, _⟩ := own_form hown
            have Hown := Lib.hid hown; have Hbel := Lib.hid hbel
            have hwr : w4.heap.size ≤ wr.heap.size := hbel.size
            clear hown hbel
            by_cases hkn : k < n
            · obtain ⟨b1, o1, t, hA1, had1, hy1, e1⟩ := (Hrd1.out.below Hbel.out).at1 hkn
              obtain ⟨b2, o2, v, hA2, had2, hy2, e2⟩ := (Hrd2.out.below Hbel.out).at1 hkn
              subst hA1; subst hA2
              have hlk : l[k]? = some (t, (v : Int)) := by rw [Hzl.out]; exact zipP_get hy1 hy2
              have Htk := Lib.hid (show ptsC (l.take (k + 1)) = ptsC (l.take k) ++ ptsC [(t, (v : Int))] by rw [take_snoc hlk]; simp [ptsC])
              have hk63 : k + 1 ≤ maxLen := by unfold maxLen; omega
              have hk8 : (k + 1) * 16 ≤ 140737488355328 := by omega
              have HS0 := Lib.hid (show wr.drew.cell? ⟨b1, o1 + k, none⟩ = some (.int .i64 t) ∧ wr.drew.cell? ⟨b2, o2 + k, none⟩ = some (.int .u64 (v : Int)) from ⟨e1, e2⟩)
              have hb1 : b1 < wr.heap.size := Nat.lt_of_lt_of_le had1 hwr
              have hb2 : b2 < wr.heap.size := Nat.lt_of_lt_of_le had2 hwr
              have hbal : Below wr.heap.size wr (wr.alloc (.cells #[.int .i64 t, .int .u64 (v : Int)] 57)).drew := (Below.alloc (Below.refl _ _) (Nat.le_refl _) _).drew
              have HS1 := Lib.hid (show (wr.alloc (.cells #[.int .i64 t, .int .u64 (v : Int)] 57)).drew.cell? ⟨b1, o1 + k, none⟩ = some (.int .i64 t) ∧ (wr.alloc (.cells #[.int .i64 t, .int .u64 (v : Int)] 57)).drew.cell? ⟨b2, o2 + k, none⟩ = some (.int .u64 (v : Int)) from ⟨(hbal.cell (p := ⟨b1, o1 + k, none⟩) hb1).trans e1, (hbal.cell (p := ⟨b2, o2 + k, none⟩) hb2).trans e2⟩)
              have HoA := Lib.hid (show (wr.alloc (.cells #[.int .i64 t, .int .u64 (v : Int)] 57)).drew.ownsRow w4.heap.size 57 2 (.slice Ao k co) k (ptsC (l.take k)) from own_drew (Hown.out.alloc _))
              have HrA := Lib.hid (show Rd (wr.alloc (.cells #[.int .i64 t, .int .u64 (v : Int)] 57)).drew (wr.alloc (.cells #[.int .i64 t, .int .u64 (v : Int)] 57)).drew.heap.size 2 (some ⟨wr.heap.size, 0, none⟩) 1 (ptsC [(t, (v : Int))]) from Rd.one2 wr 57 (t, (v : Int)))
              have HzA := Lib.hid (show w4.heap.size ≤ (wr.alloc (.cells #[.int .i64 t, .int .u64 (v : Int)] 57)).drew.heap.size by simp; omega)
              have HbA := Lib.hid (show Below w4.heap.size w4 (wr.alloc (.cells #[.int .i64 t, .int .u64 (v : Int)] 57)).drew from (Below.alloc Hbel.out hwr _).drew)
              have Hb1 := Lib.hid had1; have Hb2 := Lib.hid had2
              clear hbal hlk hy1 hy2
              go_wp2
              go_region_held3 (fun w' => w'.cell? ⟨b1, o1 + k, none⟩ = some (.int .i64 t) ∧ w'.cell? ⟨b2, o2 + k, none⟩ = some (.int .u64 (v : Int)))
                (first | with_reducible exact HS0.out | with_reducible exact HS1.out | with_reducible exact HS2.out)
                (first | (refine step_append_rd _ rfl (.tmp 55) (.tmp 65) _ rfl w4.heap.size 57 i0 (.agg #[.int .i64 0, .int .u64 0]) 2 16 Tryz.underlying32 Hi.out Hz0.out Hz1.out Hz2.out rfl (by decide) (.slice Ao k co) k _ rfl HoA.out _ _ 1 1 (ptsC [(t, (v : Int))]) rfl HrA.out (ptsC_one [(t, (v : Int))]) hk63 hk8 HzA.out ?_; intro v' wa hown' hgr hat; have Hv := Lib.hid hown'; have hBb := Below.grown HbA.out hgr HzA.out (fun g hg => (own_lt HoA.out g hg).1); have HS2 := Lib.hid (And.intro ((hBb.cell (p := ⟨b1, o1 + k, none⟩) Hb1.out).trans ((Below.cell Hbel.out (p := ⟨b1, o1 + k, none⟩) Hb1.out).symm.trans e1)) ((hBb.cell (p := ⟨b2, o2 + k, none⟩) Hb2.out).trans ((Below.cell Hbel.out (p := ⟨b2, o2 + k, none⟩) Hb2.out).symm.trans e2))); have HBb := Lib.hid hBb; clear hown' hgr hat hBb))
              all_goals
                go_wp2
                go_roundw
                case rel => exact ⟨k + 1, by omega, by go_num, by rw [Htk.out]; exact Hv.out, HBb.out⟩
                case measure => simp [intOf]; omega
            · obtain rfl : k = n := by omega
              have hlt : l.take k = l := List.take_of_length_le (by rw [Hll.out]; exact Nat.le_refl _)
              have Ho2 := Lib.hid (by rw [← hlt]; exact Hown.out : wr.ownsRow w4.heap.size 57 2 (.slice Ao k co) k (ptsC l))
              clear hlt
              go_wp2
              go_ret2
              refine ⟨fun c h => (by rw [Hres.out] at h; cases h), fun l' h => ?_, Below.call hB4.out Hbel.out hw4⟩
              rw [Hres.out] at h
              injection h with h
              subst h
              exact ⟨_, rfl, by rw [Hll.out]; exact own_base Ho2.out hw4⟩

theorem bytesOf_extract (xs : List Nat) (i j : Nat) : (bytesOf xs).extract i j = bytesOf ((xs.take j).drop i) := by
  unfold bytesOf; rw [B8_extract, List.map_drop, List.map_take]
theorem bytesOf_inj {a b : List Nat} (ha : ∀ x ∈ a, x < 256) (hb : ∀ x ∈ b, x < 256) (h : (bytesOf a).toList = (bytesOf b).toList) : a = b := by
  unfold bytesOf at h
  rw [B8_toList, B8_toList] at h
  have hinj : ∀ x y : Nat, x < 256 → y < 256 → UInt8.ofNat x = UInt8.ofNat y → x = y := fun x y hx hy h => by
    have h2 := congrArg UInt8.toNat h
    rw [UInt8.toNat_ofNat', UInt8.toNat_ofNat'] at h2
    omega
  induction a generalizing b with
  | nil => cases b with
    | nil => rfl
    | cons y b => simp at h
  | cons x a ih => cases b with
    | nil => simp at h
    | cons y b =>
      simp only [List.map_cons, List.cons.injEq] at h
      rw [hinj x y (ha x List.mem_cons_self) (hb y List.mem_cons_self) h.1, ih (fun z hz => ha z (List.mem_cons_of_mem _ hz)) (fun z hz => hb z (List.mem_cons_of_mem _ hz)) h.2]
theorem chunkL_256 (l : List (Int × Int)) : ∀ x ∈ chunkL l, x < 256 := by
  intro x hx
  rcases List.mem_append.1 hx with h | h
  · exact packN_256 _ x h
  · exact fourL_256 _ x h
theorem ptR_ok {xs : List Nat} {l : List (Int × Int)} (h : ptR xs = .ok l) : l.length ≤ 120 ∧ ∀ p ∈ l, 0 ≤ p.2 ∧ p.2 < 18446744073709551616 := by
  unfold ptR at h
  split at h
  · cases h
  split at h
  · cases h
  rename_i h120
  split at h
  · cases h
  rename_i ts q hrt
  split at h
  · cases h
  rename_i vs q2 hrm
  injection h with h
  subst h
  have hl1 := rdT_len _ [] 8 ts q hrt
  have hl2 := rdM_len _ [] w0 q vs q2 hrm
  simp only [List.length_nil, Nat.zero_add] at hl1 hl2
  exact ⟨by rw [zipP_len hl1 hl2]; omega, zipP_mem (rdM_lt _ [] w0 q vs q2 (.inl rfl) (by simp) hrm)⟩

set_option maxRecDepth 100000 in
set_option maxHeartbeats 4000000 in
theorem decode_any {es : Nat → Addr} {B : Nat} (xs : List Nat) (w : World) (hS : SV es B w) (hT : TabAt w) (hTB : 15 < B) (hB0 : B ≤ w.heap.size) (hx : ∀ x ∈ xs, x < 256) (hxl : xs.length ≤ 100000) :
    Calls Tryz.prog 78 #[.string (bytesOf xs)] w fun e w' => (∀ c, decR xs = .err c → e = .returned (.tuple #[.slice none 0 0, sentV (es c)])) ∧
      (∀ l, decR xs = .ok l → ∃ v, e = .returned (.tuple #[v, .nilIface]) ∧ w'.ownsRow w.heap.size 57 2 v l.length (ptsC l)) ∧ Below w.heap.size w w' := by
  obtain ⟨st, hst⟩ : ∃ st, st = bytesOf xs := ⟨_, rfl⟩
  obtain ⟨n, hn⟩ : ∃ n, n = xs.length := ⟨_, rfl⟩
  have hsz : st.size = n := by rw [hst, bytesOf_size, hn]
  have hn1 : n ≤ 100000 := by omega
  have g0 : w.cell? ⟨2, 0, none⟩ = some (sentV (es 0)) := hS.var 0 (by decide)
  by_cases h5 : n < 5
  · have Hres := Lib.hid (show decR xs = .err 0 by unfold decR; rw [if_pos (by omega)])
    have h5' : (n : Int) < 5 := by omega
    rw [← hst]
    clear hst hn hS hT hx hxl
    go_enter Tryz.func78, Tryz.ntmps78
    go_wp2
    go_quiet (fail)
    go_wp2
    go_ret2
    exact ⟨fun c h => (by rw [Hres.out] at h; injection h with h; subst h; rfl), fun l h => (by rw [Hres.out] at h; cases h), Below.drewN (Below.refl _ _) _⟩
  obtain ⟨m, hm⟩ : ∃ m, m = n - 4 := ⟨_, rfl⟩
  obtain ⟨bs, hbs⟩ : ∃ bs, bs = xs.take m := ⟨_, rfl⟩
  have hbx : ∀ x ∈ bs, x < 256 := by rw [hbs]; exact fun x h => hx x (List.mem_of_mem_take h)
  have hbl : bs.length = m := by rw [hbs, List.length_take]; omega
  have hex : st.extract 0 m = bytesOf bs := by rw [hst, bytesOf_extract, List.drop_zero, hbs]
  have hex2 : st.extract m n = bytesOf (xs.drop m) := by rw [hst, bytesOf_extract, List.take_of_length_le (by omega)]
  have hdx : ∀ x ∈ xs.drop m, x < 256 := fun x h => hx x (List.mem_of_mem_drop h)
  have hd8 : fourL (sumL bs) ≠ xs.drop m → decR xs = .err 8 := fun h => by unfold decR; rw [if_neg (by omega), ← hn, ← hm, ← hbs, if_pos h]
  have hd0 : fourL (sumL bs) = xs.drop m → ∀ c, ptR bs = .err c → decR xs = .err 0 := fun h c h2 => by unfold decR; rw [if_neg (by omega), ← hn, ← hm, ← hbs, if_neg (by simpa using h), h2]
  have hd1 : fourL (sumL bs) = xs.drop m → ∀ l, ptR bs = .ok l → decR xs = if (∀ j, j < l.length → okAt l j) ∧ chunkL l = xs then .ok l else .err 0 := fun h l h2 => by unfold decR; rw [if_neg (by omega), ← hn, ← hm, ← hbs, if_neg (by simpa using h), h2]
  have n1 : IntKind.i64.wrap ((n : Int) - 4) = (m : Int) := by rw [IntKind.wrap_i64]; omega
  have hm1 : m ≤ st.size := by omega
  have hm2 : (m : Int) ≤ (n : Int) := by omega
  have h5' : ¬ (n : Int) < 5 := by omega
  have Hsum := Lib.hid (fun W => sum_any bs hbx (by omega) W)
  have Hfour := Lib.hid (fun W => cfour_any (sumL bs) (sumL_lt _) W)
  have Hpt := Lib.hid (fun W (hf : Below w.heap.size w W) => points_any bs W (hS.below hf hB0) (hT.call hf (Nat.le_refl _)) hTB (Nat.le_trans hB0 hf.size) hbx (by omega))
  have Hcmp := Lib.hid (show ((st.toList == st.toList) = true) ∧ ∀ l, (chunkL l ≠ xs → ((bytesOf (chunkL l)).toList == st.toList) = false) from ⟨by simp, fun l h => by rw [beq_eq_false_iff_ne, hst]; exact fun h2 => h (bytesOf_inj (chunkL_256 l) hx h2)⟩)
  have Heq := Lib.hid (show ∀ l, chunkL l = xs → bytesOf (chunkL l) = st from fun l h => by rw [h, hst])
  have Hd8 := Lib.hid hd8; have Hd0 := Lib.hid hd0; have Hd1 := Lib.hid hd1; have HS := Lib.hid hS; have HT := Lib.hid hT
  have hne : fourL (sumL bs) ≠ xs.drop m → ((bytesOf (fourL (sumL bs))).toList == (st.extract m n).toList) = false := fun h => by rw [beq_eq_false_iff_ne, hex2]; exact fun h2 => h (bytesOf_inj (fourL_256 _) hdx h2)
  have heq : fourL (sumL bs) = xs.drop m → bytesOf (fourL (sumL bs)) = st.extract m n := fun h => by rw [h, hex2]
  rw [← hex] at Hsum Hpt
  rw [← hst]
  by_cases hsum : fourL (sumL bs) = xs.drop m
  · rw [heq hsum] at Hfour
    have Hsm := Lib.hid hsum
    generalize sumL bs = z at Hsum Hfour
    clear hst hn hm hbs hbx hbl hex hex2 hdx hd8 hd0 hd1 hS hT hx hxl hne heq hsum
    go_enter Tryz.func78, Tryz.ntmps78
    go_wp2
    go_region_held3 (fun _ => True) (first | trivial)
      (first
        | (go_at_call 104; refine (Hsum.out _).mono ?_; rintro e w1 ⟨rfl, rfl⟩)
        | (go_at_call 103; refine (Hfour.out _).mono ?_; rintro e w2 ⟨rfl, hb2⟩; have hb2 := Lib.hid hb2))
    have HB2 := Lib.hid (Below.call (Below.refl w.heap.size w).drew hb2.out (Nat.le_refl _))
    go_wp2_with fail
    refine (Hpt.out _ HB2.out).mono ?_
    rintro e w3 ⟨her, hok, hb3⟩
    have HB3 := Lib.hid (Below.call HB2.out hb3 HB2.out.size)
    have hw2 : w.heap.size ≤ w2.heap.size := HB2.out.size
    have hw3 : w2.heap.size ≤ w3.heap.size := hb3.size
    have g03 : w3.cell? ⟨2, 0, none⟩ = some (sentV (es 0)) := (HS.out.below HB3.out hB0).var 0 (by decide)
    clear hb3
    cases hpt : ptR bs with
    | err ce =>
      obtain rfl := her ce hpt
      have Hres := Lib.hid (Hd0.out Hsm.out ce hpt)
      clear her hok hpt
      go_wp2
      go_quiet (fail)
      go_wp2
      go_ret2
      exact ⟨fun c h => (by rw [Hres.out] at h; injection h with h; subst h; rfl), fun l h => (by rw [Hres.out] at h; cases h), Below.drewN HB3.out _⟩
    | ok l =>
      obtain ⟨v, rfl, hown⟩ := hok l hpt
      obtain ⟨A3, c3, rfl, _, _, _⟩ := own_form hown
      obtain ⟨hl120, hlm⟩ := ptR_ok hpt
      have Hdec := Lib.hid (Hd1.out Hsm.out l hpt)
      have Hown := Lib.hid hown; have Hlm := Lib.hid hlm
      have Hrd := Lib.hid (Rd.of_own hown)
      obtain ⟨i, hi1, hi2, hi3⟩ := first_pt l l.length
      have Hi2 := Lib.hid hi2
      clear her hok hpt hown hlm
      by_cases hil : i < l.length
      · have hnok := hi3 hil
        have Hres := Lib.hid (show decR xs = .err 0 by rw [Hdec.out, if_neg (fun h => hnok (h.1 i hil))])
        go_wp2_with fail
        refine (encode_bad A3 l.length c3 l i _ (HS.out.below HB3.out hB0) (by omega) Hrd.out (by omega) hil Hi2.out hnok).mono ?_
        rintro e w4 ⟨pb, rfl, _, _, _, _, hb4⟩
        have HB4 := Lib.hid (Below.call HB3.out hb4 HB3.out.size)
        have g04 : w4.cell? ⟨2, 0, none⟩ = some (sentV (es 0)) := (HS.out.below HB4.out hB0).var 0 (by decide)
        clear hb4 hi3 hnok hi2
        go_wp2
        go_quiet (fail)
        go_wp2
        go_ret2
        exact ⟨fun c h => (by rw [Hres.out] at h; injection h with h; subst h; rfl), fun l h => (by rw [Hres.out] at h; cases h), Below.drewN HB4.out _⟩
      · obtain rfl : i = l.length := by omega
        go_wp2_with fail
        refine (encode_ok A3 l.length c3 l _ (HS.out.below HB3.out hB0) (HT.out.call HB3.out (Nat.le_refl _)) (by omega) Hrd.out (by omega) Hi2.out Hlm.out).mono ?_
        rintro e w4 ⟨rfl, hb4⟩
        have HB4 := Lib.hid (Below.call HB3.out hb4 HB3.out.size)
        have Hown4 := Lib.hid (own_below Hown.out hb4 (Nat.le_refl _))
        have g04 : w4.cell? ⟨2, 0, none⟩ = some (sentV (es 0)) := (HS.out.below HB4.out hB0).var 0 (by decide)
        clear hb4 hi3 hi2
        by_cases hcx : chunkL l = xs
        · have Hres := Lib.hid (show decR xs = .ok l by rw [Hdec.out, if_pos ⟨Hi2.out, hcx⟩])
          rw [Heq.out l hcx]
          clear hcx
          go_wp2
          go_ret2
          refine ⟨fun c h => (by rw [Hres.out] at h; cases h), fun l' h => ?_, HB4.out⟩
          rw [Hres.out] at h
          injection h with h
          subst h
          exact ⟨_, rfl, own_base Hown4.out hw2⟩
        · have Hres := Lib.hid (show decR xs = .err 0 by rw [Hdec.out, if_neg (fun h => hcx h.2)])
          have hcn := Hcmp.out.2 l hcx
          generalize bytesOf (chunkL l) = t5 at hcn ⊢
          clear hcx
          go_wp2
          go_quiet (fail)
          go_wp2
          go_ret2
          exact ⟨fun c h => (by rw [Hres.out] at h; injection h with h; subst h; rfl), fun l h => (by rw [Hres.out] at h; cases h), Below.drewN HB4.out _⟩
  · have hn2 := hne hsum
    have Hres := Lib.hid (Hd8.out hsum)
    have Hgl := Lib.hid (show ∀ W, Below w.heap.size w W → W.cell? ⟨8, 0, none⟩ = some (sentV (es 8)) from fun W h => (HS.out.below h hB0).var 8 (by decide))
    generalize bytesOf (fourL (sumL bs)) = t4 at Hfour hn2
    generalize sumL bs = z at Hsum Hfour
    clear hst hn hm hbs hbx hbl hex hex2 hdx hd8 hd0 hd1 hS hT hx hxl hne heq hsum
    go_enter Tryz.func78, Tryz.ntmps78
    go_wp2
    go_region_held3 (fun _ => True) (first | trivial)
      (first
        | (go_at_call 104; refine (Hsum.out _).mono ?_; rintro e w1 ⟨rfl, rfl⟩)
        | (go_at_call 103; refine (Hfour.out _).mono ?_; rintro e w2 ⟨rfl, hb2⟩; have hb2 := Lib.hid hb2))
    have HB2 := Lib.hid (Below.call (Below.refl w.heap.size w).drew hb2.out (Nat.le_refl _))
    have g8 := Hgl.out _ HB2.out
    go_wp2
    go_quiet (fail)
    go_wp2
    go_ret2
    exact ⟨fun c h => (by rw [Hres.out] at h; injection h with h; subst h; rfl), fun l h => (by rw [Hres.out] at h; cases h), Below.drewN HB2.out _⟩
end Go.Proofs.YtpbgonpmpjpljaaGreatDoor

namespace Go.Proofs.YtpbgonpmpjpljaaGreatDoor
open Go.RowKit
set_option linter.unusedVariables false

/-- Does the series stand behind the one before it (false), or not? -/
def dupB (ser : List Bs) (i : Nat) : Bool := decide (0 < i) && leS (ser.getD i []) (ser.getD (i - 1) [])
def oneV (f : Nat × Int) (dup : Bool) (d : PRes) (fr en : Int) : PRes :=
  if f.1 ≠ 0 then .err (f.1 - 1) else if dup = true then .err 2 else
  match d with
  | .err c => .err c
  | .ok l => if l.length = 0 then .err 4 else if allIn fr en l = true then .ok l else .err 1
/-- What (Block).one answers. -/
def oneR (fr en : Int) (ser : List Bs) (ch : List (List Nat)) (i : Nat) : PRes := oneV (rdF (ser.getD i [])) (dupB ser i) (decR (ch.getD i [])) fr en
theorem decR_le {xs : List Nat} {l : List (Int × Int)} (h : decR xs = .ok l) : l.length ≤ 120 := by
  unfold decR at h
  split at h
  · cases h
  · split at h
    · cases h
    · split at h
      · cases h
      · rename_i l' hp
        split at h
        · injection h with h
          subst h
          exact (ptR_ok hp).1
        · cases h
theorem bend_any (fr sp en : Int) (A A' : Option Addr) (n c n' c' : Nat) (hE : en = fr + sp) (h1 : -9223372036854775808 ≤ fr + sp) (h2 : fr + sp < 9223372036854775808) (w : World) :
    Calls Tryz.prog 36 #[.agg #[.int .i64 fr, .int .i64 sp, .slice A n c, .slice A' n' c']] w fun e w' => e = .returned (.int .i64 en) ∧ Below w.heap.size w w' := by
  have Hb := Lib.hid (show Below w.heap.size w (w.alloc (.cells #[.int .i64 fr, .int .i64 sp, .slice A n c, .slice A' n' c'] 37)) from Below.alloc (Below.refl _ _) (Nat.le_refl _) _)
  have HE := Lib.hid hE
  clear hE
  go_enter Tryz.func36, Tryz.ntmps36
  go_wp2
  go_ret
  exact ⟨by rw [HE.out]; rfl, Hb.out⟩
set_option maxRecDepth 100000 in
set_option maxHeartbeats 4000000 in
theorem one_any {es : Nat → Addr} {B : Nat} (fr sp en : Int) (A A' : Option Addr) (n c c' : Nat) (ser : List Bs) (ch : List (List Nat)) (i : Nat) (w : World) (hS : SBk es B w) (hT : TabAt w) (hTB : 15 < B) (hB0 : B ≤ w.heap.size)
    (hA : Rd w w.heap.size 1 A n (ser.map fun s => .string (B8 s))) (hC : Rd w w.heap.size 1 A' n (ch.map fun x => .string (bytesOf x))) (hn : n ≤ 60) (hi : i < n)
    (hsl : ∀ s ∈ ser, s.length ≤ 100000) (hcl : ∀ x ∈ ch, x.length ≤ 100000 ∧ ∀ b ∈ x, b < 256) (hE : en = fr + sp) (hE1 : -9223372036854775808 ≤ fr + sp) (hE2 : fr + sp < 9223372036854775808) :
    Calls Tryz.prog 51 #[.agg #[.int .i64 fr, .int .i64 sp, .slice A n c, .slice A' n c'], .int .i64 (i : Int)] w fun e w' =>
      (∀ k, oneR fr en ser ch i = .err k → e = .returned (.tuple #[.slice none 0 0, sentV (es k)])) ∧
      (∀ l, oneR fr en ser ch i = .ok l → ∃ v, e = .returned (.tuple #[v, .nilIface]) ∧ w'.ownsRow w.heap.size 57 2 v l.length (ptsC l)) ∧ Below w.heap.size w w' := by
  obtain ⟨b0, o0, s, rfl, had0, hs, x0⟩ := hA.at1 hi
  obtain ⟨b1, o1, xs, rfl, had1, hx, y0⟩ := hC.at1 hi
  have hsl1 := hsl s (List.mem_of_getElem? hs)
  obtain ⟨hxl, hx256⟩ := hcl xs (List.mem_of_getElem? hx)
  clear hcl hsl
  -- the series before it
  obtain ⟨j, s', hj1, hj2, hj3, xj, hdup⟩ : ∃ (j : Nat) (s' : Bs), (0 < i → i ≤ j + 1) ∧ (0 < i → j + 1 ≤ i) ∧ j < n ∧ w.cell? ⟨b0, o0 + j, none⟩ = some (.string (B8 s')) ∧ dupB ser i = (decide (0 < i) && leS s s') := by
    have hj : i - 1 < n := by omega
    obtain ⟨b2, o2, s', e2, _, hs', x2⟩ := hA.at1 hj
    injection e2 with e2
    injection e2 with e2 e3
    subst e2; subst e3
    refine ⟨i - 1, s', fun h => by omega, fun h => by omega, hj, x2, ?_⟩
    unfold dupB
    rw [List.getD_eq_getElem?_getD, List.getD_eq_getElem?_getD, hs, hs']
    rfl
  have hone : oneR fr en ser ch i = oneV (rdF s) (decide (0 < i) && leS s s') (decR xs) fr en := by
    unfold oneR
    rw [hdup, List.getD_eq_getElem?_getD, hs, List.getD_eq_getElem?_getD, hx]
    rfl
  rw [hone]
  clear hone hdup hs hx hA hC
  have hb1 : Below w.heap.size w (w.alloc (.cells #[.int .i64 fr, .int .i64 sp, .slice (some ⟨b0, o0, none⟩) n c, .slice (some ⟨b1, o1, none⟩) n c'] 37)) := Below.alloc (Below.refl _ _) (Nat.le_refl _) _
  have hk1 := Blk.new w 37 #[.int .i64 fr, .int .i64 sp, .slice (some ⟨b0, o0, none⟩) n c, .slice (some ⟨b1, o1, none⟩) n c']
  have Hl := Lib.hid (fun W (hb : Below w.heap.size w W) => lread_u s hsl1 W (hS.below hb hB0).vl (Nat.le_trans hB0 hb.size))
  have Hd := Lib.hid (fun W (hb : Below w.heap.size w W) => decode_any xs W (hS.below hb hB0).v (hT.call hb (Nat.le_refl _)) hTB (Nat.le_trans hB0 hb.size) hx256 hxl)
  have Hbare := Lib.hid (fun C v c W (hb : Below w.heap.size w W) (hv : EV es C W v c) (hc : c.1 ≠ 0) => cbare_any v c W hv hc (hS.below hb hB0) (Nat.le_trans hB0 hb.size))
  have Hx := Lib.hid (fun W (hb : Below w.heap.size w W) => show W.cell? ⟨b0, o0 + i, none⟩ = some (.string (B8 s)) ∧ W.cell? ⟨b0, o0 + j, none⟩ = some (.string (B8 s')) ∧ W.cell? ⟨b1, o1 + i, none⟩ = some (.string (bytesOf xs)) from
    ⟨(hb.cell (p := ⟨b0, o0 + i, none⟩) had0).trans x0, (hb.cell (p := ⟨b0, o0 + j, none⟩) had0).trans xj, (hb.cell (p := ⟨b1, o1 + i, none⟩) had1).trans y0⟩)
  have Hg := Lib.hid (fun W (hb : Below w.heap.size w W) => show W.cell? ⟨1, 0, none⟩ = some (sentV (es 1)) ∧ W.cell? ⟨0, 0, none⟩ = some (sentV (es 2)) ∧ W.cell? ⟨4, 0, none⟩ = some (sentV (es 4)) from
    ⟨(hS.below hb hB0).var 1 (by decide), (hS.below hb hB0).var 2 (by decide), (hS.below hb hB0).var 4 (by decide)⟩)
  have Hend := Lib.hid (fun W => bend_any fr sp en (some ⟨b0, o0, none⟩) (some ⟨b1, o1, none⟩) n c n c' hE hE1 hE2 W)
  have HB1 := Lib.hid hb1; have HK1 := Lib.hid hk1
  have hin : (i : Int) < n := by omega
  clear x0 xj y0 hsl1 hx256 hxl hS hT hTB hb1 hk1 hE hE1 hE2 hB0
  obtain ⟨x0, xj, y0⟩ := Hx.out _ HB1.out
  have q2 := HK1.out.cell 2
  have hcmp : (Op.bytesLess (B8 s).toList (B8 s').toList || (B8 s).toList == (B8 s').toList) = leS s s' := by rw [B8_toList, B8_toList]; rfl
  have Hcmp := Lib.hid hcmp
  clear hcmp
  obtain ⟨fc, hfc⟩ : ∃ fc, rdF s = fc := ⟨_, rfl⟩
  rw [hfc] at Hl ⊢
  clear hfc
  go_enter Tryz.func51, Tryz.ntmps51
  go_wp2_with fail
  refine (Hl.out _ HB1.out).mono ?_
  rintro e w2 ⟨v, u, l, rfl, hev, hown, _, _, hb2⟩
  obtain ⟨Au, cu, rfl, _, _, _⟩ := own_form hown
  have HB2 := Lib.hid (Below.call HB1.out hb2 HB1.out.size)
  have HK2 := Lib.hid (HK1.out.below hb2 HK1.out.lt)
  obtain ⟨x0, xj, y0⟩ := Hx.out _ HB2.out
  obtain ⟨e1, e2, e4⟩ := Hg.out _ HB2.out
  have q0 := HK2.out.cell 0
  have q1 := HK2.out.cell 1
  have q2 := HK2.out.cell 2
  have q3 := HK2.out.cell 3
  have Hev := Lib.hid hev
  clear hown hb2
  by_cases hc0 : fc.1 = 0
  case neg =>
    obtain ⟨t, p, rfl⟩ := hev.pos hc0
    have Hbb := Lib.hid (Hbare.out _ _ _ _ HB2.out Hev.out hc0)
    have Hone := Lib.hid (show oneV fc (decide (0 < i) && leS s s') (decR xs) fr en = .err (fc.1 - 1) from if_pos hc0)
    clear hev hc0
    go_wp2_with fail
    refine Hbb.out.mono ?_
    rintro e w3 ⟨rfl, hb3⟩
    have HB3 := Lib.hid (Below.call HB2.out hb3 HB2.out.size)
    clear hb3
    go_wp2
    go_ret2
    exact ⟨fun k h => (by rw [Hone.out] at h; injection h with h; subst h; rfl), fun l h => (by rw [Hone.out] at h; cases h), HB3.out⟩
  obtain rfl := hev.zero hc0
  clear hev
  by_cases hdu : (decide (0 < i) && leS s s') = true
  · have Hone := Lib.hid (show oneV fc (decide (0 < i) && leS s s') (decR xs) fr en = .err 2 by unfold oneV; rw [if_neg (by simpa using hc0), if_pos hdu])
    have hi0 : 0 < i := by rw [Bool.and_eq_true, decide_eq_true_eq] at hdu; exact hdu.1
    have hle := Hcmp.out
    rw [show leS s s' = true by rw [Bool.and_eq_true] at hdu; exact hdu.2] at hle
    have hi0' : (0 : Int) < i := by omega
    have hd0 : decide ((0 : Int) < i) = true := decide_eq_true hi0'
    have hw : IntKind.i64.wrap ((i : Int) - 1) = (j : Int) := by rw [IntKind.wrap_i64]; have := hj1 hi0; have := hj2 hi0; omega
    have hjn : (j : Int) < n := by omega
    clear hdu hj1 hj2 hc0
    go_wp2
    go_quiet (fail)
    go_wp2
    go_quiet (fail)
    go_wp2
    go_ret2
    exact ⟨fun k h => (by rw [Hone.out] at h; injection h with h; subst h; rfl), fun l h => (by rw [Hone.out] at h; cases h), by first | exact HB2.out | exact Below.drewN HB2.out _ | exact Below.drewN (Below.drewN HB2.out _) _⟩
  have Hdu := Lib.hid (show (decide (0 < i) && leS s s') = false by simpa using hdu)
  have hov : oneV fc (decide (0 < i) && leS s s') (decR xs) fr en = match decR xs with
      | .err c => .err c
      | .ok l => if l.length = 0 then .err 4 else if allIn fr en l = true then .ok l else .err 1 := by
    unfold oneV; rw [if_neg (by simpa using hc0), if_neg hdu]
  clear hdu hc0
  have Hov := Lib.hid hov
  clear hov
  have hw : 0 < i → IntKind.i64.wrap ((i : Int) - 1) = (j : Int) := fun h => by rw [IntKind.wrap_i64]; have := hj1 h; have := hj2 h; omega
  have hjn : (j : Int) < n := by omega
  clear hj1 hj2
  rcases Nat.eq_zero_or_pos i with h0 | h0
  case' inl =>
    have hd0 : decide ((0 : Int) < i) = false := decide_eq_false (by omega)
    have hd1 : decide (0 < i) = false := decide_eq_false (by omega)
    clear hw h0
    go_wp2
    go_quiet (fail)
  case' inr =>
    have hd0 : decide ((0 : Int) < i) = true := decide_eq_true (by omega)
    have hd1 : decide (0 < i) = true := decide_eq_true h0
    have hle := Hcmp.out
    rw [show leS s s' = false by have := Hdu.out; rw [decide_eq_true h0, Bool.true_and] at this; exact this] at hle
    replace hw := hw h0
    clear h0
    go_wp2
    go_quiet (fail)
    clear hle hw
  all_goals
    have HB3 := Lib.hid (show Below w.heap.size w (w2.drewN nq) from Below.drewN HB2.out nq)
    have HK3 := Lib.hid (HK2.out.drewN nq)
    clear x0 xj y0 e1 e2 e4 q0 q1 q2 q3 hd0 hd1
    generalize w2.drewN nq = w3 at HB3 HK3 ⊢
    obtain ⟨x0, xj, y0⟩ := Hx.out _ HB3.out
    have q3 := HK3.out.cell 3
    rcases hdx : decR xs with k | ps
    · have Hone := Lib.hid (show oneV fc (decide (0 < i) && leS s s') (decR xs) fr en = .err k by rw [Hov.out, hdx])
      have Hdx := Lib.hid hdx
      clear hdx
      go_wp2_with fail
      refine (Hd.out _ HB3.out).mono ?_
      rintro e w4 ⟨g1, _, hb4⟩
      obtain rfl := g1 k Hdx.out
      have HB4 := Lib.hid (Below.call HB3.out hb4 HB3.out.size)
      clear hb4 g1
      go_wp2
      go_ret2
      exact ⟨fun k h => (by rw [Hone.out] at h; injection h with h; subst h; rfl), fun l h => (by rw [Hone.out] at h; cases h), HB4.out⟩
    · have Hone := Lib.hid (show oneV fc (decide (0 < i) && leS s s') (decR xs) fr en = if ps.length = 0 then .err 4 else if allIn fr en ps = true then .ok ps else .err 1 by rw [Hov.out, hdx])
      have Hdx := Lib.hid hdx
      have hm := decR_le hdx
      clear hdx
      go_wp2_with fail
      refine (Hd.out _ HB3.out).mono ?_
      rintro e w4 ⟨_, g1, hb4⟩
      obtain ⟨v, rfl, hown⟩ := g1 ps Hdx.out
      obtain ⟨Ap, cp, rfl, hp1, hp2, hrp⟩ := own_form hown
      have HB4 := Lib.hid (Below.call HB3.out hb4 HB3.out.size)
      have HK4 := Lib.hid (HK3.out.below hb4 HK3.out.lt)
      have Hown := Lib.hid (own_base hown HB3.out.size)
      have Hw := Lib.hid (fun W (hb : Below w4.drew.heap.size w4.drew W) => within_any Ap ps.length cp ps fr en W ((Rd.below (w := w4.drew) hrp.drew hb).more hb.size) (by omega))
      have HBd := Lib.hid (show Below w.heap.size w w4.drew from HB4.out.drew)
      have HKd := Lib.hid (HK4.out.drew)
      have HOd := Lib.hid (own_drew Hown.out)
      obtain ⟨m, hm0⟩ : ∃ m, m = ps.length := ⟨_, rfl⟩
      obtain ⟨_, _, e4⟩ := Hg.out _ HB4.out
      clear hb4 g1 hown hrp
      by_cases hmz : m = 0
      · have hmb : ((m : Int) == 0) = true := by rw [beq_iff_eq]; omega
        have Hno := Lib.hid (show oneV fc (decide (0 < i) && leS s s') (decR xs) fr en = .err 4 by rw [Hone.out, if_pos (hm0.symm.trans hmz)])
        rw [← hm0]
        clear hmz hm0
        go_wp2
        go_quiet (fail)
        go_wp2
        go_ret2
        exact ⟨fun k h => (by rw [Hno.out] at h; injection h with h; subst h; rfl), fun l h => (by rw [Hno.out] at h; cases h), by first | exact HB4.out | exact Below.drewN HB4.out _ | exact Below.drewN (Below.drewN HB4.out _) _⟩
      · have hmb : ((m : Int) == 0) = false := by rw [beq_eq_false_iff_ne]; omega
        have Hno := Lib.hid (show oneV fc (decide (0 < i) && leS s s') (decR xs) fr en = if allIn fr en ps = true then .ok ps else .err 1 by rw [Hone.out, if_neg (by rw [← hm0]; exact hmz)])
        have Hm0 := Lib.hid hm0
        rw [← hm0] at Hw ⊢
        clear hmz hm0
        obtain ⟨ai, hai⟩ : ∃ ai, allIn fr en ps = ai := ⟨_, rfl⟩
        rw [hai] at Hw
        have Hai := Lib.hid hai
        clear hai
        have Hkc := Lib.hid (fun W (h : Blk W w.heap.size 37 #[.int .i64 fr, .int .i64 sp, .slice (some ⟨b0, o0, none⟩) n c, .slice (some ⟨b1, o1, none⟩) n c']) => show W.cell? ⟨w.heap.size, 0, none⟩ = some (.int .i64 fr) ∧ W.cell? ⟨w.heap.size, 1, none⟩ = some (.int .i64 sp) ∧ W.cell? ⟨w.heap.size, 2, none⟩ = some (.slice (some ⟨b0, o0, none⟩) n c) ∧ W.cell? ⟨w.heap.size, 3, none⟩ = some (.slice (some ⟨b1, o1, none⟩) n c') from ⟨h.cell 0, h.cell 1, h.cell 2, h.cell 3⟩)
        go_wp2
        go_region_held3 (fun w' => w'.cell? ⟨w.heap.size, 0, none⟩ = some (.int .i64 fr) ∧ w'.cell? ⟨w.heap.size, 1, none⟩ = some (.int .i64 sp) ∧ w'.cell? ⟨w.heap.size, 2, none⟩ = some (.slice (some ⟨b0, o0, none⟩) n c) ∧ w'.cell? ⟨w.heap.size, 3, none⟩ = some (.slice (some ⟨b1, o1, none⟩) n c'))
          (first | with_reducible exact Hkc.out _ HKd.out | with_reducible exact Hkc.out _ HK5.out | with_reducible exact Hkc.out _ HK6.out)
          (first | (go_at_call 36; refine (Hend.out _).mono ?_; rintro e w5 ⟨rfl, hb⟩; have HB5 := Lib.hid hb; have HK5 := Lib.hid (HKd.out.below hb HKd.out.lt); clear hb) | (go_at_call 67; refine (Hw.out _ HB5.out).mono ?_; rintro e w6 ⟨rfl, hb⟩; have HB6 := Lib.hid (Below.call HB5.out hb HB5.out.size); have HK6 := Lib.hid (HK5.out.below hb HK5.out.lt); clear hb))
        all_goals
          have HBe := Lib.hid (Below.call HBd.out HB6.out HBd.out.size)
          have HOe := Lib.hid (own_below HOd.out HB6.out (Nat.le_refl _))
          obtain ⟨e1, _, _⟩ := Hg.out _ HBe.out
          cases ai
          · have Hre := Lib.hid (show oneV fc (decide (0 < i) && leS s s') (decR xs) fr en = .err 1 by rw [Hno.out, Hai.out]; rfl)
            go_wp2
            go_quiet (fail)
            go_wp2
            go_ret2
            exact ⟨fun k h => (by rw [Hre.out] at h; injection h with h; subst h; rfl), fun l h => (by rw [Hre.out] at h; cases h), by first | exact HBe.out | exact Below.drewN HBe.out _ | exact Below.drewN (Below.drewN HBe.out _) _⟩
          · have Hre := Lib.hid (show oneV fc (decide (0 < i) && leS s s') (decR xs) fr en = .ok ps by rw [Hno.out, Hai.out]; rfl)
            go_wp2
            go_ret2
            exact ⟨fun k h => (by rw [Hre.out] at h; cases h), fun l h => (by rw [Hre.out] at h; injection h with h; subst h; exact ⟨_, by rw [Hm0.out]; rfl, by first | exact HOe.out | exact own_drewN HOe.out _⟩), by first | exact HBe.out | exact Below.drewN HBe.out _ | exact Below.drewN (Below.drewN HBe.out _) _⟩
end Go.Proofs.YtpbgonpmpjpljaaGreatDoor
