/- The reference's Unchunk by its contract: it answers as chunk.Decode does. -/
import Derived.Test.YtpbgonpmpjpljaaGreatDoorMkyX
import Derived.Test.YtpbgonpmpjpljaaGreatDoorMknX
import Derived.Test.YtpbgonpmpjpljaaGreatDoorMkeX
import Derived.Test.YtpbgonpmpjpljaaGreatDoorMkaaX
import Derived.Test.YtpbgonpmpjpljaaGreatDoorReadMaskQX
namespace Go.Proofs.YtpbgonpmpjpljaaGreatDoor
open Go.RowKit
set_option linter.unusedVariables false

theorem rdT_le {S : List Bool} : ∀ (n : Nat) (acc : List Int) (q : Nat) (l : List Int) (p : Nat), q ≤ S.length → rdT S n acc q = .ok l p → q ≤ p ∧ p ≤ S.length := by
  intro n
  induction n with
  | zero => intro acc q l p hq h; injection h with h1 h2; subst h2; exact ⟨Nat.le_refl _, hq⟩
  | succ n ih =>
    intro acc q l p hq h
    simp only [rdT] at h
    split at h
    · cases h
    · cases h
    · rename_i k m hg
      have h1 := getW_le hg
      split at h
      · cases h
      · split at h
        · have := ih _ _ _ _ h1 h; omega
        · cases h
theorem seal_inj {a b : List Nat} (h : sealL a = sealL b) : a = b := by rw [← seal_take a, ← seal_take b, h]
theorem ptR_cases (bs : List Nat) (h0 : bs.length ≠ 0) :
    (120 < vAt (rbits bs) 0 8 → ptR bs = .err 1) ∧ (¬ 120 < vAt (rbits bs) 0 8 → (∀ c, rdT (rbits bs) (vAt (rbits bs) 0 8) [] 8 = .err c → ptR bs = .err c) ∧
      (∀ ts q, rdT (rbits bs) (vAt (rbits bs) 0 8) [] 8 = .ok ts q → (∀ c, rdM (rbits bs) (vAt (rbits bs) 0 8) [] w0 q = .err c → ptR bs = .err c) ∧ (∀ vs q2, rdM (rbits bs) (vAt (rbits bs) 0 8) [] w0 q = .ok vs q2 → ptR bs = .ok (zipP ts vs)))) := by
  refine ⟨fun h => by unfold ptR; rw [if_neg h0, if_pos h], fun h => ⟨fun c h1 => by unfold ptR; rw [if_neg h0, if_neg h, h1], fun ts q h1 => ⟨fun c h2 => by unfold ptR; rw [if_neg h0, if_neg h, h1]; simp only [h2], fun vs q2 h2 => by unfold ptR; rw [if_neg h0, if_neg h, h1]; simp only [h2]⟩⟩⟩

set_option maxRecDepth 100000 in
set_option maxHeartbeats 8000000 in
theorem unchunk_any (xs : List Nat) (w : World) (hx : ∀ x ∈ xs, x < 256) (hxl : xs.length ≤ 100000) :
    Calls Tryz.prog 24 #[.string (bytesOf xs)] w fun e w' => (∀ c, decR xs = .err c → e = .returned (.tuple #[.slice none 0 0, .int .i64 ((c : Int) + 1)])) ∧
      (∀ l, decR xs = .ok l → ∃ v, e = .returned (.tuple #[v, .int .i64 0]) ∧ w'.ownsRow w.heap.size 57 2 v l.length (ptsC l)) ∧ Below w.heap.size w w' := by
  obtain ⟨st, hst⟩ : ∃ st, st = bytesOf xs := ⟨_, rfl⟩
  obtain ⟨n0, hn0⟩ : ∃ n0, n0 = xs.length := ⟨_, rfl⟩
  have hsz : st.size = n0 := by rw [hst, bytesOf_size, hn0]
  have hn1 : n0 ≤ 100000 := by omega
  by_cases h5 : n0 < 5
  · have Hres := Lib.hid (show decR xs = .err 0 by unfold decR; rw [if_pos (by omega)])
    have h5' : (n0 : Int) < 5 := by omega
    rw [← hst]
    clear hst hn0 hx hxl
    go_enter Tryz.func24, Tryz.ntmps24
    go_wp2
    go_ret2
    exact ⟨fun c h => (by rw [Hres.out] at h; injection h with h; subst h; rfl), fun l h => (by rw [Hres.out] at h; cases h), Below.refl _ _⟩
  obtain ⟨m, hm⟩ : ∃ m, m = n0 - 4 := ⟨_, rfl⟩
  obtain ⟨bs, hbs⟩ : ∃ bs, bs = xs.take m := ⟨_, rfl⟩
  have hbx : ∀ x ∈ bs, x < 256 := by rw [hbs]; exact fun x h => hx x (List.mem_of_mem_take h)
  have hbl : bs.length = m := by rw [hbs, List.length_take]; omega
  have hex : st.extract 0 m = bytesOf bs := by rw [hst, bytesOf_extract, List.drop_zero, hbs]
  have hd8 : fourL (sumL bs) ≠ xs.drop m → decR xs = .err 8 := fun h => by unfold decR; rw [if_neg (by omega), ← hn0, ← hm, ← hbs, if_pos h]
  have hd0 : fourL (sumL bs) = xs.drop m → ∀ c, ptR bs = .err c → decR xs = .err 0 := fun h c h2 => by unfold decR; rw [if_neg (by omega), ← hn0, ← hm, ← hbs, if_neg (by simpa using h), h2]
  have hd1 : fourL (sumL bs) = xs.drop m → ∀ l, ptR bs = .ok l → decR xs = if (∀ j, j < l.length → okAt l j) ∧ chunkL l = xs then .ok l else .err 0 := fun h l h2 => by unfold decR; rw [if_neg (by omega), ← hn0, ← hm, ← hbs, if_neg (by simpa using h), h2]
  have hsl : fourL (sumL bs) = xs.drop m ↔ sealL bs = xs := by
    have e : xs = bs ++ xs.drop m := by rw [hbs, List.take_append_drop]
    unfold sealL
    conv => rhs; rw [e]
    exact ⟨fun h => by rw [h, hbs, List.take_append_drop], fun h => by
      exact List.append_cancel_left h⟩
  have n1 : IntKind.i64.wrap ((n0 : Int) - 4) = (m : Int) := by rw [IntKind.wrap_i64]; omega
  have hm1 : m ≤ st.size := by omega
  have hm2 : (m : Int) ≤ (n0 : Int) := by omega
  have h5' : ¬ (n0 : Int) < 5 := by omega
  have Hseal := Lib.hid (fun W => seal_any bs hbx (by omega) W)
  have hne : sealL bs ≠ xs → ((bytesOf (sealL bs)).toList == st.toList) = false := fun h => by
    rw [beq_eq_false_iff_ne, hst]
    refine fun h2 => h (bytesOf_inj (fun x hxx => ?_) hx h2)
    rcases List.mem_append.1 hxx with h3 | h3
    · exact hbx x h3
    · exact fourL_256 _ x h3
  have heq : sealL bs = xs → bytesOf (sealL bs) = st := fun h => by rw [h, hst]
  rw [← hst]
  rw [← hex] at Hseal
  by_cases hsum : sealL bs = xs
  · rw [heq hsum] at Hseal
    have Hd0 := Lib.hid (hd0 (hsl.2 hsum)); have Hd1 := Lib.hid (hd1 (hsl.2 hsum))
    have Hun := Lib.hid (fun W => unpack_any bs hbx (by omega) W)
    obtain ⟨S, hS⟩ : ∃ S, S = rbits bs := ⟨_, rfl⟩
    have hSl : S.length = 8 * m := by rw [hS, rbits_len, hbl]
    obtain ⟨hp1, hp2⟩ := ptR_cases bs (by omega)
    rw [← hS] at hp1 hp2 Hun
    have Hval := Lib.hid (fun W => value_at (S := S) (q := 0) (n := 8) (r := 8) rfl (by omega) W)
    have Hrt := Lib.hid (fun n W (hn : n ≤ 120) => readTicks_at S 8 n W (by omega) (by omega) hn)
    have Hrm := Lib.hid (fun d n W (hd : 8 + d ≤ S.length) (hn : n ≤ 120) => readMask_any S (8 + d) n W (by omega) hd hn)
    have hss : (txt S).size = 8 * m := by rw [txt_size, hSl]
    generalize txt S = ts at Hun Hval Hrt Hrm hss
    have hss8 : 8 ≤ ts.size := by omega
    have hss8' : (8 : Int) ≤ ((8 * m : Nat) : Int) := by omega
    have hn256 : vAt S 0 8 < 256 := vAt_lt S 0 8
    obtain ⟨n, hn⟩ : ∃ n, n = vAt S 0 8 := ⟨_, rfl⟩
    rw [← hn] at hn256 hp1 hp2 Hval
    have Hp1 := Lib.hid hp1; have Hp2 := Lib.hid hp2
    have Hcq := Lib.hid (show ∀ l, (packN (rowP l) = bs ↔ chunkL l = xs) from fun l => by
      unfold chunkL
      exact ⟨fun h => by rw [h, hsum], fun h => seal_inj (h.trans hsum.symm)⟩)
    have Hcn := Lib.hid (show ∀ l, packN (rowP l) ≠ bs → ((bytesOf (packN (rowP l))).toList == (st.extract 0 m).toList) = false from fun l h => by
      rw [beq_eq_false_iff_ne, hex]; exact fun h2 => h (bytesOf_inj (packN_256 _) hbx h2))
    have Hce := Lib.hid (show ∀ l, packN (rowP l) = bs → bytesOf (packN (rowP l)) = st.extract 0 m from fun l h => by rw [h, hex])
    obtain ⟨i0, hi, hz0, hz1, hz2⟩ := info_parts infoPt
    have Hi := Lib.hid hi; have Hz0 := Lib.hid hz0; have Hz1 := Lib.hid hz1; have Hz2 := Lib.hid hz2
    have HSl := Lib.hid hSl
    have Hex := Lib.hid hex
    rw [← hex] at Hun
    clear hst hn0 hm hbs hbx hbl hex hd8 hd0 hd1 hsl hx hxl hne heq hsum hS hSl hp1 hp2 hn hi hz0 hz1 hz2
    go_enter Tryz.func24, Tryz.ntmps24
    go_wp2_with fail
    refine (Hseal.out _).mono ?_
    rintro e w1 ⟨rfl, hb⟩
    have HB1 := Lib.hid hb; clear hb
    go_wp2_with fail
    refine (Hun.out _).mono ?_
    rintro e w2 ⟨rfl, hb⟩
    have HB2 := Lib.hid (Below.call HB1.out hb HB1.out.size); clear hb
    go_wp2_with fail
    refine (Hval.out _).mono ?_
    rintro e w' ⟨rfl, rfl⟩
    by_cases h120 : 120 < n
    · have Hres := Lib.hid (Hd0.out _ (Hp1.out h120))
      have h120' : (120 : Int) < n := by omega
      go_wp2
      go_ret2
      exact ⟨fun c h => (by rw [Hres.out] at h; injection h with h; subst h; rfl), fun l h => (by rw [Hres.out] at h; cases h), HB2.out⟩
    have hn' : (n : Int) ≤ 120 := by omega
    have Hq := Lib.hid (Hp2.out h120)
    clear Hp1 Hp2 h120 hn256
    go_wp2_with fail
    refine (Hrt.out n _ (by omega)).mono ?_
    rintro e w3 ⟨her, hok, hb⟩
    have HB3 := Lib.hid (Below.call HB2.out hb HB2.out.size); clear hb
    cases hrt : rdT S n [] 8 with
    | err ce =>
      obtain rfl := her ce hrt
      have Hres := Lib.hid (Hd0.out _ (Hq.out.1 ce hrt))
      have hce : (0 : Int) < (ce : Int) + 1 := by omega
      clear her hok hrt
      go_wp2
      go_ret2
      exact ⟨fun c h => (by rw [Hres.out] at h; injection h with h; subst h; rfl), fun l h => (by rw [Hres.out] at h; cases h), HB3.out⟩
    | ok tl q =>
      obtain ⟨v3, rfl, hown3⟩ := hok tl q hrt
      obtain ⟨A1, c1, rfl, _, _, _⟩ := own_form hown3
      have hq := rdT_le _ _ _ _ _ (by rw [HSl.out]; omega) hrt
      obtain ⟨d, rfl⟩ : ∃ d, q = 8 + d := ⟨q - 8, by omega⟩
      rw [Nat.add_sub_cancel_left]
      have hd2 : 8 + d ≤ 800000 := by have := HSl.out; omega
      have Hrm2 := Lib.hid (show ∀ W, _ from fun W => by
        have h := Hrm.out d n W hq.2 (by omega)
        rw [show ((8 + d : Nat) : Int) = 8 + (d : Int) by omega] at h
        exact h)
      have Hown3 := Lib.hid hown3; have Hrt := Lib.hid hrt
      have hl1 : tl.length = n := by have := rdT_len n [] 8 tl _ hrt; simpa using this
      have Hl1 := Lib.hid hl1
      clear her hok hrt hown3 hq hl1
      go_wp2_with fail
      refine (Hrm2.out _).mono ?_
      rintro e w4 ⟨her, hok, hb⟩
      have hw3 : w.heap.size ≤ w3.heap.size := HB3.out.size
      have HB4 := Lib.hid (Below.call HB3.out hb hw3)
      have hw4 : w.heap.size ≤ w4.heap.size := HB4.out.size
      have Hown4 := Lib.hid (own_below Hown3.out hb (Nat.le_refl _))
      clear hb
      cases hrm : rdM S n [] w0 (8 + d) with
      | err ce =>
        obtain rfl := her ce hrm
        have Hres := Lib.hid (Hd0.out _ ((Hq.out.2 tl _ Hrt.out).1 ce hrm))
        have hce : (0 : Int) < (ce : Int) + 1 := by omega
        clear her hok hrm
        go_wp2
        go_ret2
        exact ⟨fun c h => (by rw [Hres.out] at h; injection h with h; subst h; rfl), fun l h => (by rw [Hres.out] at h; cases h), HB4.out⟩
      | ok vs q2 =>
        obtain ⟨v4, rfl, hown5⟩ := hok vs q2 hrm
        obtain ⟨A2, c2, rfl, _, _, _⟩ := own_form hown5
        have Hpt := Lib.hid ((Hq.out.2 tl _ Hrt.out).2 vs q2 hrm)
        have hl2 : vs.length = n := by have := rdM_len n [] w0 _ vs q2 hrm; simpa using this
        have Hrd1 := Lib.hid (Rd.of_own Hown4.out); have Hrd2 := Lib.hid (Rd.of_own hown5)
        have Hll := Lib.hid (zipP_len Hl1.out hl2)
        have Hlm := Lib.hid (zipP_mem (ts := tl) (rdM_lt _ [] w0 _ vs q2 (.inl rfl) (by simp) hrm))
        obtain ⟨l, hl⟩ : ∃ l, l = zipP tl vs := ⟨_, rfl⟩
        rw [← hl] at Hpt Hll Hlm
        have Hzl := Lib.hid hl
        clear her hok hrm hown5 hl2 hl
        go_wp2
        go_loopw [12, 13] (fun o iv wr => ∃ k : Nat, k ≤ n ∧ iv = .int .i64 k ∧ wr.ownsRow w4.heap.size 57 2 o k (ptsC (l.take k)) ∧ Below w4.heap.size w4 wr) (fun _ iv _ => n - (intOf iv).toNat)
        case atStart => exact ⟨0, Nat.zero_le _, rfl, World.ownsRow_nil _ _ _ _, Below.refl _ _⟩
        case round =>
          obtain ⟨k, hk, rfl, hown, hbel⟩ := hrel
          obtain ⟨Ao, co, rfl, _, _, _⟩ := own_form hown
          have Hown := Lib.hid hown; have Hbel := Lib.hid hbel
          have hwr : w4.heap.size ≤ wr.heap.size := hbel.size
          clear hown hbel
          by_cases hkn : k < n
          · obtain ⟨b1, o1, t, hA1, had1, hy1, e1⟩ := (Hrd1.out.below Hbel.out).at1 hkn
            obtain ⟨b2, o2, v, hA2, had2, hy2, e2⟩ := (Hrd2.out.below Hbel.out).at1 hkn
            subst hA1; subst hA2
            have hlk : l[k]? = some (t, (v : Int)) := by rw [Hzl.out]; exact zipP_get hy1 hy2
            have Htk := Lib.hid (show ptsC (l.take (k + 1)) = ptsC (l.take k) ++ ptsC [(t, (v : Int))] by rw [take_snoc hlk]; simp [ptsC])
            have hk63 : k + 1 ≤ maxLen := by unfold maxLen; omega
            have hk8 : (k + 1) * 16 ≤ 140737488355328 := by omega
            have HS0 := Lib.hid (show wr.drew.cell? ⟨b1, o1 + k, none⟩ = some (.int .i64 t) ∧ wr.drew.cell? ⟨b2, o2 + k, none⟩ = some (.int .u64 (v : Int)) from ⟨e1, e2⟩)
            have hb1 : b1 < wr.heap.size := Nat.lt_of_lt_of_le had1 hwr
            have hb2 : b2 < wr.heap.size := Nat.lt_of_lt_of_le had2 hwr
            have hbal : Below wr.heap.size wr (wr.alloc (.cells #[.int .i64 t, .int .u64 (v : Int)] 57)).drew := (Below.alloc (Below.refl _ _) (Nat.le_refl _) _).drew
            have HS1 := Lib.hid (show (wr.alloc (.cells #[.int .i64 t, .int .u64 (v : Int)] 57)).drew.cell? ⟨b1, o1 + k, none⟩ = some (.int .i64 t) ∧ (wr.alloc (.cells #[.int .i64 t, .int .u64 (v : Int)] 57)).drew.cell? ⟨b2, o2 + k, none⟩ = some (.int .u64 (v : Int)) from ⟨(hbal.cell (p := ⟨b1, o1 + k, none⟩) hb1).trans e1, (hbal.cell (p := ⟨b2, o2 + k, none⟩) hb2).trans e2⟩)
            have HoA := Lib.hid (show (wr.alloc (.cells #[.int .i64 t, .int .u64 (v : Int)] 57)).drew.ownsRow w4.heap.size 57 2 (.slice Ao k co) k (ptsC (l.take k)) from own_drew (Hown.out.alloc _))
            have HrA := Lib.hid (show Rd (wr.alloc (.cells #[.int .i64 t, .int .u64 (v : Int)] 57)).drew (wr.alloc (.cells #[.int .i64 t, .int .u64 (v : Int)] 57)).drew.heap.size 2 (some ⟨wr.heap.size, 0, none⟩) 1 (ptsC [(t, (v : Int))]) from Rd.one2 wr 57 (t, (v : Int)))
            have HzA := Lib.hid (show w4.heap.size ≤ (wr.alloc (.cells #[.int .i64 t, .int .u64 (v : Int)] 57)).drew.heap.size by simp; omega)
            have HbA := Lib.hid (show Below w4.heap.size w4 (wr.alloc (.cells #[.int .i64 t, .int .u64 (v : Int)] 57)).drew from (Below.alloc Hbel.out hwr _).drew)
            have Hb1 := Lib.hid had1; have Hb2 := Lib.hid had2
            clear hbal hlk hy1 hy2
            go_wp2
            go_region_held3 (fun w' => w'.cell? ⟨b1, o1 + k, none⟩ = some (.int .i64 t) ∧ w'.cell? ⟨b2, o2 + k, none⟩ = some (.int .u64 (v : Int)))
              (first | with_reducible exact HS0.out | with_reducible exact HS1.out | with_reducible exact HS2.out)
              (first | (refine step_append_rd _ rfl (.tmp 60) (.tmp 70) _ rfl w4.heap.size 57 i0 (.agg #[.int .i64 0, .int .u64 0]) 2 16 Tryz.underlying32 Hi.out Hz0.out Hz1.out Hz2.out rfl (by decide) (.slice Ao k co) k _ rfl HoA.out _ _ 1 1 (ptsC [(t, (v : Int))]) rfl HrA.out (ptsC_one [(t, (v : Int))]) hk63 hk8 HzA.out ?_; intro v' wa hown' hgr hat; have Hv := Lib.hid hown'; have hBb := Below.grown HbA.out hgr HzA.out (fun g hg => (own_lt HoA.out g hg).1); have HS2 := Lib.hid (And.intro ((hBb.cell (p := ⟨b1, o1 + k, none⟩) Hb1.out).trans ((Below.cell Hbel.out (p := ⟨b1, o1 + k, none⟩) Hb1.out).symm.trans e1)) ((hBb.cell (p := ⟨b2, o2 + k, none⟩) Hb2.out).trans ((Below.cell Hbel.out (p := ⟨b2, o2 + k, none⟩) Hb2.out).symm.trans e2))); have HBb := Lib.hid hBb; clear hown' hgr hat hBb))
            all_goals
              go_wp2
              go_roundw
              case rel => exact ⟨k + 1, by omega, by go_num, by rw [Htk.out]; exact Hv.out, HBb.out⟩
              case measure => simp [intOf]; omega
          · obtain rfl : k = n := by omega
            have hlt : l.take k = l := List.take_of_length_le (by rw [Hll.out]; exact Nat.le_refl _)
            have Ho2 := Lib.hid (by rw [← hlt]; exact Hown.out : wr.ownsRow w4.heap.size 57 2 (.slice Ao k co) k (ptsC l))
            have HBr := Lib.hid (Below.call HB4.out Hbel.out hw4)
            have hwr2 : w.heap.size ≤ wr.heap.size := HBr.out.size
            have Hrd := Lib.hid (Rd.of_own Ho2.out)
            obtain ⟨i, hi1, hi2, hi3⟩ := first_pt l k
            have Hi2 := Lib.hid hi2; have Hi3 := Lib.hid hi3
            have Hdec := Lib.hid (Hd1.out l Hpt.out)
            clear hlt hi2 hi3
            go_wp2_with fail
            refine (pointsFault_any Ao k co l i _ Hrd.out (by omega) hi1 Hi2.out Hi3.out).mono ?_
            rintro e w5 ⟨rfl, hb⟩
            have HB5 := Lib.hid (Below.call HBr.out hb hwr2)
            have Hrd5 := Lib.hid ((Hrd.out.below hb).more hb.size)
            have Ho5 := Lib.hid (own_below Ho2.out hb (Nat.le_refl _))
            have hw5 : w.heap.size ≤ w5.heap.size := HB5.out.size
            clear hb
            by_cases hin : i < k
            · obtain ⟨cc, hcc⟩ : ∃ cc, cc = codeAt l i := ⟨_, rfl⟩
              rw [pfV_bad l k i cc hin hcc.symm]
              have Hres := Lib.hid (show decR xs = .err 0 by rw [Hdec.out, if_neg (fun h => Hi3.out hin (h.1 i (by rw [Hll.out]; exact hin)))])
              have hc0 : (0 : Int) < (cc : Int) + 1 := by omega
              have HB6 := Lib.hid (Below.alloc HB5.out hw5 (.cells #[.int .i64 ((cc : Int) + 1), .int .i64 (i : Int)] 29))
              clear hcc
              go_wp2
              go_ret2
              exact ⟨fun c h => (by rw [Hres.out] at h; injection h with h; subst h; rfl), fun l h => (by rw [Hres.out] at h; cases h), HB6.out⟩
            · obtain rfl : i = k := by omega
              rw [pfV_ok]
              have HB6 := Lib.hid (Below.alloc HB5.out hw5 (.cells #[.int .i64 0, .int .i64 (-1)] 29))
              have Hrd6 := Lib.hid ((Hrd5.out.alloc (Nat.le_refl _) (.cells #[.int .i64 0, .int .i64 (-1)] 29)).more (B' := (w5.alloc (.cells #[.int .i64 0, .int .i64 (-1)] 29)).heap.size) (by simp))
              have Ho6 := Lib.hid (Ho5.out.alloc (.cells #[.int .i64 0, .int .i64 (-1)] 29))
              have hrl := rowP_len l (by rw [Hll.out]; omega) Hlm.out
              have Hpk := Lib.hid (fun W => pack_any (rowP l) (by omega) W)
              clear hin hrl
              go_wp2_with fail
              refine (rowOf_any Ao i co l _ Hrd6.out (by omega) Hi2.out Hlm.out).mono ?_
              rintro e w7 ⟨rfl, hb⟩
              have HB7 := Lib.hid (Below.call HB6.out hb HB6.out.size)
              have Ho7 := Lib.hid (own_below Ho6.out hb (Nat.le_refl _))
              clear hb
              go_wp2_with fail
              refine (Hpk.out _).mono ?_
              rintro e w8 ⟨rfl, hb⟩
              have HB8 := Lib.hid (Below.call HB7.out hb HB7.out.size)
              have Ho8 := Lib.hid (own_below Ho7.out hb (Nat.le_refl _))
              clear hb
              by_cases hpb : packN (rowP l) = bs
              · have Hres := Lib.hid (show decR xs = .ok l by rw [Hdec.out, if_pos ⟨fun j hj => Hi2.out j (by rw [← Hll.out]; exact hj), (Hcq.out l).1 hpb⟩])
                rw [Hce.out l hpb]
                clear hpb
                go_wp2
                go_ret2
                refine ⟨fun c h => (by rw [Hres.out] at h; cases h), fun l' h => ?_, HB8.out⟩
                rw [Hres.out] at h
                injection h with h
                subst h
                exact ⟨_, rfl, by rw [Hll.out]; exact own_base Ho8.out hw4⟩
              · have Hres := Lib.hid (show decR xs = .err 0 by rw [Hdec.out, if_neg (fun h => hpb ((Hcq.out l).2 h.2))])
                have hcn := Hcn.out l hpb
                generalize bytesOf (packN (rowP l)) = t5 at hcn ⊢
                clear hpb
                go_wp2
                go_ret2
                exact ⟨fun c h => (by rw [Hres.out] at h; injection h with h; subst h; rfl), fun l h => (by rw [Hres.out] at h; cases h), HB8.out⟩
  · have Hres := Lib.hid (hd8 (fun h => hsum (hsl.1 h)))
    have hcn := hne hsum
    generalize bytesOf (sealL bs) = t5 at hcn Hseal
    clear hst hn0 hm hbs hbx hbl hex hd8 hd0 hd1 hsl hx hxl hne heq hsum
    go_enter Tryz.func24, Tryz.ntmps24
    go_wp2_with fail
    refine (Hseal.out _).mono ?_
    rintro e w1 ⟨rfl, hb⟩
    have HB1 := Lib.hid hb; clear hb
    go_wp2
    go_ret2
    exact ⟨fun c h => (by rw [Hres.out] at h; injection h with h; subst h; rfl), fun l h => (by rw [Hres.out] at h; cases h), HB1.out⟩
end Go.Proofs.YtpbgonpmpjpljaaGreatDoor
