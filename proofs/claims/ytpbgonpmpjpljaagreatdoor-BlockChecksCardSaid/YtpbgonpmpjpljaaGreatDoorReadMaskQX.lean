/- The reference's ReadMask by its contract. -/
import Derived.Test.YtpbgonpmpjpljaaGreatDoorMkhX
import Derived.Test.YtpbgonpmpjpljaaGreatDoorMkyX
import Derived.OwnWalk
namespace Go.Proofs.YtpbgonpmpjpljaaGreatDoor
open Go.RowKit
set_option linter.unusedVariables false

theorem infoU64r : (Tryz.prog.info? 55).map (fun i => (i.zero, i.size, i.bytes)) = some (some (.int .u64 0), 1, 8) := by kernel_rfl
theorem u64_oner (xs : List Nat) : ∀ u ∈ xs.map (fun x : Nat => Value.int .u64 (x : Int)), u.oneCell' = true := by
  intro u hu
  obtain ⟨x, _, rfl⟩ := List.mem_map.1 hu
  rfl
theorem Rd.onev (w : World) (t : TypeId) (u : Value) : Rd (w.alloc (.cells #[u] t)) (w.alloc (.cells #[u] t)).heap.size 1 (some ⟨w.heap.size, 0, none⟩) 1 [u] :=
  ⟨rfl, fun _ => ⟨_, _, rfl, by simp, fun j x hx => by rw [Nat.zero_add, (Blk.new w _ _).cell]; simpa using hx⟩⟩
theorem txt_slice {S : List Bool} {q n r : Nat} (hr : r = q + n) : (txt S).extract q r = txt ((S.drop q).take n) := by
  rw [txt_extract, hr, List.drop_take, Nat.add_sub_cancel_left]
theorem value_at {S : List Bool} {q n r : Nat} (hr : r = q + n) (hn : n ≤ 64) (w : World) : Calls Tryz.prog 45 #[.string ((txt S).extract q r)] w fun e w' => e = .returned (.int .u64 (vAt S q n)) ∧ w' = w := by
  rw [txt_slice hr]
  exact valueOf_any _ (by rw [List.length_take]; omega) w
theorem rv_append {w w6 wa : World} {i : Nat} {acc : List Nat} {t : Nat} {v v' : Value} (hown : w6.ownsRow w.heap.size 55 1 v i (acc.map fun x : Nat => Value.int .u64 (x : Int))) (hb : Below w.heap.size w w6)
    (hown' : wa.ownsRow w.heap.size 55 1 v' (i + 1) (acc.map (fun x : Nat => Value.int .u64 (x : Int)) ++ [.int .u64 (t : Int)])) (hgr : (w6.alloc (.cells #[.int .u64 (t : Int)] 55)).grownBy wa v.ownBlock) :
    wa.ownsRow w.heap.size 55 1 v' (i + 1) ((acc ++ [t]).map fun x : Nat => Value.int .u64 (x : Int)) ∧ Below w.heap.size w wa :=
  ⟨by rw [List.map_append]; exact hown', Below.grown (Below.alloc hb hb.size _) hgr (by have := hb.size; simp; omega) (fun g hg => (own_lt hown g hg).1)⟩
theorem txt_injM {a b : List Bool} (h1 : (txt a).toList = (txt b).toList) : a = b := by
  unfold txt at h1
  rw [B8_toList, B8_toList] at h1
  have hinj : ∀ x y : Bool, chB x = chB y → x = y := by decide
  induction a generalizing b with
  | nil => cases b with
    | nil => rfl
    | cons y b => simp at h1
  | cons x a ih => cases b with
    | nil => simp at h1
    | cons y b =>
      simp only [List.map_cons, List.cons.injEq] at h1
      rw [hinj x y h1.1, ih h1.2]

set_option maxRecDepth 100000 in
set_option maxHeartbeats 8000000 in
theorem readMask_any (S : List Bool) (b n : Nat) (w : World) (hS : S.length ≤ 1000000) (hb : b ≤ S.length) (hn : n ≤ 120) :
    Calls Tryz.prog 47 #[.string (txt S), .int .i64 b, .int .i64 n] w fun e w' => (∀ c, rdM S n [] w0 b = .err c → e = .returned (.tuple #[.slice none 0 0, .int .i64 0, .int .i64 ((c : Int) + 1)])) ∧
      (∀ l q, rdM S n [] w0 b = .ok l q → ∃ v, e = .returned (.tuple #[v, .int .i64 (q - b : Nat), .int .i64 0]) ∧ w'.ownsRow w.heap.size 55 1 v n (l.map fun x : Nat => Value.int .u64 (x : Int))) ∧ Below w.heap.size w w' := by
  have hn' : (n : Int) ≤ 120 := by omega
  obtain ⟨i0, hi, hz0, hz1, hz2⟩ := info_parts infoU64r
  have Hi := Lib.hid hi; have Hz0 := Lib.hid hz0; have Hz1 := Lib.hid hz1; have Hz2 := Lib.hid hz2
  obtain ⟨ts, hts⟩ : ∃ ts, ts = txt S := ⟨_, rfl⟩
  obtain ⟨L, hL⟩ : ∃ L, L = S.length := ⟨_, rfl⟩
  have hsz : ts.size = L := by rw [hts, txt_size, hL]
  have hL1 : L ≤ 1000000 := by omega
  have hL2 : (L : Int) ≤ 1000000 := by omega
  have hbL : b ≤ L := by omega
  have hidx : ∀ (q : Nat) (h : q < ts.size), (vAt S q 1 = 0 ∧ ts[q].toNat = 48) ∨ (vAt S q 1 = 1 ∧ ts[q].toNat = 49) := by
    intro q h
    have hq : q < S.length := by omega
    have hb := List.getElem?_eq_getElem hq
    subst hts
    have e := txt_get S q h _ hb
    have e2 := vBit S q _ hb
    have e3 : (txt S)[q].toNat = 48 + (S[q]).toNat := by rw [e]; exact chB_toNat _
    cases hc : S[q] with
    | false => rw [hc] at e2 e3; exact .inl ⟨e2, e3⟩
    | true => rw [hc] at e2 e3; exact .inr ⟨e2, e3⟩
  have Hval := Lib.hid (show ∀ (q n r : Nat), r = q + n → n ≤ 64 → ∀ W, Calls Tryz.prog 45 #[.string (ts.extract q r)] W fun e w' => e = .returned (.int .u64 (vAt S q n)) ∧ w' = W from fun q n r hr hn W => by rw [hts]; exact value_at hr hn W)
  have Hsl := Lib.hid (show ∀ (q n r : Nat), r = q + n → ts.extract q r = txt ((S.drop q).take n) from fun q n r hr => by rw [hts]; exact txt_slice hr)
  have Hidx := Lib.hid hidx; have HL := Lib.hid hL
  rw [← hts]
  clear hts hL hidx hS hb hi hz0 hz1 hz2
  go_enter Tryz.func47, Tryz.ntmps47
  go_wp2
  go_loopw [1, 9, 11, 12, 13] (fun at_ o le wi iv wr => ∃ (i q : Nat) (acc : List Nat) (ww : Win), i ≤ n ∧ iv = .int .i64 i ∧ at_ = .int .i64 q ∧ q ≤ L ∧ acc.length = i ∧ le = .int .i64 ww.a ∧ wi = .int .i64 ww.d ∧ (i = 0 → q = b ∧ ww = w0) ∧ (0 < i → MInv S b acc ww q) ∧ rdM S n [] w0 b = rdM S (n - i) acc ww q ∧ wr.ownsRow w.heap.size 55 1 o i (acc.map fun x : Nat => Value.int .u64 (x : Int)) ∧ Below w.heap.size w wr) (fun _ _ _ _ iv _ => n - (intOf iv).toNat)
  case atStart => exact ⟨0, b, [], w0, by omega, rfl, rfl, hbL, rfl, rfl, rfl, fun _ => ⟨rfl, rfl⟩, by omega, rfl, World.ownsRow_nil _ _ _ _, Below.refl _ _⟩
  case round =>
    obtain ⟨i, q, acc, ww, hin, rfl, rfl, hq, hal, rfl, rfl, hi0s, hinv, hrd, hown, hbel⟩ := hrel
    obtain ⟨Ao, co, rfl, _, _, hro⟩ := own_form hown
    have Hal := Lib.hid hal; have Hi0s := Lib.hid hi0s; have Hinv := Lib.hid hinv; have Hrd := Lib.hid hrd; have Hown := Lib.hid hown; have Hbel := Lib.hid hbel; have Hro := Lib.hid hro
    have hws : w.heap.size ≤ wr.heap.size := hbel.size
    clear hal hi0s hinv hrd hown hbel hro
    by_cases hlt : i < n
    · obtain ⟨d, hd⟩ : ∃ d, n - i = d + 1 := ⟨n - i - 1, by omega⟩
      have hd2 : n - (i + 1) = d := by omega
      have Hd := Lib.hid hd; have Hd2 := Lib.hid hd2
      have hk63 : i + 1 ≤ maxLen := by unfold maxLen; omega
      have hk8 : (i + 1) * 8 ≤ 140737488355328 := by omega
      clear hd hd2
      by_cases hi0 : i = 0
      · subst hi0
        obtain ⟨rfl, hw0⟩ := Hi0s.out rfl
        subst hw0
        have hacc : acc = [] := List.eq_nil_of_length_eq_zero Hal.out
        subst hacc
        obtain ⟨r, hr⟩ : ∃ r, r = q + 64 := ⟨_, rfl⟩
        have n1 : IntKind.i64.wrap ((q : Int) + 64) = (r : Int) := by rw [IntKind.wrap_i64]; omega
        by_cases h64 : L < r
        · have Hres := Lib.hid (show rdM S n [] w0 q = .err 4 by rw [Hrd.out, Hd.out]; exact rdM_first_none rfl (by rw [← HL.out, ← hr]; exact h64))
          clear hr
          go_wp2
          go_ret3
          exact ⟨fun c h => (by rw [Hres.out] at h; injection h with h; subst h; rfl), fun l q' h => (by rw [Hres.out] at h; cases h), Hbel.out⟩
        · have h64' : (r : Int) ≤ (L : Int) := by omega
          have j1 : q ≤ r := by omega
          have j2 : (q : Int) ≤ (r : Int) := by omega
          have j3 : r ≤ ts.size := by omega
          have hge : ¬ S.length < q + 64 := by rw [← HL.out]; omega
          have Hres := Lib.hid (show rdM S n [] w0 q = rdM S d [vAt S q 64] w0 (q + 64) by rw [Hrd.out, Hd.out]; exact rdM_first rfl hge)
          have Hmi := Lib.hid (MInv.first hge)
          have Hv := Lib.hid (Hval.out q 64 r hr (by omega))
          have Hr := Lib.hid hr
          clear hr hge
          go_wp2_with fail
          refine (Hv.out _).mono ?_
          rintro e w' ⟨rfl, rfl⟩
          generalize vAt S q 64 = v at Hres Hmi ⊢
          have Hsa := Lib.hid (show w.heap.size ≤ (w'.alloc (.cells #[.int .u64 (v : Int)] 55)).heap.size by simp; omega)
          go_wp2_with (at_builtin; refine wpList_append_rd _ rfl (.tmp 30) (.tmp 37) _ rfl w.heap.size 55 i0 (.int .u64 0) 1 8 Tryz.underlying97 Hi.out Hz0.out Hz1.out Hz2.out rfl (by decide) _ 0 _ rfl (Hown.out.alloc _) _ _ 1 1 [.int .u64 (v : Int)] rfl (Rd.onev w' 55 (.int .u64 (v : Int))) (u64_oner [v]) hk63 hk8 Hsa.out ?_; intro v' wa hown' hgr hat; have HQ := Lib.hid (rv_append Hown.out Hbel.out hown' hgr); clear hown' hgr hat)
          go_roundw
          case rel => exact ⟨0 + 1, r, [v], w0, by omega, by go_num, rfl, by omega, rfl, rfl, rfl, fun h => absurd h (by omega), fun _ => by rw [Hr.out]; exact Hmi.out, by rw [Hd2.out, Hr.out]; exact Hres.out, HQ.out.1, HQ.out.2⟩
          case measure => simp [intOf]; omega
      · have hmi := Hinv.out (by omega)
        have hal0 : acc.length ≠ 0 := by rw [Hal.out]; exact hi0
        have Hmi := Lib.hid hmi; have Hal0 := Lib.hid hal0
        have hi1 : ((i : Int) == 0) = false := by rw [beq_eq_false_iff_ne]; omega
        have hi2 : 0 < i := by omega
        have hi3 : (0 : Int) < (i : Int) := by omega
        have n0 : IntKind.i64.wrap ((i : Int) - 1) = ((i - 1 : Nat) : Int) := by rw [IntKind.wrap_i64]; omega
        obtain ⟨b1, o1, y, hA1, had1, hy1, e1⟩ := Hro.out.at1 (k := i - 1) (by omega)
        subst hA1
        have hyl := hmi.lt y (List.mem_of_getElem? hy1)
        have hyg : acc.getD (acc.length - 1) 0 = y := by rw [Hal.out]; exact getD_get hy1
        have Hyg := Lib.hid hyg
        obtain ⟨la, lt, ld⟩ := ww
        clear hmi hal0 hyg hy1 hi0
        by_cases c1 : L < q + 1
        · have Hres := Lib.hid (show rdM S n [] w0 b = .err 4 by rw [Hrd.out, Hd.out]; exact rdM_err Hal0.out (chg_1 (by rw [← HL.out]; exact c1)))
          have c1' : L ≤ q := by omega
          have c1'' : (L : Int) ≤ (q : Int) := by omega
          go_wp2
          go_ret3
          exact ⟨fun c h => (by rw [Hres.out] at h; injection h with h; subst h; rfl), fun l q' h => (by rw [Hres.out] at h; cases h), Hbel.out⟩
        have hqL : q < ts.size := by omega
        have hqL' : (q : Int) < (L : Int) := by omega
        have hqL2 : ¬ (L : Int) ≤ (q : Int) := by omega
        rcases Hidx.out q hqL with ⟨hv, hix⟩ | ⟨hv, hix⟩
        · have hnS : ¬ S.length < q + 1 := by rw [← HL.out]; exact c1
          have Hres := Lib.hid (show rdM S n [] w0 b = rdM S d (acc ++ [y]) ⟨la, lt, ld⟩ (q + 1) by rw [Hrd.out, Hd.out, rdM_next Hal0.out (chg_0 hnS hv), Hyg.out, Nat.xor_zero])
          have hst := Hmi.out.same Hal0.out hnS hv
          rw [Hyg.out, Nat.xor_zero] at hst
          have Hst := Lib.hid hst
          have Hsa := Lib.hid (show w.heap.size ≤ (wr.alloc (.cells #[.int .u64 (y : Int)] 55)).heap.size by simp; omega)
          clear hst hnS hv
          go_wp2_with (at_builtin; refine wpList_append_rd _ rfl (.tmp 49) (.tmp 55) _ rfl w.heap.size 55 i0 (.int .u64 0) 1 8 Tryz.underlying97 Hi.out Hz0.out Hz1.out Hz2.out rfl (by decide) _ i _ rfl (Hown.out.alloc _) _ _ 1 1 [.int .u64 (y : Int)] rfl (Rd.onev wr 55 (.int .u64 (y : Int))) (u64_oner [y]) hk63 hk8 Hsa.out ?_; intro v' wa hown' hgr hat; have HQ := Lib.hid (rv_append Hown.out Hbel.out hown' hgr); clear hown' hgr hat)
          go_roundw
          case rel => exact ⟨i + 1, q + 1, acc ++ [y], ⟨la, lt, ld⟩, by omega, by go_num, by go_num, by omega, by rw [List.length_append, Hal.out]; rfl, rfl, rfl, fun h => absurd h (by omega), fun _ => Hst.out, by rw [Hd2.out]; exact Hres.out, HQ.out.1, HQ.out.2⟩
          case measure => simp [intOf]; omega
        have Hv0 := Lib.hid (show vAt S q 1 ≠ 0 by omega)
        clear hv
        by_cases c2 : L < q + 2
        · have Hres := Lib.hid (show rdM S n [] w0 b = .err 4 by rw [Hrd.out, Hd.out]; exact rdM_err Hal0.out (chg_2 (by rw [← HL.out]; exact c2) Hv0.out))
          have c2' : (L : Int) ≤ (q : Int) + 1 := by omega
          go_wp2
          go_ret3
          exact ⟨fun c h => (by rw [Hres.out] at h; injection h with h; subst h; rfl), fun l q' h => (by rw [Hres.out] at h; cases h), Hbel.out⟩
        have hq1L : q + 1 < ts.size := by omega
        have hq1L2 : ¬ (L : Int) ≤ (q : Int) + 1 := by omega
        have HnS2 := Lib.hid (show ¬ S.length < q + 2 by rw [← HL.out]; exact c2)
        rcases Hidx.out (q + 1) hq1L with ⟨hv1, hix1⟩ | ⟨hv1, hix1⟩
        · have HV1 := Lib.hid (show vAt S (q + 1) 1 ≠ 1 by omega)
          clear hv1
          by_cases hd : ld = 0
          · have Hres := Lib.hid (show rdM S n [] w0 b = .err 0 by rw [Hrd.out, Hd.out]; exact rdM_err Hal0.out (chg_nowin HnS2.out Hv0.out HV1.out hd))
            subst hd
            go_wp2
            go_ret3
            exact ⟨fun c h => (by rw [Hres.out] at h; injection h with h; subst h; rfl), fun l q' h => (by rw [Hres.out] at h; cases h), Hbel.out⟩
          have hok : Win.Ok ⟨la, lt, ld⟩ := by
            rcases Hmi.out.wok with e | e
            · injection e with _ _ e3; exact absurd e3 hd
            · exact e
          have Hch := Lib.hid (chg_old (w := ⟨la, lt, ld⟩) HnS2.out Hv0.out HV1.out hd)
          have Hck := Lib.hid (show ∀ (X : Nat), X = vAt S (q + 2) ld * 2 ^ lt → ¬ S.length < q + 2 + ld → X ≠ 0 → (pBits (mParts ⟨la, lt, ld⟩ X) = (S.drop q).take (2 + ld) ↔ ¬ badC false ⟨la, lt, ld⟩ ⟨la, lt, ld⟩ X) from fun X hX hl hx => ⟨fun _ h => (by rcases h with h | ⟨h, _⟩; exact hx h; cases h), fun _ => (by rw [hX]; exact chk_old (w := ⟨la, lt, ld⟩) hok hl Hv0.out HV1.out (by rw [← hX]; exact hx))⟩)
          obtain ⟨ok1, ok2, ok3⟩ := hok
          simp only at ok1 ok2 ok3
          have hd0 : ((ld : Int) == 0) = false := by rw [beq_eq_false_iff_ne]; omega
          clear hd
          obtain ⟨Q, hQ⟩ : ∃ Q, Q = q + 2 := ⟨_, rfl⟩
          have m1 : IntKind.i64.wrap ((q : Int) + 2) = (Q : Int) := by rw [IntKind.wrap_i64]; omega
          obtain ⟨r, hr⟩ : ∃ r, r = Q + ld := ⟨_, rfl⟩
          have m2 : IntKind.i64.wrap ((Q : Int) + (ld : Int)) = (r : Int) := by rw [IntKind.wrap_i64]; omega
          rw [← hQ] at Hch Hck
          by_cases c5 : L < r
          · have Hres := Lib.hid (show rdM S n [] w0 b = .err 4 by rw [Hrd.out, Hd.out]; exact rdM_err Hal0.out (by rw [Hch.out]; exact body_none (by rw [← HL.out, ← hr]; exact c5)))
            clear hQ hr
            go_wp2
            go_ret3
            exact ⟨fun c h => (by rw [Hres.out] at h; injection h with h; subst h; rfl), fun l q' h => (by rw [Hres.out] at h; cases h), Hbel.out⟩
          have hnr : ¬ S.length < Q + ld := by rw [← HL.out, ← hr]; exact c5
          have HnR := Lib.hid hnr; have HQ := Lib.hid hQ; have Hr := Lib.hid hr
          have j1 : Q ≤ r := by omega
          have hqr : q ≤ r := by omega
          have j2 : (Q : Int) ≤ (r : Int) := by omega
          have j3 : r ≤ ts.size := by omega
          have j4 : (r : Int) ≤ (L : Int) := by omega
          have hvl := vAt_lt S Q ld
          have hx2 : vAt S Q ld * 2 ^ lt < 18446744073709551616 := by
            have h : vAt S Q ld * 2 ^ lt < 2 ^ ld * 2 ^ lt := Nat.mul_lt_mul_of_lt_of_le hvl (Nat.le_refl _) (Nat.two_pow_pos _)
            rw [← Nat.pow_add] at h
            exact Nat.lt_of_lt_of_le h (Nat.pow_le_pow_right (n := 2) (by decide) (show ld + lt ≤ 64 by omega))
          have Hv := Lib.hid (Hval.out Q ld r hr (by omega))
          obtain ⟨v, hve⟩ : ∃ v, v = vAt S Q ld := ⟨_, rfl⟩
          rw [← hve] at hx2 Hv
          have HVE := Lib.hid hve
          clear hnr hQ hr hve hvl
          go_wp2_with fail
          refine (Hv.out _).mono ?_
          rintro e w' ⟨rfl, rfl⟩
          obtain ⟨A, hA⟩ : ∃ A, A = la + ld := ⟨_, rfl⟩
          have m3 : IntKind.i64.wrap ((la : Int) + (ld : Int)) = (A : Int) := by rw [IntKind.wrap_i64]; omega
          have hA64 : A + lt = 64 := by omega
          have hgt : ¬ (64 : Int) < (A : Int) := by omega
          have hxz := Lib.hid (show lt = lt from rfl)
          clear hA
          go_wp2
          go_loopw [15, 16] (fun xv kv wr' => ∃ (j x : Nat), j ≤ lt ∧ kv = .int .i64 ((A + j : Nat) : Int) ∧ xv = .int .u64 (x : Int) ∧ x = v * 2 ^ j ∧ wr' = w') (fun _ kv _ => 64 - (intOf kv).toNat)
          case atStart => exact ⟨0, v, Nat.zero_le _, rfl, rfl, by simp, rfl⟩
          case round =>
            obtain ⟨j, x, hj, rfl, rfl, hx, rfl⟩ := hrel
            have Hx := Lib.hid hx
            clear hx
            by_cases hjt : j < lt
            · have hle : 2 * x ≤ v * 2 ^ lt := by
                have h1 : v * 2 ^ (j + 1) ≤ v * 2 ^ lt := Nat.mul_le_mul_left _ (Nat.pow_le_pow_right (by decide) hjt)
                rw [Nat.pow_succ, ← Nat.mul_assoc, ← Hx.out] at h1
                omega
              have hx3 : 2 * x < 18446744073709551616 := by omega
              have Hn := Lib.hid (show 2 * x = v * 2 ^ (j + 1) by rw [Nat.pow_succ, ← Nat.mul_assoc, ← Hx.out]; omega)
              clear hle hx2
              go_wp2
              go_roundw
              case rel => exact ⟨j + 1, 2 * x, hjt, by go_num, by go_num, Hn.out, trivial⟩
              case measure => simp [intOf]; omega
            · obtain rfl : lt = j := by omega
              have hxq : x = vAt S Q ld * 2 ^ lt := by rw [Hx.out, HVE.out]
              have hx4 : x < 18446744073709551616 := by rw [Hx.out]; exact hx2
              have hxr : bits BinOp.xor IntKind.u64 (y : Int) (x : Int) = ((y ^^^ x : Nat) : Int) := bits_xor_u64_nat y x hyl hx4
              have hYl : y ^^^ x < 18446744073709551616 := Nat.xor_lt_two_pow (n := 64) hyl hx4
              have Hxq := Lib.hid hxq
              clear hxq hx2
              obtain ⟨Y, hY⟩ : ∃ Y, Y = y ^^^ x := ⟨_, rfl⟩
              rw [← hY] at hxr hYl
              have HY := Lib.hid hY
              have Hsa := Lib.hid (show w.heap.size ≤ (wr.alloc (.cells #[.int .u64 (Y : Int)] 55)).heap.size by simp; omega)
              have Hall := Lib.hid (show ∀ z ∈ acc ++ [Y], z < 18446744073709551616 from fun z hz => by rcases List.mem_append.1 hz with h | h; exact Hmi.out.lt z h; rw [List.mem_singleton] at h; omega)
              clear hY
              by_cases hx0 : x = 0
              · have hx0' : ((x : Int) == 0) = true := by simp [hx0]
                have Hres := Lib.hid (show rdM S n [] w0 b = .err 0 by rw [Hrd.out, Hd.out]; exact rdM_err Hal0.out (by rw [Hch.out]; exact body_bad HnR.out (.inl (by rw [← Hxq.out]; exact hx0))))
                clear hx0
                go_wp2_with (at_builtin; refine wpList_append_rd _ rfl (.tmp 129) (.tmp 137) _ rfl w.heap.size 55 i0 (.int .u64 0) 1 8 Tryz.underlying97 Hi.out Hz0.out Hz1.out Hz2.out rfl (by decide) _ i _ rfl (Hown.out.alloc _) _ _ 1 1 [.int .u64 (Y : Int)] rfl (Rd.onev wr 55 (.int .u64 (Y : Int))) (u64_oner [Y]) hk63 hk8 Hsa.out ?_; intro v' wa hown' hgr hat; have HQ2 := Lib.hid (rv_append Hown.out Hbel.out hown' hgr); clear hown' hgr hat)
                go_quiet (fail)
                go_wp2
                go_ret3
                exact ⟨fun c h => (by rw [Hres.out] at h; injection h with h; subst h; rfl), fun l q' h => (by rw [Hres.out] at h; cases h), (by first | exact HQ2.out.2 | exact Below.drewN HQ2.out.2 _)⟩
              · have hx0' : ((x : Int) == 0) = false := by rw [beq_eq_false_iff_ne]; omega
                have hbq : b ≤ q := Hmi.out.ble
                have hex : ts.extract b r = txt ((S.drop b).take (r - b)) := Hsl.out b (r - b) r (by omega)
                have hiff : maskB (acc ++ [Y]) = (S.drop b).take (r - b) ↔ ¬ badC false ⟨la, lt, ld⟩ ⟨la, lt, ld⟩ x := by
                  rw [← Hck.out x Hxq.out HnR.out hx0, ← Hmi.out.chk Hal0.out x (2 + ld), Hyg.out, ← HY.out, show q + (2 + ld) - b = r - b by have h1 := Hr.out; have h2 := HQ.out; omega]
                have k1 : b ≤ r := by omega
                have k2 : (b : Int) ≤ (r : Int) := by omega
                have hbad := Lib.hid (show badC false ⟨la, lt, ld⟩ ⟨la, lt, ld⟩ x → rdM S n [] w0 b = .err 0 from fun hh => by rw [Hrd.out, Hd.out]; exact rdM_err Hal0.out (by rw [Hch.out]; exact body_bad HnR.out (by rw [← Hxq.out]; exact hh)))
                have hgood := Lib.hid (show ¬ badC false ⟨la, lt, ld⟩ ⟨la, lt, ld⟩ x → rdM S n [] w0 b = rdM S d (acc ++ [Y]) ⟨la, lt, ld⟩ r ∧ MInv S b (acc ++ [Y]) ⟨la, lt, ld⟩ r from fun hh => by
                  have hc : chg S ⟨la, lt, ld⟩ q = .ok x ⟨la, lt, ld⟩ r := by rw [Hch.out, Hr.out, Hxq.out]; exact body_ok HnR.out (by rw [← Hxq.out]; exact hh)
                  have h2 := Hmi.out.chg Hal0.out hc
                  rw [Hyg.out, ← HY.out] at h2
                  refine ⟨?_, h2⟩
                  rw [Hrd.out, Hd.out, rdM_next Hal0.out hc, Hyg.out, ← HY.out])
                go_wp2_with (at_builtin; refine wpList_append_rd _ rfl (.tmp 129) (.tmp 137) _ rfl w.heap.size 55 i0 (.int .u64 0) 1 8 Tryz.underlying97 Hi.out Hz0.out Hz1.out Hz2.out rfl (by decide) _ i _ rfl (Hown.out.alloc _) _ _ 1 1 [.int .u64 (Y : Int)] rfl (Rd.onev wr 55 (.int .u64 (Y : Int))) (u64_oner [Y]) hk63 hk8 Hsa.out ?_; intro v' wa hown' hgr hat; have hq2 := rv_append Hown.out Hbel.out hown' hgr; obtain ⟨A9, c9, rfl, _, _, hr9⟩ := own_form hq2.1; have HQ2 := Lib.hid hq2; have HR9 := Lib.hid hr9; clear hown' hgr hat hq2 hr9)
                by_cases hh : badC false ⟨la, lt, ld⟩ ⟨la, lt, ld⟩ x
                · have Hres := Lib.hid (hbad.out hh)
                  have hne : ((txt (maskB (acc ++ [Y]))).toList == (ts.extract b r).toList) = false := by rw [beq_eq_false_iff_ne, hex]; exact fun h => hiff.1 (txt_injM h) hh
                  have Hmo := Lib.hid (fun W (hR : Rd W W.heap.size 1 A9 (i + 1) ((acc ++ [Y]).map fun x : Nat => Value.int .u64 (x : Int))) => maskOf_any A9 (i + 1) c9 (acc ++ [Y]) W hR (by omega) Hall.out)
                  generalize txt (maskB (acc ++ [Y])) = mt at hne Hmo
                  clear hh hiff hex
                  go_region_held3 (fun _ => True) (first | trivial)
                    (first | (go_at_call 75; refine (Hmo.out _ (by first | exact HR9.out | exact HR9.out.drew)).mono ?_; rintro e w9 ⟨rfl, hb9⟩; have hb9 := Lib.hid hb9))
                  go_wp2
                  go_ret3
                  exact ⟨fun c h => (by rw [Hres.out] at h; injection h with h; subst h; rfl), fun l q' h => (by rw [Hres.out] at h; cases h), Below.call HQ2.out.2.drew hb9.out (by have := HQ2.out.2.size; simpa using this)⟩
                · obtain ⟨hg1, hg2⟩ := hgood.out hh
                  have Hres := Lib.hid hg1; have Hmi2 := Lib.hid hg2
                  have heq : txt (maskB (acc ++ [Y])) = ts.extract b r := by rw [hex, hiff.2 hh]
                  have Hmo := Lib.hid (fun W (hR : Rd W W.heap.size 1 A9 (i + 1) ((acc ++ [Y]).map fun x : Nat => Value.int .u64 (x : Int))) => maskOf_any A9 (i + 1) c9 (acc ++ [Y]) W hR (by omega) Hall.out)
                  rw [heq] at Hmo
                  clear hh hiff hex heq hg1 hg2
                  go_region_held3 (fun _ => True) (first | trivial)
                    (first | (go_at_call 75; refine (Hmo.out _ (by first | exact HR9.out | exact HR9.out.drew)).mono ?_; rintro e w9 ⟨rfl, hb9⟩; have hb9 := Lib.hid hb9))
                  go_wp2
                  go_roundw
                  case rel => exact ⟨i + 1, r, acc ++ [Y], ⟨la, lt, ld⟩, by omega, by go_num, rfl, by omega, by rw [List.length_append, Hal.out]; rfl, rfl, rfl, fun h => absurd h (by omega), fun _ => Hmi2.out, by rw [Hd2.out]; exact Hres.out, own_below HQ2.out.1.drew hb9.out (Nat.le_refl _), Below.call HQ2.out.2.drew hb9.out (by have := HQ2.out.2.size; simpa using this)⟩
                  case measure => simp [intOf]; omega
        · have HV1 := Lib.hid hv1
          clear hv1
          obtain ⟨Q2, hQ2⟩ : ∃ Q2, Q2 = q + 2 := ⟨_, rfl⟩
          obtain ⟨R5, hR5⟩ : ∃ R5, R5 = Q2 + 5 := ⟨_, rfl⟩
          obtain ⟨R11, hR11⟩ : ∃ R11, R11 = Q2 + 11 := ⟨_, rfl⟩
          have l1 : IntKind.i64.wrap ((q : Int) + 2) = (Q2 : Int) := by rw [IntKind.wrap_i64]; omega
          have l2 : IntKind.i64.wrap ((Q2 : Int) + 5) = (R5 : Int) := by rw [IntKind.wrap_i64]; omega
          have l3 : IntKind.i64.wrap ((Q2 : Int) + 11) = (R11 : Int) := by rw [IntKind.wrap_i64]; omega
          by_cases c3 : L < R11
          · have Hres := Lib.hid (show rdM S n [] w0 b = .err 4 by rw [Hrd.out, Hd.out]; exact rdM_err Hal0.out (chg_3 HnS2.out (by rw [← HL.out]; omega) Hv0.out HV1.out))
            clear hQ2 hR5 hR11
            go_wp2
            go_ret3
            exact ⟨fun c h => (by rw [Hres.out] at h; injection h with h; subst h; rfl), fun l q' h => (by rw [Hres.out] at h; cases h), Hbel.out⟩
          have HnS3 := Lib.hid (show ¬ S.length < q + 13 by rw [← HL.out]; omega)
          have HV5 := Lib.hid (Hval.out Q2 5 R5 hR5 (by omega))
          have HV6 := Lib.hid (Hval.out R5 6 R11 (by omega) (by omega))
          have hR57 : R5 = q + 7 := by omega
          have h1 : Q2 ≤ R5 := by omega
          have h2 : (Q2 : Int) ≤ (R5 : Int) := by omega
          have h3 : R5 ≤ R11 := by omega
          have h4 : (R5 : Int) ≤ (R11 : Int) := by omega
          have h5 : R5 ≤ ts.size := by omega
          have h6 : R11 ≤ ts.size := by omega
          have h7 : (R5 : Int) ≤ (L : Int) := by omega
          have h8 : (R11 : Int) ≤ (L : Int) := by omega
          have v5l : vAt S Q2 5 < 32 := vAt_lt S Q2 5
          have v6l : vAt S R5 6 < 64 := vAt_lt S R5 6
          obtain ⟨v5, hv5⟩ : ∃ v5, v5 = vAt S Q2 5 := ⟨_, rfl⟩
          obtain ⟨v6, hv6⟩ : ∃ v6, v6 = vAt S R5 6 := ⟨_, rfl⟩
          rw [← hv5] at HV5 v5l
          rw [← hv6] at HV6 v6l
          rw [hQ2] at hv5
          rw [hR57] at hv6
          have hR13 : R11 = q + 13 := by omega
          have Hv5 := Lib.hid hv5; have Hv6 := Lib.hid hv6; have HR13 := Lib.hid hR13
          have hch := fun h => chg_new (w := ⟨la, lt, ld⟩) (q := q) HnS3.out Hv0.out HV1.out h
          have hck := fun hl h64 hx => chk_new (w := ⟨la, lt, ld⟩) (q := q) (S := S) hl Hv0.out HV1.out h64 hx
          have hfok := fun h => fresh_ok (S := S) (q := q + 2) h
          have hfa := fun h => chg_far (w := ⟨la, lt, ld⟩) (q := q) HnS3.out Hv0.out HV1.out h
          by_cases h60 : v6 = 0
          · have hdd : dAt S (q + 7) = 64 := by unfold dAt; rw [← Hv6.out, if_pos h60]
            subst h60
            by_cases h50 : v5 = 0
            · subst h50
              have hnf : ¬ 64 < vAt S (q + 2) 5 + dAt S (q + 7) := by rw [hdd, ← Hv5.out]; omega
              have hfw : freshW S (q + 2) = ⟨0, 0, 64⟩ := by unfold freshW; rw [show q + 2 + 5 = q + 7 from rfl, hdd, ← Hv5.out]
              have hch2 := hch hnf
              have hck2 := fun hl hx => hck hl hnf hx
              rw [hfw] at hch2
              have Hch := Lib.hid hch2
              have Hck := Lib.hid (show ∀ (X : Nat), X = vAt S (q + 13) 64 * 2 ^ 0 → ¬ S.length < q + 13 + 64 → X ≠ 0 → (pBits (mParts ⟨la, lt, ld⟩ X) = (S.drop q).take (13 + 64) ↔ ¬ badC true ⟨la, lt, ld⟩ ⟨0, 0, 64⟩ X) from fun X hX hl hx => by
                rw [hfw] at hck2
                rw [hX]; exact hck2 hl (by rw [← hX]; exact hx))
              clear hch hck hfok hfa hch2 hck2 hfw hnf hdd hv5 hv6 hQ2 hR5 hR11 hR57 hR13
              go_wp2_with fail
              refine (HV5.out _).mono ?_
              rintro e w' ⟨rfl, rfl⟩
              rw [show ((0 : Nat) : Int) = 0 from rfl]
              go_wp2_with fail
              refine (HV6.out _).mono ?_
              rintro e w' ⟨rfl, rfl⟩
              rw [show ((0 : Nat) : Int) = 0 from rfl]
              obtain ⟨Q, hQ0⟩ : ∃ Q, Q = R11 := ⟨_, rfl⟩
              subst hQ0
              have hQ : Q = q + 13 := HR13.out
              obtain ⟨r, hr⟩ : ∃ r, r = Q + 64 := ⟨_, rfl⟩
              have m2 : IntKind.i64.wrap ((Q : Int) + (64 : Int)) = (r : Int) := by rw [IntKind.wrap_i64]; omega
              rw [← hQ] at Hch Hck
              by_cases c5 : L < r
              · have Hres := Lib.hid (show rdM S n [] w0 b = .err 4 by rw [Hrd.out, Hd.out]; exact rdM_err Hal0.out (by rw [Hch.out]; exact body_none (by rw [← HL.out, ← hr]; exact c5)))
                clear hQ hr
                go_wp2
                go_ret3
                exact ⟨fun c h => (by rw [Hres.out] at h; injection h with h; subst h; rfl), fun l q' h => (by rw [Hres.out] at h; cases h), Hbel.out⟩
              have hnr : ¬ S.length < Q + 64 := by rw [← HL.out, ← hr]; exact c5
              have HnR := Lib.hid hnr; have HQ := Lib.hid hQ; have Hr := Lib.hid hr
              have j1 : Q ≤ r := by omega
              have hqr : q ≤ r := by omega
              have j2 : (Q : Int) ≤ (r : Int) := by omega
              have j3 : r ≤ ts.size := by omega
              have j4 : (r : Int) ≤ (L : Int) := by omega
              have hvl := vAt_lt S Q 64
              have hx2 : vAt S Q 64 * 2 ^ 0 < 18446744073709551616 := by
                have h : vAt S Q 64 * 2 ^ 0 < 2 ^ 64 * 2 ^ 0 := Nat.mul_lt_mul_of_lt_of_le hvl (Nat.le_refl _) (Nat.two_pow_pos _)
                rw [← Nat.pow_add] at h
                exact Nat.lt_of_lt_of_le h (Nat.pow_le_pow_right (n := 2) (by decide) (show 64 + 0 ≤ 64 by omega))
              have Hv := Lib.hid (Hval.out Q 64 r hr (by omega))
              obtain ⟨v, hve⟩ : ∃ v, v = vAt S Q 64 := ⟨_, rfl⟩
              rw [← hve] at hx2 Hv
              have HVE := Lib.hid hve
              clear hnr hQ hr hve hvl
              go_wp2_with fail
              refine (Hv.out _).mono ?_
              rintro e w' ⟨rfl, rfl⟩
              have hgt : ¬ (64 : Int) < 64 := by omega
              have hxz := Lib.hid (show 0 = 0 from rfl)
              go_wp2
              go_loopw [15, 16] (fun xv kv wr' => ∃ (j x : Nat), j ≤ 0 ∧ kv = .int .i64 ((64 + j : Nat) : Int) ∧ xv = .int .u64 (x : Int) ∧ x = v * 2 ^ j ∧ wr' = w') (fun _ kv _ => 64 - (intOf kv).toNat)
              case atStart => exact ⟨0, v, Nat.zero_le _, rfl, rfl, by simp, rfl⟩
              case round =>
                obtain ⟨j, x, hj, rfl, rfl, hx, rfl⟩ := hrel
                have Hx := Lib.hid hx
                clear hx
                by_cases hjt : j < 0
                · exact absurd hjt (Nat.not_lt_zero _)
                · obtain rfl : 0 = j := by omega
                  have hxq : x = vAt S Q 64 * 2 ^ 0 := by rw [Hx.out, HVE.out]
                  have hx4 : x < 18446744073709551616 := by rw [Hx.out]; exact hx2
                  have hxr : bits BinOp.xor IntKind.u64 (y : Int) (x : Int) = ((y ^^^ x : Nat) : Int) := bits_xor_u64_nat y x hyl hx4
                  have hYl : y ^^^ x < 18446744073709551616 := Nat.xor_lt_two_pow (n := 64) hyl hx4
                  have Hxq := Lib.hid hxq
                  clear hxq hx2
                  obtain ⟨Y, hY⟩ : ∃ Y, Y = y ^^^ x := ⟨_, rfl⟩
                  rw [← hY] at hxr hYl
                  have HY := Lib.hid hY
                  have Hsa := Lib.hid (show w.heap.size ≤ (wr.alloc (.cells #[.int .u64 (Y : Int)] 55)).heap.size by simp; omega)
                  have Hall := Lib.hid (show ∀ z ∈ acc ++ [Y], z < 18446744073709551616 from fun z hz => by rcases List.mem_append.1 hz with h | h; exact Hmi.out.lt z h; rw [List.mem_singleton] at h; omega)
                  clear hY
                  by_cases hx0 : x = 0
                  · have hx0' : ((x : Int) == 0) = true := by simp [hx0]
                    have Hres := Lib.hid (show rdM S n [] w0 b = .err 0 by rw [Hrd.out, Hd.out]; exact rdM_err Hal0.out (by rw [Hch.out]; exact body_bad HnR.out (.inl (by rw [← Hxq.out]; exact hx0))))
                    clear hx0
                    go_wp2_with (at_builtin; refine wpList_append_rd _ rfl (.tmp 129) (.tmp 137) _ rfl w.heap.size 55 i0 (.int .u64 0) 1 8 Tryz.underlying97 Hi.out Hz0.out Hz1.out Hz2.out rfl (by decide) _ i _ rfl (Hown.out.alloc _) _ _ 1 1 [.int .u64 (Y : Int)] rfl (Rd.onev wr 55 (.int .u64 (Y : Int))) (u64_oner [Y]) hk63 hk8 Hsa.out ?_; intro v' wa hown' hgr hat; have HQ2 := Lib.hid (rv_append Hown.out Hbel.out hown' hgr); clear hown' hgr hat)
                    go_quiet (fail)
                    go_wp2
                    go_ret3
                    exact ⟨fun c h => (by rw [Hres.out] at h; injection h with h; subst h; rfl), fun l q' h => (by rw [Hres.out] at h; cases h), (by first | exact HQ2.out.2 | exact Below.drewN HQ2.out.2 _)⟩
                  · have hx0' : ((x : Int) == 0) = false := by rw [beq_eq_false_iff_ne]; omega
                    have hbq : b ≤ q := Hmi.out.ble
                    have hex : ts.extract b r = txt ((S.drop b).take (r - b)) := Hsl.out b (r - b) r (by omega)
                    have hiff : maskB (acc ++ [Y]) = (S.drop b).take (r - b) ↔ ¬ badC true ⟨la, lt, ld⟩ ⟨0, 0, 64⟩ x := by
                      rw [← Hck.out x Hxq.out HnR.out hx0, ← Hmi.out.chk Hal0.out x (13 + 64), Hyg.out, ← HY.out, show q + (13 + 64) - b = r - b by have h1 := Hr.out; have h2 := HQ.out; omega]
                    have k1 : b ≤ r := by omega
                    have k2 : (b : Int) ≤ (r : Int) := by omega
                    have hbad := Lib.hid (show badC true ⟨la, lt, ld⟩ ⟨0, 0, 64⟩ x → rdM S n [] w0 b = .err 0 from fun hh => by rw [Hrd.out, Hd.out]; exact rdM_err Hal0.out (by rw [Hch.out]; exact body_bad HnR.out (by rw [← Hxq.out]; exact hh)))
                    have hgood := Lib.hid (show ¬ badC true ⟨la, lt, ld⟩ ⟨0, 0, 64⟩ x → rdM S n [] w0 b = rdM S d (acc ++ [Y]) ⟨0, 0, 64⟩ r ∧ MInv S b (acc ++ [Y]) ⟨0, 0, 64⟩ r from fun hh => by
                      have hc : chg S ⟨la, lt, ld⟩ q = .ok x ⟨0, 0, 64⟩ r := by rw [Hch.out, Hr.out, Hxq.out]; exact body_ok HnR.out (by rw [← Hxq.out]; exact hh)
                      have h2 := Hmi.out.chg Hal0.out hc
                      rw [Hyg.out, ← HY.out] at h2
                      refine ⟨?_, h2⟩
                      rw [Hrd.out, Hd.out, rdM_next Hal0.out hc, Hyg.out, ← HY.out])
                    go_wp2_with (at_builtin; refine wpList_append_rd _ rfl (.tmp 129) (.tmp 137) _ rfl w.heap.size 55 i0 (.int .u64 0) 1 8 Tryz.underlying97 Hi.out Hz0.out Hz1.out Hz2.out rfl (by decide) _ i _ rfl (Hown.out.alloc _) _ _ 1 1 [.int .u64 (Y : Int)] rfl (Rd.onev wr 55 (.int .u64 (Y : Int))) (u64_oner [Y]) hk63 hk8 Hsa.out ?_; intro v' wa hown' hgr hat; have hq2 := rv_append Hown.out Hbel.out hown' hgr; obtain ⟨A9, c9, rfl, _, _, hr9⟩ := own_form hq2.1; have HQ2 := Lib.hid hq2; have HR9 := Lib.hid hr9; clear hown' hgr hat hq2 hr9)
                    by_cases hh : badC true ⟨la, lt, ld⟩ ⟨0, 0, 64⟩ x
                    · have Hres := Lib.hid (hbad.out hh)
                      have hne : ((txt (maskB (acc ++ [Y]))).toList == (ts.extract b r).toList) = false := by rw [beq_eq_false_iff_ne, hex]; exact fun h => hiff.1 (txt_injM h) hh
                      have Hmo := Lib.hid (fun W (hR : Rd W W.heap.size 1 A9 (i + 1) ((acc ++ [Y]).map fun x : Nat => Value.int .u64 (x : Int))) => maskOf_any A9 (i + 1) c9 (acc ++ [Y]) W hR (by omega) Hall.out)
                      generalize txt (maskB (acc ++ [Y])) = mt at hne Hmo
                      clear hh hiff hex
                      go_region_held3 (fun _ => True) (first | trivial)
                        (first | (go_at_call 75; refine (Hmo.out _ (by first | exact HR9.out | exact HR9.out.drew)).mono ?_; rintro e w9 ⟨rfl, hb9⟩; have hb9 := Lib.hid hb9))
                      go_wp2
                      go_ret3
                      exact ⟨fun c h => (by rw [Hres.out] at h; injection h with h; subst h; rfl), fun l q' h => (by rw [Hres.out] at h; cases h), Below.call HQ2.out.2.drew hb9.out (by have := HQ2.out.2.size; simpa using this)⟩
                    · obtain ⟨hg1, hg2⟩ := hgood.out hh
                      have Hres := Lib.hid hg1; have Hmi2 := Lib.hid hg2
                      have heq : txt (maskB (acc ++ [Y])) = ts.extract b r := by rw [hex, hiff.2 hh]
                      have Hmo := Lib.hid (fun W (hR : Rd W W.heap.size 1 A9 (i + 1) ((acc ++ [Y]).map fun x : Nat => Value.int .u64 (x : Int))) => maskOf_any A9 (i + 1) c9 (acc ++ [Y]) W hR (by omega) Hall.out)
                      rw [heq] at Hmo
                      clear hh hiff hex heq hg1 hg2
                      go_region_held3 (fun _ => True) (first | trivial)
                        (first | (go_at_call 75; refine (Hmo.out _ (by first | exact HR9.out | exact HR9.out.drew)).mono ?_; rintro e w9 ⟨rfl, hb9⟩; have hb9 := Lib.hid hb9))
                      go_wp2
                      go_roundw
                      case rel => exact ⟨i + 1, r, acc ++ [Y], ⟨0, 0, 64⟩, by omega, by go_num, rfl, by omega, by rw [List.length_append, Hal.out]; rfl, rfl, rfl, fun h => absurd h (by omega), fun _ => Hmi2.out, by rw [Hd2.out]; exact Hres.out, own_below HQ2.out.1.drew hb9.out (Nat.le_refl _), Below.call HQ2.out.2.drew hb9.out (by have := HQ2.out.2.size; simpa using this)⟩
                      case measure => simp [intOf]; omega
            · have hfar : 64 < vAt S (q + 2) 5 + dAt S (q + 7) := by rw [hdd, ← Hv5.out]; omega
              have Hres := Lib.hid (show rdM S n [] w0 b = .err 0 by rw [Hrd.out, Hd.out]; exact rdM_err Hal0.out (hfa hfar))
              have hff : (64 : Int) < (v5 : Int) + 64 := by omega
              clear hch hck hfok hfa hfar hdd hv5 hv6 hQ2 hR5 hR11 hR57 hR13
              go_wp2_with fail
              refine (HV5.out _).mono ?_
              rintro e w' ⟨rfl, rfl⟩
              go_wp2_with fail
              refine (HV6.out _).mono ?_
              rintro e w' ⟨rfl, rfl⟩
              rw [show ((0 : Nat) : Int) = 0 from rfl]
              go_wp2
              go_ret3
              exact ⟨fun c h => (by rw [Hres.out] at h; injection h with h; subst h; rfl), fun l q' h => (by rw [Hres.out] at h; cases h), Hbel.out⟩
          · have hdd : dAt S (q + 7) = v6 := by unfold dAt; rw [← Hv6.out, if_neg h60]
            have hd0 : ((v6 : Int) == 0) = false := by rw [beq_eq_false_iff_ne]; omega
            by_cases hfar : 64 < v5 + v6
            · have hfar2 : 64 < vAt S (q + 2) 5 + dAt S (q + 7) := by rw [hdd, ← Hv5.out]; omega
              have Hres := Lib.hid (show rdM S n [] w0 b = .err 0 by rw [Hrd.out, Hd.out]; exact rdM_err Hal0.out (hfa hfar2))
              have hff : (64 : Int) < (v5 : Int) + (v6 : Int) := by omega
              clear hch hck hfok hfa hfar hfar2 hdd hv5 hv6 hQ2 hR5 hR11 hR57 hR13
              go_wp2_with fail
              refine (HV5.out _).mono ?_
              rintro e w' ⟨rfl, rfl⟩
              go_wp2_with fail
              refine (HV6.out _).mono ?_
              rintro e w' ⟨rfl, rfl⟩
              go_wp2
              go_ret3
              exact ⟨fun c h => (by rw [Hres.out] at h; injection h with h; subst h; rfl), fun l q' h => (by rw [Hres.out] at h; cases h), Hbel.out⟩
            · obtain ⟨vt, hvt⟩ : ∃ vt, vt = 64 - v5 - v6 := ⟨_, rfl⟩
              have hnf : ¬ 64 < vAt S (q + 2) 5 + dAt S (q + 7) := by rw [hdd, ← Hv5.out]; omega
              have hfw : freshW S (q + 2) = ⟨v5, vt, v6⟩ := by unfold freshW; rw [show q + 2 + 5 = q + 7 from rfl, hdd, ← Hv5.out, hvt]
              have hch2 := hch hnf
              have hck2 := fun hl hx => hck hl hnf hx
              rw [hfw] at hch2
              have Hch := Lib.hid hch2
              have Hck := Lib.hid (show ∀ (X : Nat), X = vAt S (q + 13) v6 * 2 ^ vt → ¬ S.length < q + 13 + v6 → X ≠ 0 → (pBits (mParts ⟨la, lt, ld⟩ X) = (S.drop q).take (13 + v6) ↔ ¬ badC true ⟨la, lt, ld⟩ ⟨v5, vt, v6⟩ X) from fun X hX hl hx => by
                rw [hfw] at hck2
                rw [hX]; exact hck2 hl (by rw [← hX]; exact hx))
              have ok3 : v5 + vt + v6 = 64 := by omega
              have ok2 : 1 ≤ v6 := by omega
              have hff : ¬ (64 : Int) < (v5 : Int) + (v6 : Int) := by omega
              clear hch hck hfok hfa hch2 hck2 hfw hnf hdd hv5 hv6 hQ2 hR5 hR11 hR57 hR13 hvt
              go_wp2_with fail
              refine (HV5.out _).mono ?_
              rintro e w' ⟨rfl, rfl⟩
              go_wp2_with fail
              refine (HV6.out _).mono ?_
              rintro e w' ⟨rfl, rfl⟩
              obtain ⟨Q, hQ0⟩ : ∃ Q, Q = R11 := ⟨_, rfl⟩
              subst hQ0
              have hQ : Q = q + 13 := HR13.out
              obtain ⟨r, hr⟩ : ∃ r, r = Q + v6 := ⟨_, rfl⟩
              have m2 : IntKind.i64.wrap ((Q : Int) + (v6 : Int)) = (r : Int) := by rw [IntKind.wrap_i64]; omega
              rw [← hQ] at Hch Hck
              by_cases c5 : L < r
              · have Hres := Lib.hid (show rdM S n [] w0 b = .err 4 by rw [Hrd.out, Hd.out]; exact rdM_err Hal0.out (by rw [Hch.out]; exact body_none (by rw [← HL.out, ← hr]; exact c5)))
                clear hQ hr
                go_wp2
                go_ret3
                exact ⟨fun c h => (by rw [Hres.out] at h; injection h with h; subst h; rfl), fun l q' h => (by rw [Hres.out] at h; cases h), Hbel.out⟩
              have hnr : ¬ S.length < Q + v6 := by rw [← HL.out, ← hr]; exact c5
              have HnR := Lib.hid hnr; have HQ := Lib.hid hQ; have Hr := Lib.hid hr
              have j1 : Q ≤ r := by omega
              have hqr : q ≤ r := by omega
              have j2 : (Q : Int) ≤ (r : Int) := by omega
              have j3 : r ≤ ts.size := by omega
              have j4 : (r : Int) ≤ (L : Int) := by omega
              have hvl := vAt_lt S Q v6
              have hx2 : vAt S Q v6 * 2 ^ vt < 18446744073709551616 := by
                have h : vAt S Q v6 * 2 ^ vt < 2 ^ v6 * 2 ^ vt := Nat.mul_lt_mul_of_lt_of_le hvl (Nat.le_refl _) (Nat.two_pow_pos _)
                rw [← Nat.pow_add] at h
                exact Nat.lt_of_lt_of_le h (Nat.pow_le_pow_right (n := 2) (by decide) (show v6 + vt ≤ 64 by omega))
              have Hv := Lib.hid (Hval.out Q v6 r hr (by omega))
              obtain ⟨v, hve⟩ : ∃ v, v = vAt S Q v6 := ⟨_, rfl⟩
              rw [← hve] at hx2 Hv
              have HVE := Lib.hid hve
              clear hnr hQ hr hve hvl
              go_wp2_with fail
              refine (Hv.out _).mono ?_
              rintro e w' ⟨rfl, rfl⟩
              obtain ⟨A, hA⟩ : ∃ A, A = v5 + v6 := ⟨_, rfl⟩
              have m3 : IntKind.i64.wrap ((v5 : Int) + (v6 : Int)) = (A : Int) := by rw [IntKind.wrap_i64]; omega
              have hA64 : A + vt = 64 := by omega
              have hgt : ¬ (64 : Int) < (A : Int) := by omega
              have hxz := Lib.hid (show vt = vt from rfl)
              clear hA
              go_wp2
              go_loopw [15, 16] (fun xv kv wr' => ∃ (j x : Nat), j ≤ vt ∧ kv = .int .i64 ((A + j : Nat) : Int) ∧ xv = .int .u64 (x : Int) ∧ x = v * 2 ^ j ∧ wr' = w') (fun _ kv _ => 64 - (intOf kv).toNat)
              case atStart => exact ⟨0, v, Nat.zero_le _, rfl, rfl, by simp, rfl⟩
              case round =>
                obtain ⟨j, x, hj, rfl, rfl, hx, rfl⟩ := hrel
                have Hx := Lib.hid hx
                clear hx
                by_cases hjt : j < vt
                · have hle : 2 * x ≤ v * 2 ^ vt := by
                    have h1 : v * 2 ^ (j + 1) ≤ v * 2 ^ vt := Nat.mul_le_mul_left _ (Nat.pow_le_pow_right (by decide) hjt)
                    rw [Nat.pow_succ, ← Nat.mul_assoc, ← Hx.out] at h1
                    omega
                  have hx3 : 2 * x < 18446744073709551616 := by omega
                  have Hn := Lib.hid (show 2 * x = v * 2 ^ (j + 1) by rw [Nat.pow_succ, ← Nat.mul_assoc, ← Hx.out]; omega)
                  clear hle hx2
                  go_wp2
                  go_roundw
                  case rel => exact ⟨j + 1, 2 * x, hjt, by go_num, by go_num, Hn.out, trivial⟩
                  case measure => simp [intOf]; omega
                · obtain rfl : vt = j := by omega
                  have hxq : x = vAt S Q v6 * 2 ^ vt := by rw [Hx.out, HVE.out]
                  have hx4 : x < 18446744073709551616 := by rw [Hx.out]; exact hx2
                  have hxr : bits BinOp.xor IntKind.u64 (y : Int) (x : Int) = ((y ^^^ x : Nat) : Int) := bits_xor_u64_nat y x hyl hx4
                  have hYl : y ^^^ x < 18446744073709551616 := Nat.xor_lt_two_pow (n := 64) hyl hx4
                  have Hxq := Lib.hid hxq
                  clear hxq hx2
                  obtain ⟨Y, hY⟩ : ∃ Y, Y = y ^^^ x := ⟨_, rfl⟩
                  rw [← hY] at hxr hYl
                  have HY := Lib.hid hY
                  have Hsa := Lib.hid (show w.heap.size ≤ (wr.alloc (.cells #[.int .u64 (Y : Int)] 55)).heap.size by simp; omega)
                  have Hall := Lib.hid (show ∀ z ∈ acc ++ [Y], z < 18446744073709551616 from fun z hz => by rcases List.mem_append.1 hz with h | h; exact Hmi.out.lt z h; rw [List.mem_singleton] at h; omega)
                  clear hY
                  by_cases hx0 : x = 0
                  · have hx0' : ((x : Int) == 0) = true := by simp [hx0]
                    have Hres := Lib.hid (show rdM S n [] w0 b = .err 0 by rw [Hrd.out, Hd.out]; exact rdM_err Hal0.out (by rw [Hch.out]; exact body_bad HnR.out (.inl (by rw [← Hxq.out]; exact hx0))))
                    clear hx0
                    go_wp2_with (at_builtin; refine wpList_append_rd _ rfl (.tmp 129) (.tmp 137) _ rfl w.heap.size 55 i0 (.int .u64 0) 1 8 Tryz.underlying97 Hi.out Hz0.out Hz1.out Hz2.out rfl (by decide) _ i _ rfl (Hown.out.alloc _) _ _ 1 1 [.int .u64 (Y : Int)] rfl (Rd.onev wr 55 (.int .u64 (Y : Int))) (u64_oner [Y]) hk63 hk8 Hsa.out ?_; intro v' wa hown' hgr hat; have HQ2 := Lib.hid (rv_append Hown.out Hbel.out hown' hgr); clear hown' hgr hat)
                    go_quiet (fail)
                    go_wp2
                    go_ret3
                    exact ⟨fun c h => (by rw [Hres.out] at h; injection h with h; subst h; rfl), fun l q' h => (by rw [Hres.out] at h; cases h), (by first | exact HQ2.out.2 | exact Below.drewN HQ2.out.2 _)⟩
                  · have hx0' : ((x : Int) == 0) = false := by rw [beq_eq_false_iff_ne]; omega
                    have hbq : b ≤ q := Hmi.out.ble
                    have hex : ts.extract b r = txt ((S.drop b).take (r - b)) := Hsl.out b (r - b) r (by omega)
                    have hiff : maskB (acc ++ [Y]) = (S.drop b).take (r - b) ↔ ¬ badC true ⟨la, lt, ld⟩ ⟨v5, vt, v6⟩ x := by
                      rw [← Hck.out x Hxq.out HnR.out hx0, ← Hmi.out.chk Hal0.out x (13 + v6), Hyg.out, ← HY.out, show q + (13 + v6) - b = r - b by have h1 := Hr.out; have h2 := HQ.out; omega]
                    have k1 : b ≤ r := by omega
                    have k2 : (b : Int) ≤ (r : Int) := by omega
                    have hbad := Lib.hid (show badC true ⟨la, lt, ld⟩ ⟨v5, vt, v6⟩ x → rdM S n [] w0 b = .err 0 from fun hh => by rw [Hrd.out, Hd.out]; exact rdM_err Hal0.out (by rw [Hch.out]; exact body_bad HnR.out (by rw [← Hxq.out]; exact hh)))
                    have hgood := Lib.hid (show ¬ badC true ⟨la, lt, ld⟩ ⟨v5, vt, v6⟩ x → rdM S n [] w0 b = rdM S d (acc ++ [Y]) ⟨v5, vt, v6⟩ r ∧ MInv S b (acc ++ [Y]) ⟨v5, vt, v6⟩ r from fun hh => by
                      have hc : chg S ⟨la, lt, ld⟩ q = .ok x ⟨v5, vt, v6⟩ r := by rw [Hch.out, Hr.out, Hxq.out]; exact body_ok HnR.out (by rw [← Hxq.out]; exact hh)
                      have h2 := Hmi.out.chg Hal0.out hc
                      rw [Hyg.out, ← HY.out] at h2
                      refine ⟨?_, h2⟩
                      rw [Hrd.out, Hd.out, rdM_next Hal0.out hc, Hyg.out, ← HY.out])
                    go_wp2_with (at_builtin; refine wpList_append_rd _ rfl (.tmp 129) (.tmp 137) _ rfl w.heap.size 55 i0 (.int .u64 0) 1 8 Tryz.underlying97 Hi.out Hz0.out Hz1.out Hz2.out rfl (by decide) _ i _ rfl (Hown.out.alloc _) _ _ 1 1 [.int .u64 (Y : Int)] rfl (Rd.onev wr 55 (.int .u64 (Y : Int))) (u64_oner [Y]) hk63 hk8 Hsa.out ?_; intro v' wa hown' hgr hat; have hq2 := rv_append Hown.out Hbel.out hown' hgr; obtain ⟨A9, c9, rfl, _, _, hr9⟩ := own_form hq2.1; have HQ2 := Lib.hid hq2; have HR9 := Lib.hid hr9; clear hown' hgr hat hq2 hr9)
                    by_cases hh : badC true ⟨la, lt, ld⟩ ⟨v5, vt, v6⟩ x
                    · have Hres := Lib.hid (hbad.out hh)
                      have hne : ((txt (maskB (acc ++ [Y]))).toList == (ts.extract b r).toList) = false := by rw [beq_eq_false_iff_ne, hex]; exact fun h => hiff.1 (txt_injM h) hh
                      have Hmo := Lib.hid (fun W (hR : Rd W W.heap.size 1 A9 (i + 1) ((acc ++ [Y]).map fun x : Nat => Value.int .u64 (x : Int))) => maskOf_any A9 (i + 1) c9 (acc ++ [Y]) W hR (by omega) Hall.out)
                      generalize txt (maskB (acc ++ [Y])) = mt at hne Hmo
                      clear hh hiff hex
                      go_region_held3 (fun _ => True) (first | trivial)
                        (first | (go_at_call 75; refine (Hmo.out _ (by first | exact HR9.out | exact HR9.out.drew)).mono ?_; rintro e w9 ⟨rfl, hb9⟩; have hb9 := Lib.hid hb9))
                      go_wp2
                      go_ret3
                      exact ⟨fun c h => (by rw [Hres.out] at h; injection h with h; subst h; rfl), fun l q' h => (by rw [Hres.out] at h; cases h), Below.call HQ2.out.2.drew hb9.out (by have := HQ2.out.2.size; simpa using this)⟩
                    · obtain ⟨hg1, hg2⟩ := hgood.out hh
                      have Hres := Lib.hid hg1; have Hmi2 := Lib.hid hg2
                      have heq : txt (maskB (acc ++ [Y])) = ts.extract b r := by rw [hex, hiff.2 hh]
                      have Hmo := Lib.hid (fun W (hR : Rd W W.heap.size 1 A9 (i + 1) ((acc ++ [Y]).map fun x : Nat => Value.int .u64 (x : Int))) => maskOf_any A9 (i + 1) c9 (acc ++ [Y]) W hR (by omega) Hall.out)
                      rw [heq] at Hmo
                      clear hh hiff hex heq hg1 hg2
                      go_region_held3 (fun _ => True) (first | trivial)
                        (first | (go_at_call 75; refine (Hmo.out _ (by first | exact HR9.out | exact HR9.out.drew)).mono ?_; rintro e w9 ⟨rfl, hb9⟩; have hb9 := Lib.hid hb9))
                      go_wp2
                      go_roundw
                      case rel => exact ⟨i + 1, r, acc ++ [Y], ⟨v5, vt, v6⟩, by omega, by go_num, rfl, by omega, by rw [List.length_append, Hal.out]; rfl, rfl, rfl, fun h => absurd h (by omega), fun _ => Hmi2.out, by rw [Hd2.out]; exact Hres.out, own_below HQ2.out.1.drew hb9.out (Nat.le_refl _), Below.call HQ2.out.2.drew hb9.out (by have := HQ2.out.2.size; simpa using this)⟩
                      case measure => simp [intOf]; omega
    · obtain rfl : i = n := by omega
      have Hres := Lib.hid (show rdM S i [] w0 b = .ok acc q by rw [Hrd.out, Nat.sub_self]; rfl)
      have hbq : b ≤ q := by
        by_cases h0 : i = 0
        · exact Nat.le_of_eq (Hi0s.out h0).1.symm
        · exact (Hinv.out (by omega)).ble
      have n1 : IntKind.i64.wrap ((q : Int) - (b : Int)) = ((q - b : Nat) : Int) := by rw [IntKind.wrap_i64]; omega
      go_wp2
      go_ret3
      refine ⟨fun c h => (by rw [Hres.out] at h; cases h), fun l q' h => ?_, Hbel.out⟩
      rw [Hres.out] at h
      injection h with h1 h2
      subst h1; subst h2
      exact ⟨_, rfl, Hown.out⟩
end Go.Proofs.YtpbgonpmpjpljaaGreatDoor
