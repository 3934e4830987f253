/- The reference's numberOf: it answers as block.number does. -/
import Derived.Test.YtfkklcmepcocoaaGreatDoorMkjP
import Derived.Test.YtfkklcmepcocoaaGreatDoorMklP
import Derived.Deep.DeepCutAuto
import Derived.Deep.Light
import Derived.Test.YtfkklcmepcocoaaGreatDoorMknP
namespace Go.Proofs.YtfkklcmepcocoaaGreatDoor
open Go.RowKit
set_option linter.unusedVariables false

theorem numB_some {s : Bs} {n : Int} (h : numB s = some n) : s.length ≤ 15 ∧ Lib.itoa n = s := by
  unfold numB at h
  split at h
  · split at h
    · rename_i h2
      injection h with h
      subst h
      exact h2
    · cases h
  · cases h
theorem atoiO_it {n : Int} (h : n.natAbs < 10 ^ 17) : atoiO (Lib.itoa n) = some n := by unfold atoiO; rw [atoiAll_itoa h]
theorem numB_itoa {s : Bs} {n : Int} (hl : s.length ≤ 15) (h : Lib.itoa n = s) (hn : n.natAbs < 10 ^ 17) : numB s = some n := by
  subst h
  unfold numB
  rw [atoiO_it hn]
  exact if_pos ⟨hl, rfl⟩
theorem numB_zero : numB [] = none := by
  cases h : numB [] with
  | none => rfl
  | some n =>
    have h1 := itoa_ne n
    rw [(numB_some h).2] at h1
    simp at h1
theorem numB_long {s : Bs} (h : ¬ s.length ≤ 15) : numB s = none := by
  cases h1 : numB s with
  | none => rfl
  | some n => exact absurd (numB_some h1).1 h
theorem numB_char {s : Bs} {j : Nat} {c : UInt8} (hc : (digB s)[j]? = some c) (h : ¬ (48 ≤ c.toNat ∧ c.toNat ≤ 57)) : numB s = none := by
  cases h1 : numB s with
  | none => rfl
  | some n =>
    exfalso
    have h2 := (digB_itoa n).1
    rw [(numB_some h1).2] at h2
    exact h (decDigits_chars n.natAbs c (by rw [← h2]; exact List.mem_of_getElem? hc))
/-- The number that digits behind a sign spell is the text's, or the text is none. -/
theorem numB_num {s : Bs} {m : Nat} {mi : Bool} (hm : mi = decide (s.getD 0 0 = 45)) (hl : s.length ≤ 15) (h : Lib.decFrom 0 (digB s) = some m) (hb : m < 10 ^ 16) :
    (Lib.itoa (sgn mi m) = s → numB s = some (sgn mi m)) ∧ (Lib.itoa (sgn mi m) ≠ s → numB s = none) := by
  refine ⟨fun h1 => numB_itoa hl h1 (by unfold sgn; split <;> omega), fun h1 => ?_⟩
  cases h2 : numB s with
  | none => rfl
  | some n =>
    exfalso
    have h3 := (numB_some h2).2
    refine h1 ?_
    rw [← h3] at hm h
    rw [body_num hm h]
    exact h3
theorem rn_small {gl : Bs} {j m : Nat} (h : Lib.decFrom 0 (gl.take j) = some m) (hl : gl.length ≤ 15) : m < 10000000000000000 := by
  have h1 := decFrom_lt _ _ _ h
  have h2 : (gl.take j).length ≤ 15 := by rw [List.length_take]; omega
  have h3 : 10 ^ (gl.take j).length ≤ 10 ^ 15 := Nat.pow_le_pow_right (by decide) h2
  omega
theorem sgn_abs (mi : Bool) {m : Nat} (h : m < 10000000000000000) : (sgn mi m).natAbs < 10 ^ 17 := by unfold sgn; split <;> omega
theorem sgn_i64 (mi : Bool) {m : Nat} (h : m < 10000000000000000) : i64B (sgn mi m) := by unfold sgn i64B; split <;> omega
theorem sgn_t (m : Nat) : sgn true m = -(m : Int) := rfl
theorem sgn_f (m : Nat) : sgn false m = (m : Int) := rfl
theorem digB_len (s : Bs) : (digB s).length ≤ s.length := by
  unfold digB
  split
  · rw [List.length_drop]; omega
  · exact Nat.le_refl _
theorem i64B_0 : i64B 0 := by unfold i64B; omega
set_option maxRecDepth 100000 in
set_option maxHeartbeats 4000000 in
theorem rnum_any (s : Bs) (hl : s.length ≤ 100000) (w : World) : Calls Tryz.prog 74 #[.string (B8 s)] w fun e w' => NumPost s w e w' := by
  have hsz : (B8 s).size = s.length := B8_size s
  have Hat := Lib.hid (fun i (h : i < (B8 s).size) => show ((B8 s)[i]).toNat = (s.getD i 0).toNat from B8_at s i h)
  have Hex1 := Lib.hid (show (B8 s).extract 1 (B8 s).size = B8 (s.drop 1) by rw [B8_extract, hsz, List.take_length])
  have Hst := Lib.hid (show (B8 s).toList = s from B8_toList s)
  obtain ⟨n, hn⟩ : ∃ n, n = s.length := ⟨_, rfl⟩
  rw [← hn] at hsz hl
  have Hn := Lib.hid hn
  generalize hst : B8 s = st at hsz Hat Hex1 Hst ⊢
  have Hst2 := Lib.hid hst
  clear hn hst
  by_cases h1 : n < 1
  · have h1' : (n : Int) < 1 := by omega
    have Hr := Lib.hid (show numB s = none by
      have : s = [] := List.eq_nil_of_length_eq_zero (by rw [← Hn.out]; omega)
      rw [this]; exact numB_zero)
    clear h1
    go_enter Tryz.func74, Tryz.ntmps74
    go_wp2
    go_ret2
    exact NumPost.no Hr.out i64B_0 (Below.refl _ _)
  have h1' : ¬ (n : Int) < 1 := by omega
  by_cases h15 : 15 < n
  · have h15' : (15 : Int) < n := by omega
    have Hr := Lib.hid (numB_long (s := s) (by rw [← Hn.out]; omega))
    clear h15
    go_enter Tryz.func74, Tryz.ntmps74
    go_wp2
    go_ret2
    exact NumPost.no Hr.out i64B_0 (Below.refl _ _)
  have h15' : ¬ (15 : Int) < n := by omega
  have hs0 : 0 < st.size := by omega
  have z0 := Hat.out 0 hs0
  obtain ⟨c0, hc0⟩ : ∃ c0, c0 = s.getD 0 0 := ⟨_, rfl⟩
  rw [← hc0] at z0
  have hc0l := c0.toNat_lt
  obtain ⟨mi, hmi⟩ : ∃ mi, ((c0.toNat : Int) == 45) = mi := ⟨_, rfl⟩
  have Hmi := Lib.hid (show mi = decide (s.getD 0 0 = 45) by
    rw [← hmi, ← hc0]
    rw [Bool.eq_iff_iff, beq_iff_eq, decide_eq_true_iff]
    constructor
    · intro h; exact UInt8.toNat_inj.1 (show c0.toNat = 45 by omega)
    · intro h; rw [h]; rfl)
  clear hc0
  have hgs : (B8 (digB s)).size = (digB s).length := B8_size _
  have Hga := Lib.hid (fun i (h : i < (B8 (digB s)).size) => show ((B8 (digB s))[i]).toNat = ((digB s).getD i 0).toNat from B8_at (digB s) i h)
  have hgl15 : (digB s).length ≤ 15 := by have := digB_len s; rw [← Hn.out] at this; omega
  obtain ⟨gl, hgl⟩ : ∃ gl, gl = digB s := ⟨_, rfl⟩
  have Hgl := Lib.hid hgl
  rw [← hgl] at hgs Hga hgl15
  obtain ⟨gn, hgn⟩ : ∃ gn, gn = gl.length := ⟨_, rfl⟩
  rw [← hgn] at hgs hgl15
  have Hgn := Lib.hid hgn
  obtain ⟨sg, hsg⟩ : ∃ sg, sg = B8 gl := ⟨_, rfl⟩
  rw [← hsg] at hgs Hga
  have Hsg := Lib.hid hsg
  have Hdec := Lib.hid (fun (v : Int) (h1 : v.natAbs < 10 ^ 17) W => by
    have := decimal_any v W (by omega) (by omega)
    rwa [decZ_itoa (Nat.lt_of_lt_of_le h1 (by decide))] at this)
  clear hgl hgn hsg h1 h15
  have Hsub := Lib.hid (show (mi = true → st.extract 1 st.size = sg) ∧ (mi = false → st = sg) from ⟨fun h => by
      rw [Hex1.out, Hsg.out, Hgl.out, digB_45]
      have := Hmi.out
      rw [h] at this
      simpa using this.symm, fun h => by
      rw [← Hst2.out, Hsg.out, Hgl.out, digB_no]
      have := Hmi.out
      rw [h] at this
      simpa using this.symm⟩)
  have hn1 : 1 ≤ st.size := by omega
  have Hnum := Lib.hid (fun m (h : Lib.decFrom 0 gl = some m) (hb : m < 10000000000000000) => show (Lib.itoa (sgn mi m) = s → numB s = some (sgn mi m)) ∧ (Lib.itoa (sgn mi m) ≠ s → numB s = none) ∧ i64B (sgn mi m) ∧ ∀ W, Calls Tryz.prog 85 #[.int .i64 (sgn mi m)] W fun e w' => e = .returned (.string (B8 (Lib.itoa (sgn mi m)))) ∧ Below W.heap.size W w' from by
    obtain ⟨h1, h2⟩ := numB_num Hmi.out (by rw [← Hn.out]; omega) (by rw [← Hgl.out]; exact h) hb
    exact ⟨h1, h2, sgn_i64 mi hb, Hdec.out _ (sgn_abs mi hb)⟩)
  have Hbad := Lib.hid (fun (j : Nat) (c : UInt8) (hc : gl[j]? = some c) (h : ¬ (48 ≤ c.toNat ∧ c.toNat ≤ 57)) => numB_char (s := s) (by rw [← Hgl.out]; exact hc) h)
  have hgg : gn ≤ 15 := hgl15
  cases mi
  case' true =>
    have hex := Hsub.out.1 rfl
    rw [hsz] at hex
  case' false =>
    have hsg2 := Hsub.out.2 rfl
    subst hsg2
    have hnn : gn = n := hgs.symm.trans hsz
    subst hnn
    clear hsz
  all_goals
    clear Hsub
    go_enter Tryz.func74, Tryz.ntmps74
    go_wp2
    have Hz0 := Lib.hid z0; have Hm0 := Lib.hid hmi
    clear z0 hmi
    try clear hex
    go_loopw [5, 6] (fun nv iv wr => ∃ (j m : Nat), j ≤ gn ∧ iv = .int .i64 j ∧ nv = .int .i64 m ∧ Lib.decFrom 0 (gl.take j) = some m ∧ wr = w) (fun _ iv _ => gn - (intOf iv).toNat)
    case atStart => exact ⟨0, 0, Nat.zero_le _, rfl, rfl, rfl, rfl⟩
    case round =>
      obtain ⟨j, m, hj, rfl, rfl, hm, rfl⟩ := hrel
      have hmlt := rn_small hm (by rw [← Hgn.out]; exact hgg)
      by_cases hjn : j < gn
      · have hjn' := nlt_i hjn
        have hj1 := hjn
        rw [← hgs] at hj1
        have w0 := Hga.out j hj1
        obtain ⟨c4, hc4⟩ : ∃ c4, gl[j]? = some c4 := ⟨_, List.getElem?_eq_getElem (by rw [← Hgn.out]; exact hjn)⟩
        have hgc : gl.getD j 0 = c4 := by rw [List.getD_eq_getElem?_getD, hc4]; rfl
        rw [hgc] at w0
        have h4l := c4.toNat_lt
        have Hm := Lib.hid hm
        have Hc4 := Lib.hid hc4
        clear hm hc4 hgc
        rcases c_cases c4.toNat with ⟨h48, h48'⟩ | ⟨h48, h48', h57, h57'⟩ | ⟨h48n, h57n, h48', h57', h48i, h57i⟩
        · have Hno := Lib.hid (Hbad.out j c4 Hc4.out (fun h => absurd h.1 (Nat.not_le.2 h48)))
          go_wp2
          go_ret2
          exact NumPost.no Hno.out i64B_0 (Below.refl _ _)
        · have Hno := Lib.hid (Hbad.out j c4 Hc4.out (fun h => absurd h.2 (Nat.not_le.2 h57)))
          go_wp2
          go_ret2
          exact NumPost.no Hno.out i64B_0 (Below.refl _ _)
        · have Hnx := Lib.hid (decFrom_snoc Hc4.out Hm.out h48n h57n)
          have Hdn := Lib.hid (dec_next (m := m) h48n)
          go_wp2
          go_roundw
          case rel =>
            go_light
            exact ⟨j + 1, 10 * m + (c4.toNat - 48), by omega, by go_num, by rw [Hdn.out], Hnx.out, by first | rfl | trivial⟩
          case measure =>
            go_light
            simp [intOf]; omega
      · obtain rfl : j = gn := Nat.le_antisymm hj (Nat.not_lt.1 hjn)
        have htk : gl.take j = gl := List.take_of_length_le (by rw [← Hgn.out]; exact Nat.le_refl _)
        rw [htk] at hm
        obtain ⟨hyes, hno, hvi, hd⟩ := Hnum.out m hm hmlt
        simp only [sgn_t, sgn_f] at hyes hno hvi hd
        have Hyes := Lib.hid hyes; have Hno := Lib.hid hno; have Hvi := Lib.hid hvi; have Hd := Lib.hid hd
        clear htk hm hyes hno hvi hd Hnum
        have z0 := Hz0.out; have hmi := Hm0.out
        go_wp2_with fail
        refine (Hd.out _).mono ?_
        rintro e w5 ⟨rfl, hb⟩
        have HB := Lib.hid hb
        clear hb
        generalize hv : Lib.itoa _ = iv at Hyes Hno ⊢
        have hi2 : (B8 iv).toList = iv := B8_toList iv
        by_cases heq : iv = s
        · have e1 : ((B8 iv).toList == st.toList) = true := by rw [hi2, Hst.out, heq]; exact beq_self_eq_true s
          have Hr := Lib.hid (Hyes.out heq)
          generalize B8 iv = it at e1 ⊢
          clear heq hi2 hv
          go_wp2
          go_ret2
          exact NumPost.yes Hr.out Hvi.out HB.out
        · have e1 : ((B8 iv).toList == st.toList) = false := by rw [hi2, Hst.out, beq_eq_false_iff_ne]; exact heq
          have Hr := Lib.hid (Hno.out heq)
          generalize B8 iv = it at e1 ⊢
          clear heq hi2 hv
          go_wp2
          go_ret2
          exact NumPost.no Hr.out Hvi.out HB.out
end Go.Proofs.YtfkklcmepcocoaaGreatDoor

namespace Go.Proofs.YtfkklcmepcocoaaGreatDoor
open Go.RowKit
set_option linter.unusedVariables false

theorem join_pcs (c : UInt8) : ∀ s : Bs, Lib.join (pcs c s) [c] = s
  | [] => by rw [pcs, Lib.join_one]
  | x :: r => by
    have ih := join_pcs c r
    rw [pcs]
    split
    · rename_i h
      subst h
      cases hp : pcs x r with
      | nil => exact absurd hp (pcs_ne x r)
      | cons p l =>
        rw [hp, Lib.join_cons] at ih
        rw [Lib.join_cons, ← ih]
        simp [Lib.joinTail]
    · split
      · rename_i h0; exact absurd h0 (pcs_ne c r)
      · rename_i p l h0
        rw [h0, Lib.join_cons] at ih
        rw [Lib.join_cons, List.cons_append, ih]
theorem hed_text {p : Bs} {f sp m : Int} (h : hedB p = some (f, sp, m)) : p = blkW_ ++ Lib.itoa f ++ [32] ++ Lib.itoa sp ++ [32] ++ Lib.itoa m := by
  have hj := join_pcs 32 p
  unfold hedB at h
  split at h
  · rename_i a b c d hp
    rw [hp] at hj
    split at h
    · rename_i ha
      split at h
      · rename_i x y z hx hy hz
        injection h with h
        injection h with h1 h
        injection h with h2 h3
        subst h1; subst h2; subst h3
        rw [(numB_some hx).2, (numB_some hy).2, (numB_some hz).2, ← hj, ha]
        simp [Lib.join_cons, Lib.joinTail, wBlk, blkW_]
      · cases h
    · cases h
  · cases h
theorem hexS_cons (c : UInt8) (s : Bs) : hexS (c :: s) = hexD (c.toNat / 16) :: hexD (c.toNat % 16) :: hexS s := rfl
theorem unhex_hex : ∀ (k : Nat) (s o : Bs), s.length ≤ k → unhexB s = some o → hexS o = s
  | 0, s, o, hk, h => by
    have : s = [] := List.eq_nil_of_length_eq_zero (by omega)
    subst this
    rw [unhexB] at h
    injection h with h; subst h; rfl
  | k + 1, [], o, hk, h => by rw [unhexB] at h; injection h with h; subst h; rfl
  | k + 1, [_], o, hk, h => by rw [unhexB] at h; cases h
  | k + 1, a :: b :: r, o, hk, h => by
    rw [unhex_two] at h
    cases hx : hexV a with
    | none => simp only [hx] at h; cases h
    | some x =>
      cases hy : hexV b with
      | none => simp only [hx, hy] at h; cases h
      | some y =>
        simp only [hx, hy] at h
        cases hr : unhexB r with
        | none => simp only [hr] at h; cases h
        | some p =>
          simp only [hr, Option.map_some] at h
          injection h with h
          subst h
          have ih := unhex_hex k r p (by simp at hk; omega) hr
          have x16 := hexV_lt hx
          have y16 := hexV_lt hy
          have e : (UInt8.ofNat (16 * x + y)).toNat = 16 * x + y := by rw [UInt8.toNat_ofNat']; omega
          rw [hexS_cons, ih, e, show (16 * x + y) / 16 = x by omega, show (16 * x + y) % 16 = y by omega, ← hexV_inv hx, ← hexV_inv hy]
theorem map_nat (o : Bs) : (o.map UInt8.toNat).map UInt8.ofNat = o := by
  rw [List.map_map]
  conv => rhs; rw [← List.map_id o]
  apply List.map_congr_left
  intro c _
  simp
theorem line_text {t : Bs} {x : Bs × List Nat} (h : lineR t = some x) : lineB x = t := by
  unfold lineR at h
  cases hc : cutG 32 t with
  | none => rw [hc] at h; cases h
  | some q =>
    rw [hc] at h
    simp only at h
    cases hu : unhexB q.2 with
    | none => rw [hu] at h; cases h
    | some o =>
      rw [hu] at h
      injection h with h
      subst h
      unfold lineB
      simp only
      rw [map_nat, unhex_hex _ _ _ (Nat.le_refl _) hu]
      exact (cutG_some hc).1.symm
theorem lines_text : ∀ {l : List Bs} {K : List (Bs × List Nat)}, linesR l = some K → K.map lineB = l ∧ K.length = l.length
  | [], K, h => by
    simp only [linesR] at h
    injection h with h
    subst h
    exact ⟨rfl, rfl⟩
  | t :: l, K, h => by
    rw [linesR_cons] at h
    cases hl : lineR t with
    | none => simp only [hl] at h; cases h
    | some y =>
      simp only [hl] at h
      cases hr : linesR l with
      | none => simp only [hr] at h; cases h
      | some L =>
        simp only [hr, Option.map_some] at h
        injection h with h
        subst h
        have ih := lines_text hr
        rw [List.map_cons, line_text hl, ih.1, List.length_cons, List.length_cons, ih.2]
        exact ⟨rfl, rfl⟩
/-- What a text that is a block holds. -/
theorem readB_inv {s : Bs} (h : (readB s).1.1 = 0) : ∃ f sp L, readB s = ((0, -1), (f, sp), L) ∧ (rowsR f sp (L.map Prod.fst) (L.map Prod.snd)).1.1 = 0 ∧ textB f sp L = s ∧ s.length ≤ 20000 ∧
    hedB ((pcs 10 s).headD []) = some (f, sp, ((pcs 10 s).length : Int) - 2) ∧ linesR (midR s) = some L := by
  unfold readB at h
  split at h
  · cases h
  rename_i hl
  split at h
  · cases h
  rename_i f sp m hh
  split at h
  case isFalse => cases h
  rename_i he
  split at h
  · cases h
  rename_i L hL
  split at h
  case isFalse =>
    rename_i h0
    exact absurd h h0
  rename_i h0
  refine ⟨f, sp, L, readB_ok hl hh he hL h0, h0, ?_, by omega, by rw [he.2]; exact hh, hL⟩
  have h2 := two_of hh he.1
  have hj := join_pcs 10 s
  have hm : pcs 10 s = (pcs 10 s).headD [] :: (midR s ++ [[]]) := by
    match hp : pcs 10 s, h2 with
    | a :: b :: l, _ =>
      have hla : (b :: l).getLast? = some [] := by
        have := he.1
        rw [hp] at this
        simpa using this
      unfold midR
      rw [hp]
      show a :: b :: l = a :: ((b :: l).dropLast ++ [[]])
      congr 1
      obtain ⟨ys, hys⟩ := List.getLast?_eq_some_iff.1 hla
      rw [hys, List.dropLast_concat]
  have hK := lines_text hL
  have hml := midR_len s
  have hme : m = ((L.length : Nat) : Int) := by rw [hK.2, hml]; have := he.2; omega
  have hp := hed_text hh
  rw [hm, hp, Lib.join_cons] at hj
  have e1 : textB f sp L = Lib.join (((pcs 10 s).headD []) :: L.map lineB) [10] ++ [10] := by
    unfold textB bhdB
    rw [hp, hme]
  rw [e1, hK.1, Lib.join_cons, hp]
  conv => rhs; rw [← hj]
  simp [Lib.joinTail]
end Go.Proofs.YtfkklcmepcocoaaGreatDoor
