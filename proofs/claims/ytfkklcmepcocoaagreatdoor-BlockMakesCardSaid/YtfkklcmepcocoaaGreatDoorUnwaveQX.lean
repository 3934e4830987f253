/- The reference's Unwave by its contract. -/
import Derived.Test.YtfkklcmepcocoaaGreatDoorMkiX
namespace Go.Proofs.YtfkklcmepcocoaaGreatDoor
open Go.RowKit
set_option linter.unusedVariables false

/-- What Unwave answers. -/
def pRet : WRes → Value
  | .none => .agg #[.int .i64 0, .int .u64 0, .int .i64 0, .int .i64 5]
  | .bad => .agg #[.int .i64 0, .int .u64 0, .int .i64 0, .int .i64 1]
  | .ok n m => .agg #[.int .i64 n, .int .u64 0, .int .i64 m, .int .i64 0]
theorem body_ext {S : List Bool} {q r : Nat} (hr : r ≤ S.length) (hq : q ≤ r) : (txt S).extract q r = txt ((S.drop q).take (r - q)) := by
  rw [txt_extract, List.drop_take]
abbrev zero4 : Array Value := #[.int .i64 0, .int .u64 0, .int .i64 0, .int .i64 0]

set_option maxRecDepth 100000 in
set_option maxHeartbeats 4000000 in
theorem unwave_any (S : List Bool) (p : Nat) (hS : S.length ≤ 1048576) (hp : p ≤ 1048576) (w : World) :
    Calls Tryz.prog 165 #[.string (txt S), .int .i64 p] w fun e w' => e = .returned (pRet (getW S p)) ∧ Below w.heap.size w w' := by
  obtain ⟨st, hst⟩ : ∃ st, st = txt S := ⟨_, rfl⟩
  obtain ⟨N, hN⟩ : ∃ N, N = S.length := ⟨_, rfl⟩
  have hsz : st.size = N := by rw [hst, txt_size, hN]
  have hN1 : N ≤ 1048576 := by omega
  have hN2 : (N : Int) ≤ 1048576 := by omega
  have hp2 : (p : Int) ≤ 1048576 := by omega
  have hidx : ∀ (i : Nat) (h : i < st.size) (b : Bool), S[i]? = some b → st[i].toNat = 48 + b.toNat := by
    intro i h b hb
    subst hst
    have e := txt_get S i h b hb
    exact (congrArg UInt8.toNat e).trans (chB_toNat _)
  have Hidx := Lib.hid hidx; have HN := Lib.hid hN; have Hst := Lib.hid hst
  have Hwo := Lib.hid (fun n hn w => waveOf_any n hn w)
  rw [← hst]
  clear hst hN hidx hS
  have hz0 : w.heap.size < (w.alloc (.cells zero4 239)).heap.size := by simp
  go_enter Tryz.func165, Tryz.ntmps165
  go_wp2
  go_loop [5] (fun o => ∃ j : Nat, j ≤ 4 ∧ o = .int .i64 j ∧ (∀ i, i < j → S[p + i]? = some true)) (fun o => 4 - (intOf o).toNat)
  case atStart => exact ⟨0, by omega, rfl, fun i hi => by omega⟩
  case round =>
    obtain ⟨j, hj, rfl, h1⟩ := hrel
    have H1 := Lib.hid h1; clear h1
    by_cases hj4 : j < 4
    · by_cases hout : N ≤ p + j
      · have hgw : getW S p = .none := getW_none (ones_out S 4 p j hj4 H1.out (List.getElem?_eq_none (by rw [← HN.out]; omega)))
        have Hgw := Lib.hid hgw; clear hgw
        go_wp2
        refine bodyPost_ret (v := .agg #[.int .i64 0, .int .u64 0, .int .i64 0, .int .i64 5]) (by simp [results, Tryz.results165, go_sem]) rfl ?_
        exact ⟨by rw [Hgw.out]; rfl, by go_grown⟩
      · have hpl : p + j < N := by omega
        obtain ⟨b, hbit⟩ : ∃ b, S[p + j]? = some b := ⟨_, List.getElem?_eq_getElem (by rw [← HN.out]; exact hpl)⟩
        have hix := Hidx.out (p + j) (by rw [hsz]; exact hpl) b hbit
        have Hbit := Lib.hid hbit; clear hbit
        cases b with
        | true =>
          have hix2 : st[p + j].toNat = 49 := hix
          clear hix
          go_wp2
          go_round
          case rel => exact ⟨j + 1, by omega, by go_num, fun i hi => by
            rcases Nat.lt_or_ge i j with h | h
            · exact H1.out i h
            · obtain rfl : i = j := by omega
              exact Hbit.out⟩
          case measure => simp [intOf]; omega
        | false =>
          have hix2 : st[p + j].toNat = 48 := hix
          clear hix
          have hgw := getW_of (ones_stop S 4 p j hj4 H1.out Hbit.out)
          have hpe := piece_eq (S := S) (p := p) (k := j) (by omega) H1.out (.inr Hbit.out)
          rw [← HN.out] at hgw hpe
          have Hgw := Lib.hid hgw; have Hpe := Lib.hid hpe
          clear hgw hpe
          have hjc : j = 0 ∨ j = 1 ∨ j = 2 ∨ j = 3 := by omega
          rcases hjc with rfl | rfl | rfl | rfl
          · simp only [Nat.add_zero] at hix2
            have hhl : headL 0 = 1 := rfl
            have hwl : wN 0 = 0 := rfl
            have HH := Lib.hid hhl; have HW := Lib.hid hwl; clear hhl hwl
            obtain ⟨q, hq⟩ : ∃ q, q = p + 1 := ⟨_, rfl⟩
            obtain ⟨r, hr⟩ : ∃ r, r = q + 0 := ⟨_, rfl⟩
            have e1 : (p : Int) + 1 = (q : Int) := by omega
            obtain rfl : r = q := by omega
            have hr2 : r ≤ 1048680 := by omega
            have v1 : IntKind.i64.wrap (r : Int) = (r : Int) := by rw [IntKind.wrap_i64]; omega
            have Hq := Lib.hid hq; have Hr := Lib.hid hr; clear hr
            by_cases hN3 : N < r
            · exact absurd hN3 (by omega)
            clear hq
            have hN4 : r ≤ N := by omega
            have i1 : (r : Int) ≤ (N : Int) := by omega
            have i2 : p ≤ r := by have := Hq.out; have := Hr.out; omega
            have i3 : (p : Int) ≤ (r : Int) := by omega
            have hgo := Hgw.out
            rw [HH.out, HW.out, if_neg (by have := Hq.out; have := Hr.out; omega)] at hgo
            have hpe := Hpe.out (by rw [HH.out, HW.out]; have := Hq.out; have := Hr.out; omega)
            have hbl : (bodyW S p 0).length = 0 := bodyW_len (by rw [HH.out, HW.out, ← HN.out]; have := Hq.out; have := Hr.out; omega)
            have hx2 : st.extract p r = txt (headB 0 ++ bodyW S p 0) := by
              rw [Hst.out, body_ext (by rw [← HN.out]; exact hN4) i2, ← hpe, HH.out, HW.out, show r - p = 1 + 0 by have := Hq.out; have := Hr.out; omega]
            have hwi := wave_iff 0 (bodyW S p 0) (by omega) (by rw [hbl, HW.out])
            have hb0 : bodyW S p 0 = [] := List.eq_nil_of_length_eq_zero hbl
            rw [hb0] at hgo hx2 hwi
            have Hvo := Lib.hid (show ∀ W, Calls Tryz.prog 118 #[.string ByteArray.empty] W fun e w' => e = .returned (.int .u64 0) ∧ w' = W from fun W => valueOf_any [] (by simp) W)
            have hof : ofK 0 = 0 := rfl
            have hgo2 : getW S p = .ok 0 (1 + 0) := by rw [hgo]; rfl
            have hwi2 : waveBits 0 = headB 0 ++ [] := hwi.2 rfl
            generalize headB 0 ++ ([] : List Bool) = pc at hx2 hwi2
            have hnr : (-9223372036854775808 : Int) ≤ 0 ∧ (0 : Int) ≤ 9223372036854775807 := by omega
            have Hgf := Lib.hid hgo2; have Hwq := Lib.hid hwi2; have Hnr := Lib.hid hnr; have Hx2 := Lib.hid hx2
            clear hgo hwi hpe hbl hb0 hgo2 hwi2 hnr hof
            have Hbk := Lib.hid (Blk.new w 239 zero4)
            go_wp2_with fail
            with_reducible refine (Hvo.out _).mono ?_
            rintro e w' ⟨rfl, rfl⟩
            go_wp2_with fail
            go_region_held3 (fun _ => True) (first | trivial) (first | (go_at_call 207; refine (Hwo.out (0) Hnr.out _).mono ?_; rintro e w6 ⟨rfl, hb6⟩; have hb6 := Lib.hid hb6; rw [Hwq.out]))
            have hbk6 := (Hbk.out.alloc (.cells #[.int .i64 0, .int .i64 7, .int .i64 9, .int .i64 12, .int .i64 64] 3)).drew.below hb6.out (by simp; omega)
            have z0 := hbk6.cell 0; have z1 := hbk6.cell 1; have z2 := hbk6.cell 2; have z3 := hbk6.cell 3
            have f0 := hbk6.frozen 0; have f1 := hbk6.frozen 1; have f2 := hbk6.frozen 2; have f3 := hbk6.frozen 3
            simp only [List.getElem?_toArray, List.getElem?_cons_zero, List.getElem?_cons_succ] at z0 z1 z2 z3
            have hbw : Below w.heap.size w w6 := Below.call (Below.alloc (Below.alloc (Below.refl w.heap.size w) (Nat.le_refl _) _) (by simp) _).drew hb6.out (by simp; omega)
            have Hbw := Lib.hid hbw; clear hbk6 hbw
            go_wp2
            refine bodyPost_ret (v := .agg #[.int .i64 (0), .int .u64 0, .int .i64 1, .int .i64 0]) (by simp [results, Tryz.results165, go_sem, z0, z1, z2, z3]) rfl ?_
            exact ⟨by rw [Hgf.out]; rfl, (((Hbw.out.setCell (by simp) _).setCell (by simp) _).setCell (by simp) _).setCell (by simp) _⟩
          · have hhl : headL 1 = 2 := rfl
            have hwl : wN 1 = 7 := rfl
            have HH := Lib.hid hhl; have HW := Lib.hid hwl; clear hhl hwl
            obtain ⟨q, hq⟩ : ∃ q, q = p + 2 := ⟨_, rfl⟩
            obtain ⟨r, hr⟩ : ∃ r, r = q + 7 := ⟨_, rfl⟩
            have e1 : (p : Int) + 2 = (q : Int) := by omega
            have e2 : (q : Int) + 7 = (r : Int) := by omega
            have hr2 : r ≤ 1048680 := by omega
            have v1 : IntKind.i64.wrap (q : Int) = (q : Int) := by rw [IntKind.wrap_i64]; omega
            have v2 : IntKind.i64.wrap (r : Int) = (r : Int) := by rw [IntKind.wrap_i64]; omega
            have Hq := Lib.hid hq; have Hr := Lib.hid hr; clear hr
            clear hq
            by_cases hN3 : N < r
            · have hgn : getW S p = .none := by rw [Hgw.out, HH.out, HW.out, if_pos (by have := Hq.out; have := Hr.out; omega)]
              have Hgn := Lib.hid hgn; clear hgn
              go_wp2
              refine bodyPost_ret (v := .agg #[.int .i64 0, .int .u64 0, .int .i64 0, .int .i64 5]) (by simp [results, Tryz.results165, go_sem]) rfl ?_
              exact ⟨by rw [Hgn.out]; rfl, by go_grown⟩
            have hN4 : r ≤ N := by omega
            have i1 : (r : Int) ≤ (N : Int) := by omega
            have i2 : p ≤ r := by have := Hq.out; have := Hr.out; omega
            have i3 : (p : Int) ≤ (r : Int) := by omega
            have i4 : q ≤ r := by have := Hr.out; omega
            have i5 : (q : Int) ≤ (r : Int) := by omega
            have hgo := Hgw.out
            rw [HH.out, HW.out, if_neg (by have := Hq.out; have := Hr.out; omega)] at hgo
            have hpe := Hpe.out (by rw [HH.out, HW.out]; have := Hq.out; have := Hr.out; omega)
            have hbl : (bodyW S p 1).length = 7 := bodyW_len (by rw [HH.out, HW.out, ← HN.out]; have := Hq.out; have := Hr.out; omega)
            have hx1 : st.extract q r = txt (bodyW S p 1) := by
              rw [Hst.out, body_ext (by rw [← HN.out]; exact hN4) i4]; unfold bodyW; rw [HH.out, HW.out, ← Hq.out, show r - q = 7 by have := Hr.out; omega]
            have hx2 : st.extract p r = txt (headB 1 ++ bodyW S p 1) := by
              rw [Hst.out, body_ext (by rw [← HN.out]; exact hN4) i2, ← hpe, HH.out, HW.out, show r - p = 2 + 7 by have := Hq.out; have := Hr.out; omega]
            have hwi := wave_iff 1 (bodyW S p 1) (by omega) (by rw [hbl, HW.out])
            have hvl := valN_lt (bodyW S p 1)
            rw [hbl] at hvl
            have Hvo := Lib.hid (valueOf_any (bodyW S p 1) (by omega))
            generalize hvv : valN (bodyW S p 1) = v at hgo hwi hvl Hvo
            generalize hB : txt (bodyW S p 1) = tb at hx1 Hvo
            generalize headB 1 ++ bodyW S p 1 = pc at hx2 hwi
            have hnr : -9223372036854775808 ≤ numW 1 v ∧ numW 1 v ≤ 9223372036854775807 := numW_range 1 v (by omega) (by omega)
            have hvn : numW 1 v = (v : Int) - 63 := rfl
            generalize hnn : numW 1 v = nn at hgo hwi hnr hvn
            subst hvn
            have Hgo := Lib.hid hgo; have Hwi := Lib.hid hwi; have Hnr := Lib.hid hnr
            clear hgo hwi hpe hvv hB hbl hnn hnr
            have Hbk := Lib.hid (Blk.new w 239 zero4)
            by_cases hof : ofK ((v : Int) - 63) = 1
            · have hgf : getW S p = .ok ((v : Int) - 63) (2 + 7) := by rw [Hgo.out]; exact if_pos hof
              have hwq := Hwi.out.2 hof
              have Hgf := Lib.hid hgf; have Hwq := Lib.hid hwq; clear hgf hwq hof
              go_wp2_with fail
              with_reducible refine (Hvo.out _).mono ?_
              rintro e w' ⟨rfl, rfl⟩
              go_wp2_with fail
              go_region_held3 (fun _ => True) (first | trivial) (first | (go_at_call 207; refine (Hwo.out ((v : Int) - 63) Hnr.out _).mono ?_; rintro e w6 ⟨rfl, hb6⟩; have hb6 := Lib.hid hb6; rw [Hwq.out]))
              have hbk6 := (Hbk.out.alloc (.cells #[.int .i64 0, .int .i64 7, .int .i64 9, .int .i64 12, .int .i64 64] 3)).drew.below hb6.out (by simp; omega)
              have z0 := hbk6.cell 0; have z1 := hbk6.cell 1; have z2 := hbk6.cell 2; have z3 := hbk6.cell 3
              have f0 := hbk6.frozen 0; have f1 := hbk6.frozen 1; have f2 := hbk6.frozen 2; have f3 := hbk6.frozen 3
              simp only [List.getElem?_toArray, List.getElem?_cons_zero, List.getElem?_cons_succ] at z0 z1 z2 z3
              have hbw : Below w.heap.size w w6 := Below.call (Below.alloc (Below.alloc (Below.refl w.heap.size w) (Nat.le_refl _) _) (by simp) _).drew hb6.out (by simp; omega)
              have Hbw := Lib.hid hbw; clear hbk6 hbw
              go_wp2
              refine bodyPost_ret (v := .agg #[.int .i64 ((v : Int) - 63), .int .u64 0, .int .i64 9, .int .i64 0]) (by simp [results, Tryz.results165, go_sem, z0, z1, z2, z3]) rfl ?_
              exact ⟨by rw [Hgf.out]; rfl, (((Hbw.out.setCell (by simp) _).setCell (by simp) _).setCell (by simp) _).setCell (by simp) _⟩
            · have hgf : getW S p = .bad := by rw [Hgo.out]; exact if_neg hof
              have hwq := txt_ne (fun h => hof (Hwi.out.1 h))
              have Hgf := Lib.hid hgf; have Hwq := Lib.hid hwq; clear hgf hwq hof
              go_wp2_with fail
              with_reducible refine (Hvo.out _).mono ?_
              rintro e w' ⟨rfl, rfl⟩
              go_wp2_with fail
              go_region_held3 (fun _ => True) (first | trivial) (first | (go_at_call 207; refine (Hwo.out ((v : Int) - 63) Hnr.out _).mono ?_; rintro e w6 ⟨rfl, hb6⟩; have hb6 := Lib.hid hb6; have hwq := Hwq.out))
              have hbk6 := (Hbk.out.alloc (.cells #[.int .i64 0, .int .i64 7, .int .i64 9, .int .i64 12, .int .i64 64] 3)).drew.below hb6.out (by simp; omega)
              have z0 := hbk6.cell 0; have z1 := hbk6.cell 1; have z2 := hbk6.cell 2; have z3 := hbk6.cell 3
              have f0 := hbk6.frozen 0; have f1 := hbk6.frozen 1; have f2 := hbk6.frozen 2; have f3 := hbk6.frozen 3
              simp only [List.getElem?_toArray, List.getElem?_cons_zero, List.getElem?_cons_succ] at z0 z1 z2 z3
              have hbw : Below w.heap.size w w6 := Below.call (Below.alloc (Below.alloc (Below.refl w.heap.size w) (Nat.le_refl _) _) (by simp) _).drew hb6.out (by simp; omega)
              have Hbw := Lib.hid hbw; clear hbk6 hbw
              go_wp2
              refine bodyPost_ret (v := .agg #[.int .i64 0, .int .u64 0, .int .i64 0, .int .i64 1]) (by simp [results, Tryz.results165, go_sem, z0, z1, z2, z3]) rfl ?_
              exact ⟨by rw [Hgf.out]; rfl, (((Hbw.out.setCell (by simp) _).setCell (by simp) _).setCell (by simp) _).setCell (by simp) _⟩
          · have hhl : headL 2 = 3 := rfl
            have hwl : wN 2 = 9 := rfl
            have HH := Lib.hid hhl; have HW := Lib.hid hwl; clear hhl hwl
            obtain ⟨q, hq⟩ : ∃ q, q = p + 3 := ⟨_, rfl⟩
            obtain ⟨r, hr⟩ : ∃ r, r = q + 9 := ⟨_, rfl⟩
            have e1 : (p : Int) + 3 = (q : Int) := by omega
            have e2 : (q : Int) + 9 = (r : Int) := by omega
            have hr2 : r ≤ 1048680 := by omega
            have v1 : IntKind.i64.wrap (q : Int) = (q : Int) := by rw [IntKind.wrap_i64]; omega
            have v2 : IntKind.i64.wrap (r : Int) = (r : Int) := by rw [IntKind.wrap_i64]; omega
            have Hq := Lib.hid hq; have Hr := Lib.hid hr; clear hr
            clear hq
            by_cases hN3 : N < r
            · have hgn : getW S p = .none := by rw [Hgw.out, HH.out, HW.out, if_pos (by have := Hq.out; have := Hr.out; omega)]
              have Hgn := Lib.hid hgn; clear hgn
              go_wp2
              refine bodyPost_ret (v := .agg #[.int .i64 0, .int .u64 0, .int .i64 0, .int .i64 5]) (by simp [results, Tryz.results165, go_sem]) rfl ?_
              exact ⟨by rw [Hgn.out]; rfl, by go_grown⟩
            have hN4 : r ≤ N := by omega
            have i1 : (r : Int) ≤ (N : Int) := by omega
            have i2 : p ≤ r := by have := Hq.out; have := Hr.out; omega
            have i3 : (p : Int) ≤ (r : Int) := by omega
            have i4 : q ≤ r := by have := Hr.out; omega
            have i5 : (q : Int) ≤ (r : Int) := by omega
            have hgo := Hgw.out
            rw [HH.out, HW.out, if_neg (by have := Hq.out; have := Hr.out; omega)] at hgo
            have hpe := Hpe.out (by rw [HH.out, HW.out]; have := Hq.out; have := Hr.out; omega)
            have hbl : (bodyW S p 2).length = 9 := bodyW_len (by rw [HH.out, HW.out, ← HN.out]; have := Hq.out; have := Hr.out; omega)
            have hx1 : st.extract q r = txt (bodyW S p 2) := by
              rw [Hst.out, body_ext (by rw [← HN.out]; exact hN4) i4]; unfold bodyW; rw [HH.out, HW.out, ← Hq.out, show r - q = 9 by have := Hr.out; omega]
            have hx2 : st.extract p r = txt (headB 2 ++ bodyW S p 2) := by
              rw [Hst.out, body_ext (by rw [← HN.out]; exact hN4) i2, ← hpe, HH.out, HW.out, show r - p = 3 + 9 by have := Hq.out; have := Hr.out; omega]
            have hwi := wave_iff 2 (bodyW S p 2) (by omega) (by rw [hbl, HW.out])
            have hvl := valN_lt (bodyW S p 2)
            rw [hbl] at hvl
            have Hvo := Lib.hid (valueOf_any (bodyW S p 2) (by omega))
            generalize hvv : valN (bodyW S p 2) = v at hgo hwi hvl Hvo
            generalize hB : txt (bodyW S p 2) = tb at hx1 Hvo
            generalize headB 2 ++ bodyW S p 2 = pc at hx2 hwi
            have hnr : -9223372036854775808 ≤ numW 2 v ∧ numW 2 v ≤ 9223372036854775807 := numW_range 2 v (by omega) (by omega)
            have hvn : numW 2 v = (v : Int) - 255 := rfl
            generalize hnn : numW 2 v = nn at hgo hwi hnr hvn
            subst hvn
            have Hgo := Lib.hid hgo; have Hwi := Lib.hid hwi; have Hnr := Lib.hid hnr
            clear hgo hwi hpe hvv hB hbl hnn hnr
            have Hbk := Lib.hid (Blk.new w 239 zero4)
            by_cases hof : ofK ((v : Int) - 255) = 2
            · have hgf : getW S p = .ok ((v : Int) - 255) (3 + 9) := by rw [Hgo.out]; exact if_pos hof
              have hwq := Hwi.out.2 hof
              have Hgf := Lib.hid hgf; have Hwq := Lib.hid hwq; clear hgf hwq hof
              go_wp2_with fail
              with_reducible refine (Hvo.out _).mono ?_
              rintro e w' ⟨rfl, rfl⟩
              go_wp2_with fail
              go_region_held3 (fun _ => True) (first | trivial) (first | (go_at_call 207; refine (Hwo.out ((v : Int) - 255) Hnr.out _).mono ?_; rintro e w6 ⟨rfl, hb6⟩; have hb6 := Lib.hid hb6; rw [Hwq.out]))
              have hbk6 := (Hbk.out.alloc (.cells #[.int .i64 0, .int .i64 7, .int .i64 9, .int .i64 12, .int .i64 64] 3)).drew.below hb6.out (by simp; omega)
              have z0 := hbk6.cell 0; have z1 := hbk6.cell 1; have z2 := hbk6.cell 2; have z3 := hbk6.cell 3
              have f0 := hbk6.frozen 0; have f1 := hbk6.frozen 1; have f2 := hbk6.frozen 2; have f3 := hbk6.frozen 3
              simp only [List.getElem?_toArray, List.getElem?_cons_zero, List.getElem?_cons_succ] at z0 z1 z2 z3
              have hbw : Below w.heap.size w w6 := Below.call (Below.alloc (Below.alloc (Below.refl w.heap.size w) (Nat.le_refl _) _) (by simp) _).drew hb6.out (by simp; omega)
              have Hbw := Lib.hid hbw; clear hbk6 hbw
              go_wp2
              refine bodyPost_ret (v := .agg #[.int .i64 ((v : Int) - 255), .int .u64 0, .int .i64 12, .int .i64 0]) (by simp [results, Tryz.results165, go_sem, z0, z1, z2, z3]) rfl ?_
              exact ⟨by rw [Hgf.out]; rfl, (((Hbw.out.setCell (by simp) _).setCell (by simp) _).setCell (by simp) _).setCell (by simp) _⟩
            · have hgf : getW S p = .bad := by rw [Hgo.out]; exact if_neg hof
              have hwq := txt_ne (fun h => hof (Hwi.out.1 h))
              have Hgf := Lib.hid hgf; have Hwq := Lib.hid hwq; clear hgf hwq hof
              go_wp2_with fail
              with_reducible refine (Hvo.out _).mono ?_
              rintro e w' ⟨rfl, rfl⟩
              go_wp2_with fail
              go_region_held3 (fun _ => True) (first | trivial) (first | (go_at_call 207; refine (Hwo.out ((v : Int) - 255) Hnr.out _).mono ?_; rintro e w6 ⟨rfl, hb6⟩; have hb6 := Lib.hid hb6; have hwq := Hwq.out))
              have hbk6 := (Hbk.out.alloc (.cells #[.int .i64 0, .int .i64 7, .int .i64 9, .int .i64 12, .int .i64 64] 3)).drew.below hb6.out (by simp; omega)
              have z0 := hbk6.cell 0; have z1 := hbk6.cell 1; have z2 := hbk6.cell 2; have z3 := hbk6.cell 3
              have f0 := hbk6.frozen 0; have f1 := hbk6.frozen 1; have f2 := hbk6.frozen 2; have f3 := hbk6.frozen 3
              simp only [List.getElem?_toArray, List.getElem?_cons_zero, List.getElem?_cons_succ] at z0 z1 z2 z3
              have hbw : Below w.heap.size w w6 := Below.call (Below.alloc (Below.alloc (Below.refl w.heap.size w) (Nat.le_refl _) _) (by simp) _).drew hb6.out (by simp; omega)
              have Hbw := Lib.hid hbw; clear hbk6 hbw
              go_wp2
              refine bodyPost_ret (v := .agg #[.int .i64 0, .int .u64 0, .int .i64 0, .int .i64 1]) (by simp [results, Tryz.results165, go_sem, z0, z1, z2, z3]) rfl ?_
              exact ⟨by rw [Hgf.out]; rfl, (((Hbw.out.setCell (by simp) _).setCell (by simp) _).setCell (by simp) _).setCell (by simp) _⟩
          · have hhl : headL 3 = 4 := rfl
            have hwl : wN 3 = 12 := rfl
            have HH := Lib.hid hhl; have HW := Lib.hid hwl; clear hhl hwl
            obtain ⟨q, hq⟩ : ∃ q, q = p + 4 := ⟨_, rfl⟩
            obtain ⟨r, hr⟩ : ∃ r, r = q + 12 := ⟨_, rfl⟩
            have e1 : (p : Int) + 4 = (q : Int) := by omega
            have e2 : (q : Int) + 12 = (r : Int) := by omega
            have hr2 : r ≤ 1048680 := by omega
            have v1 : IntKind.i64.wrap (q : Int) = (q : Int) := by rw [IntKind.wrap_i64]; omega
            have v2 : IntKind.i64.wrap (r : Int) = (r : Int) := by rw [IntKind.wrap_i64]; omega
            have Hq := Lib.hid hq; have Hr := Lib.hid hr; clear hr
            clear hq
            by_cases hN3 : N < r
            · have hgn : getW S p = .none := by rw [Hgw.out, HH.out, HW.out, if_pos (by have := Hq.out; have := Hr.out; omega)]
              have Hgn := Lib.hid hgn; clear hgn
              go_wp2
              refine bodyPost_ret (v := .agg #[.int .i64 0, .int .u64 0, .int .i64 0, .int .i64 5]) (by simp [results, Tryz.results165, go_sem]) rfl ?_
              exact ⟨by rw [Hgn.out]; rfl, by go_grown⟩
            have hN4 : r ≤ N := by omega
            have i1 : (r : Int) ≤ (N : Int) := by omega
            have i2 : p ≤ r := by have := Hq.out; have := Hr.out; omega
            have i3 : (p : Int) ≤ (r : Int) := by omega
            have i4 : q ≤ r := by have := Hr.out; omega
            have i5 : (q : Int) ≤ (r : Int) := by omega
            have hgo := Hgw.out
            rw [HH.out, HW.out, if_neg (by have := Hq.out; have := Hr.out; omega)] at hgo
            have hpe := Hpe.out (by rw [HH.out, HW.out]; have := Hq.out; have := Hr.out; omega)
            have hbl : (bodyW S p 3).length = 12 := bodyW_len (by rw [HH.out, HW.out, ← HN.out]; have := Hq.out; have := Hr.out; omega)
            have hx1 : st.extract q r = txt (bodyW S p 3) := by
              rw [Hst.out, body_ext (by rw [← HN.out]; exact hN4) i4]; unfold bodyW; rw [HH.out, HW.out, ← Hq.out, show r - q = 12 by have := Hr.out; omega]
            have hx2 : st.extract p r = txt (headB 3 ++ bodyW S p 3) := by
              rw [Hst.out, body_ext (by rw [← HN.out]; exact hN4) i2, ← hpe, HH.out, HW.out, show r - p = 4 + 12 by have := Hq.out; have := Hr.out; omega]
            have hwi := wave_iff 3 (bodyW S p 3) (by omega) (by rw [hbl, HW.out])
            have hvl := valN_lt (bodyW S p 3)
            rw [hbl] at hvl
            have Hvo := Lib.hid (valueOf_any (bodyW S p 3) (by omega))
            generalize hvv : valN (bodyW S p 3) = v at hgo hwi hvl Hvo
            generalize hB : txt (bodyW S p 3) = tb at hx1 Hvo
            generalize headB 3 ++ bodyW S p 3 = pc at hx2 hwi
            have hnr : -9223372036854775808 ≤ numW 3 v ∧ numW 3 v ≤ 9223372036854775807 := numW_range 3 v (by omega) (by omega)
            have hvn : numW 3 v = (v : Int) - 2047 := rfl
            generalize hnn : numW 3 v = nn at hgo hwi hnr hvn
            subst hvn
            have Hgo := Lib.hid hgo; have Hwi := Lib.hid hwi; have Hnr := Lib.hid hnr
            clear hgo hwi hpe hvv hB hbl hnn hnr
            have Hbk := Lib.hid (Blk.new w 239 zero4)
            by_cases hof : ofK ((v : Int) - 2047) = 3
            · have hgf : getW S p = .ok ((v : Int) - 2047) (4 + 12) := by rw [Hgo.out]; exact if_pos hof
              have hwq := Hwi.out.2 hof
              have Hgf := Lib.hid hgf; have Hwq := Lib.hid hwq; clear hgf hwq hof
              go_wp2_with fail
              with_reducible refine (Hvo.out _).mono ?_
              rintro e w' ⟨rfl, rfl⟩
              go_wp2_with fail
              go_region_held3 (fun _ => True) (first | trivial) (first | (go_at_call 207; refine (Hwo.out ((v : Int) - 2047) Hnr.out _).mono ?_; rintro e w6 ⟨rfl, hb6⟩; have hb6 := Lib.hid hb6; rw [Hwq.out]))
              have hbk6 := (Hbk.out.alloc (.cells #[.int .i64 0, .int .i64 7, .int .i64 9, .int .i64 12, .int .i64 64] 3)).drew.below hb6.out (by simp; omega)
              have z0 := hbk6.cell 0; have z1 := hbk6.cell 1; have z2 := hbk6.cell 2; have z3 := hbk6.cell 3
              have f0 := hbk6.frozen 0; have f1 := hbk6.frozen 1; have f2 := hbk6.frozen 2; have f3 := hbk6.frozen 3
              simp only [List.getElem?_toArray, List.getElem?_cons_zero, List.getElem?_cons_succ] at z0 z1 z2 z3
              have hbw : Below w.heap.size w w6 := Below.call (Below.alloc (Below.alloc (Below.refl w.heap.size w) (Nat.le_refl _) _) (by simp) _).drew hb6.out (by simp; omega)
              have Hbw := Lib.hid hbw; clear hbk6 hbw
              go_wp2
              refine bodyPost_ret (v := .agg #[.int .i64 ((v : Int) - 2047), .int .u64 0, .int .i64 16, .int .i64 0]) (by simp [results, Tryz.results165, go_sem, z0, z1, z2, z3]) rfl ?_
              exact ⟨by rw [Hgf.out]; rfl, (((Hbw.out.setCell (by simp) _).setCell (by simp) _).setCell (by simp) _).setCell (by simp) _⟩
            · have hgf : getW S p = .bad := by rw [Hgo.out]; exact if_neg hof
              have hwq := txt_ne (fun h => hof (Hwi.out.1 h))
              have Hgf := Lib.hid hgf; have Hwq := Lib.hid hwq; clear hgf hwq hof
              go_wp2_with fail
              with_reducible refine (Hvo.out _).mono ?_
              rintro e w' ⟨rfl, rfl⟩
              go_wp2_with fail
              go_region_held3 (fun _ => True) (first | trivial) (first | (go_at_call 207; refine (Hwo.out ((v : Int) - 2047) Hnr.out _).mono ?_; rintro e w6 ⟨rfl, hb6⟩; have hb6 := Lib.hid hb6; have hwq := Hwq.out))
              have hbk6 := (Hbk.out.alloc (.cells #[.int .i64 0, .int .i64 7, .int .i64 9, .int .i64 12, .int .i64 64] 3)).drew.below hb6.out (by simp; omega)
              have z0 := hbk6.cell 0; have z1 := hbk6.cell 1; have z2 := hbk6.cell 2; have z3 := hbk6.cell 3
              have f0 := hbk6.frozen 0; have f1 := hbk6.frozen 1; have f2 := hbk6.frozen 2; have f3 := hbk6.frozen 3
              simp only [List.getElem?_toArray, List.getElem?_cons_zero, List.getElem?_cons_succ] at z0 z1 z2 z3
              have hbw : Below w.heap.size w w6 := Below.call (Below.alloc (Below.alloc (Below.refl w.heap.size w) (Nat.le_refl _) _) (by simp) _).drew hb6.out (by simp; omega)
              have Hbw := Lib.hid hbw; clear hbk6 hbw
              go_wp2
              refine bodyPost_ret (v := .agg #[.int .i64 0, .int .u64 0, .int .i64 0, .int .i64 1]) (by simp [results, Tryz.results165, go_sem, z0, z1, z2, z3]) rfl ?_
              exact ⟨by rw [Hgf.out]; rfl, (((Hbw.out.setCell (by simp) _).setCell (by simp) _).setCell (by simp) _).setCell (by simp) _⟩
    · obtain rfl : j = 4 := by omega
      have hgw := getW_of (ones_all S 4 p H1.out)
      have hpe := piece_eq (S := S) (p := p) (k := 4) (by omega) H1.out (.inl rfl)
      rw [← HN.out] at hgw hpe
      have Hgw := Lib.hid hgw; have Hpe := Lib.hid hpe
      clear hgw hpe
      have hhl : headL 4 = 4 := rfl
      have hwl : wN 4 = 64 := rfl
      have HH := Lib.hid hhl; have HW := Lib.hid hwl; clear hhl hwl
      obtain ⟨q, hq⟩ : ∃ q, q = p + 4 := ⟨_, rfl⟩
      obtain ⟨r, hr⟩ : ∃ r, r = q + 64 := ⟨_, rfl⟩
      have e1 : (p : Int) + 4 = (q : Int) := by omega
      have e2 : (q : Int) + 64 = (r : Int) := by omega
      have hr2 : r ≤ 1048680 := by omega
      have v1 : IntKind.i64.wrap (q : Int) = (q : Int) := by rw [IntKind.wrap_i64]; omega
      have v2 : IntKind.i64.wrap (r : Int) = (r : Int) := by rw [IntKind.wrap_i64]; omega
      have Hq := Lib.hid hq; have Hr := Lib.hid hr; clear hr
      clear hq
      by_cases hN3 : N < r
      · have hgn : getW S p = .none := by rw [Hgw.out, HH.out, HW.out, if_pos (by have := Hq.out; have := Hr.out; omega)]
        have Hgn := Lib.hid hgn; clear hgn
        go_wp2
        refine bodyPost_ret (v := .agg #[.int .i64 0, .int .u64 0, .int .i64 0, .int .i64 5]) (by simp [results, Tryz.results165, go_sem]) rfl ?_
        exact ⟨by rw [Hgn.out]; rfl, by go_grown⟩
      have hN4 : r ≤ N := by omega
      have i1 : (r : Int) ≤ (N : Int) := by omega
      have i2 : p ≤ r := by have := Hq.out; have := Hr.out; omega
      have i3 : (p : Int) ≤ (r : Int) := by omega
      have i4 : q ≤ r := by have := Hr.out; omega
      have i5 : (q : Int) ≤ (r : Int) := by omega
      have hgo := Hgw.out
      rw [HH.out, HW.out, if_neg (by have := Hq.out; have := Hr.out; omega)] at hgo
      have hpe := Hpe.out (by rw [HH.out, HW.out]; have := Hq.out; have := Hr.out; omega)
      have hbl : (bodyW S p 4).length = 64 := bodyW_len (by rw [HH.out, HW.out, ← HN.out]; have := Hq.out; have := Hr.out; omega)
      have hx1 : st.extract q r = txt (bodyW S p 4) := by
        rw [Hst.out, body_ext (by rw [← HN.out]; exact hN4) i4]; unfold bodyW; rw [HH.out, HW.out, ← Hq.out, show r - q = 64 by have := Hr.out; omega]
      have hx2 : st.extract p r = txt (headB 4 ++ bodyW S p 4) := by
        rw [Hst.out, body_ext (by rw [← HN.out]; exact hN4) i2, ← hpe, HH.out, HW.out, show r - p = 4 + 64 by have := Hq.out; have := Hr.out; omega]
      have hwi := wave_iff 4 (bodyW S p 4) (by omega) (by rw [hbl, HW.out])
      have hvl := valN_lt (bodyW S p 4)
      rw [hbl] at hvl
      have Hvo := Lib.hid (valueOf_any (bodyW S p 4) (by omega))
      generalize hvv : valN (bodyW S p 4) = v at hgo hwi hvl Hvo
      generalize hB : txt (bodyW S p 4) = tb at hx1 Hvo
      generalize headB 4 ++ bodyW S p 4 = pc at hx2 hwi
      have hnr : -9223372036854775808 ≤ numW 4 v ∧ numW 4 v ≤ 9223372036854775807 := numW_range 4 v (by omega) (by omega)
      have hvn : IntKind.i64.wrap (v : Int) = numW 4 v := by rw [IntKind.wrap_i64]; unfold numW; split <;> omega
      generalize hnn : numW 4 v = nn at hgo hwi hnr hvn
      have Hgo := Lib.hid hgo; have Hwi := Lib.hid hwi; have Hnr := Lib.hid hnr
      clear hgo hwi hpe hvv hB hbl hnn hnr
      have Hbk := Lib.hid (Blk.new w 239 zero4)
      by_cases hof : ofK (nn) = 4
      · have hgf : getW S p = .ok (nn) (4 + 64) := by rw [Hgo.out]; exact if_pos hof
        have hwq := Hwi.out.2 hof
        have Hgf := Lib.hid hgf; have Hwq := Lib.hid hwq; clear hgf hwq hof
        go_wp2_with fail
        with_reducible refine (Hvo.out _).mono ?_
        rintro e w' ⟨rfl, rfl⟩
        go_wp2_with fail
        go_region_held3 (fun _ => True) (first | trivial) (first | (go_at_call 207; refine (Hwo.out (nn) Hnr.out _).mono ?_; rintro e w6 ⟨rfl, hb6⟩; have hb6 := Lib.hid hb6; rw [Hwq.out]))
        have hbk6 := (Hbk.out.alloc (.cells #[.int .i64 0, .int .i64 7, .int .i64 9, .int .i64 12, .int .i64 64] 3)).drew.below hb6.out (by simp; omega)
        have z0 := hbk6.cell 0; have z1 := hbk6.cell 1; have z2 := hbk6.cell 2; have z3 := hbk6.cell 3
        have f0 := hbk6.frozen 0; have f1 := hbk6.frozen 1; have f2 := hbk6.frozen 2; have f3 := hbk6.frozen 3
        simp only [List.getElem?_toArray, List.getElem?_cons_zero, List.getElem?_cons_succ] at z0 z1 z2 z3
        have hbw : Below w.heap.size w w6 := Below.call (Below.alloc (Below.alloc (Below.refl w.heap.size w) (Nat.le_refl _) _) (by simp) _).drew hb6.out (by simp; omega)
        have Hbw := Lib.hid hbw; clear hbk6 hbw
        go_wp2
        refine bodyPost_ret (v := .agg #[.int .i64 (nn), .int .u64 0, .int .i64 68, .int .i64 0]) (by simp [results, Tryz.results165, go_sem, z0, z1, z2, z3]) rfl ?_
        exact ⟨by rw [Hgf.out]; rfl, (((Hbw.out.setCell (by simp) _).setCell (by simp) _).setCell (by simp) _).setCell (by simp) _⟩
      · have hgf : getW S p = .bad := by rw [Hgo.out]; exact if_neg hof
        have hwq := txt_ne (fun h => hof (Hwi.out.1 h))
        have Hgf := Lib.hid hgf; have Hwq := Lib.hid hwq; clear hgf hwq hof
        go_wp2_with fail
        with_reducible refine (Hvo.out _).mono ?_
        rintro e w' ⟨rfl, rfl⟩
        go_wp2_with fail
        go_region_held3 (fun _ => True) (first | trivial) (first | (go_at_call 207; refine (Hwo.out (nn) Hnr.out _).mono ?_; rintro e w6 ⟨rfl, hb6⟩; have hb6 := Lib.hid hb6; have hwq := Hwq.out))
        have hbk6 := (Hbk.out.alloc (.cells #[.int .i64 0, .int .i64 7, .int .i64 9, .int .i64 12, .int .i64 64] 3)).drew.below hb6.out (by simp; omega)
        have z0 := hbk6.cell 0; have z1 := hbk6.cell 1; have z2 := hbk6.cell 2; have z3 := hbk6.cell 3
        have f0 := hbk6.frozen 0; have f1 := hbk6.frozen 1; have f2 := hbk6.frozen 2; have f3 := hbk6.frozen 3
        simp only [List.getElem?_toArray, List.getElem?_cons_zero, List.getElem?_cons_succ] at z0 z1 z2 z3
        have hbw : Below w.heap.size w w6 := Below.call (Below.alloc (Below.alloc (Below.refl w.heap.size w) (Nat.le_refl _) _) (by simp) _).drew hb6.out (by simp; omega)
        have Hbw := Lib.hid hbw; clear hbk6 hbw
        go_wp2
        refine bodyPost_ret (v := .agg #[.int .i64 0, .int .u64 0, .int .i64 0, .int .i64 1]) (by simp [results, Tryz.results165, go_sem, z0, z1, z2, z3]) rfl ?_
        exact ⟨by rw [Hgf.out]; rfl, (((Hbw.out.setCell (by simp) _).setCell (by simp) _).setCell (by simp) _).setCell (by simp) _⟩
end Go.Proofs.YtfkklcmepcocoaaGreatDoor
