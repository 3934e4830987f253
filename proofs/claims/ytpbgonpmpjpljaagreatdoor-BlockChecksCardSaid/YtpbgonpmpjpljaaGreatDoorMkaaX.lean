/- The reference's Unwave by its contract. -/
import Derived.Test.YtpbgonpmpjpljaaGreatDoorMknX
import Derived.Test.YtpbgonpmpjpljaaGreatDoorMkjX
import Derived.OwnWalk
namespace Go.Proofs.YtpbgonpmpjpljaaGreatDoor
open Go.RowKit
set_option linter.unusedVariables false

/-- What Unwave answers. -/
def pRet : WRes → Value
  | .none => .agg #[.int .i64 0, .int .u64 0, .int .i64 0, .int .i64 5]
  | .bad => .agg #[.int .i64 0, .int .u64 0, .int .i64 0, .int .i64 1]
  | .ok n m => .agg #[.int .i64 n, .int .u64 0, .int .i64 m, .int .i64 0]
theorem body_ext {S : List Bool} {q r : Nat} (hr : r ≤ S.length) (hq : q ≤ r) : (txt S).extract q r = txt ((S.drop q).take (r - q)) := by
  rw [txt_extract, List.drop_take]
abbrev zero4 : Array Value := #[.int .i64 0, .int .u64 0, .int .i64 0, .int .i64 0]

set_option maxRecDepth 100000 in
set_option maxHeartbeats 4000000 in
theorem unwave_any (S : List Bool) (p : Nat) (hS : S.length ≤ 1048576) (hp : p ≤ 1048576) (w : World) :
    Calls Tryz.prog 73 #[.string (txt S), .int .i64 p] w fun e w' => e = .returned (pRet (getW S p)) ∧ Below w.heap.size w w' := by
  obtain ⟨st, hst⟩ : ∃ st, st = txt S := ⟨_, rfl⟩
  obtain ⟨N, hN⟩ : ∃ N, N = S.length := ⟨_, rfl⟩
  have hsz : st.size = N := by rw [hst, txt_size, hN]
  have hN1 : N ≤ 1048576 := by omega
  have hN2 : (N : Int) ≤ 1048576 := by omega
  have hp2 : (p : Int) ≤ 1048576 := by omega
  have hidx : ∀ (i : Nat) (h : i < st.size) (b : Bool), S[i]? = some b → st[i].toNat = 48 + b.toNat := by
    intro i h b hb
    subst hst
    have e := txt_get S i h b hb
    exact (congrArg UInt8.toNat e).trans (chB_toNat _)
  have Hidx := Lib.hid hidx; have HN := Lib.hid hN; have Hst := Lib.hid hst
  have Hwo := Lib.hid (fun n hn w => waveOf_any n hn w)
  rw [← hst]
  clear hst hN hidx hS
  have hz0 : w.heap.size < (w.alloc (.cells zero4 131)).heap.size := by simp
  go_enter Tryz.func73, Tryz.ntmps73
  go_wp2
  go_loop [5] (fun o => ∃ j : Nat, j ≤ 4 ∧ o = .int .i64 j ∧ (∀ i, i < j → S[p + i]? = some true)) (fun o => 4 - (intOf o).toNat)
  case atStart => exact ⟨0, by omega, rfl, fun i hi => by omega⟩
  case round =>
    obtain ⟨j, hj, rfl, h1⟩ := hrel
    have H1 := Lib.hid h1; clear h1
    by_cases hj4 : j < 4
    · by_cases hout : N ≤ p + j
      · have hgw : getW S p = .none := getW_none (ones_out S 4 p j hj4 H1.out (List.getElem?_eq_none (by rw [← HN.out]; omega)))
        have Hgw := Lib.hid hgw; clear hgw
        go_wp2
        refine bodyPost_ret (v := .agg #[.int .i64 0, .int .u64 0, .int .i64 0, .int .i64 5]) (by simp [results, Tryz.results73, go_sem]) rfl ?_
        exact ⟨by rw [Hgw.out]; rfl, by go_grown⟩
      · have hpl : p + j < N := by omega
        obtain ⟨b, hbit⟩ : ∃ b, S[p + j]? = some b := ⟨_, List.getElem?_eq_getElem (by rw [← HN.out]; exact hpl)⟩
        have hix := Hidx.out (p + j) (by rw [hsz]; exact hpl) b hbit
        have Hbit := Lib.hid hbit; clear hbit
        cases b with
        | true =>
          have hix2 : st[p + j].toNat = 49 := hix
          clear hix
          go_wp2
          go_round
          case rel => exact ⟨j + 1, by omega, by go_num, fun i hi => by
            rcases Nat.lt_or_ge i j with h | h
            · exact H1.out i h
            · obtain rfl : i = j := by omega
              exact Hbit.out⟩
          case measure => simp [intOf]; omega
        | false =>
          have hix2 : st[p + j].toNat = 48 := hix
          clear hix
          have hgw := getW_of (ones_stop S 4 p j hj4 H1.out Hbit.out)
          have hpe := piece_eq (S := S) (p := p) (k := j) (by omega) H1.out (.inr Hbit.out)
          rw [← HN.out] at hgw hpe
          have Hgw := Lib.hid hgw; have Hpe := Lib.hid hpe
          clear hgw hpe
          have hjc : j = 0 ∨ j = 1 ∨ j = 2 ∨ j = 3 := by omega
          rcases hjc with rfl | rfl | rfl | rfl
          · simp only [Nat.add_zero] at hix2
            have hhl : headL 0 = 1 := rfl
            have hwl : wN 0 = 0 := rfl
            have HH := Lib.hid hhl; have HW := Lib.hid hwl; clear hhl hwl
            obtain ⟨q, hq⟩ : ∃ q, q = p + 1 := ⟨_, rfl⟩
            obtain ⟨r, hr⟩ : ∃ r, r = q + 0 := ⟨_, rfl⟩
            have e1 : (p : Int) + 1 = (q : Int) := by omega
            obtain rfl : r = q := by omega
            have hr2 : r ≤ 1048680 := by omega
            have v1 : IntKind.i64.wrap (r : Int) = (r : Int) := by rw [IntKind.wrap_i64]; omega
            have Hq := Lib.hid hq; have Hr := Lib.hid hr; clear hr
            by_cases hN3 : N < r
            · exact absurd hN3 (by omega)
            clear hq
            have hN4 : r ≤ N := by omega
            have i1 : (r : Int) ≤ (N : Int) := by omega
            have i2 : p ≤ r := by have := Hq.out; have := Hr.out; omega
            have i3 : (p : Int) ≤ (r : Int) := by omega
            have hgo := Hgw.out
            rw [HH.out, HW.out, if_neg (by have := Hq.out; have := Hr.out; omega)] at hgo
            have hpe := Hpe.out (by rw [HH.out, HW.out]; have := Hq.out; have := Hr.out; omega)
            have hbl : (bodyW S p 0).length = 0 := bodyW_len (by rw [HH.out, HW.out, ← HN.out]; have := Hq.out; have := Hr.out; omega)
            have hx2 : st.extract p r = txt (headB 0 ++ bodyW S p 0) := by
              rw [Hst.out, body_ext (by rw [← HN.out]; exact hN4) i2, ← hpe, HH.out, HW.out, show r - p = 1 + 0 by have := Hq.out; have := Hr.out; omega]
            have hwi := wave_iff 0 (bodyW S p 0) (by omega) (by rw [hbl, HW.out])
            have hb0 : bodyW S p 0 = [] := List.eq_nil_of_length_eq_zero hbl
            rw [hb0] at hgo hx2 hwi
            have Hvo := Lib.hid (show ∀ W, Calls Tryz.prog 45 #[.string ByteArray.empty] W fun e w' => e = .returned (.int .u64 0) ∧ w' = W from fun W => valueOf_any [] (by simp) W)
            have hof : ofK 0 = 0 := rfl
            have hgo2 : getW S p = .ok 0 (1 + 0) := by rw [hgo]; rfl
            have hwi2 : waveBits 0 = headB 0 ++ [] := hwi.2 rfl
            generalize headB 0 ++ ([] : List Bool) = pc at hx2 hwi2
            have hnr : (-9223372036854775808 : Int) ≤ 0 ∧ (0 : Int) ≤ 9223372036854775807 := by omega
            have Hgf := Lib.hid hgo2; have Hwq := Lib.hid hwi2; have Hnr := Lib.hid hnr; have Hx2 := Lib.hid hx2
            clear hgo hwi hpe hbl hb0 hgo2 hwi2 hnr hof
            have Hbk := Lib.hid (Blk.new w 131 zero4)
            go_wp2_with fail
            with_reducible refine (Hvo.out _).mono ?_
            rintro e w' ⟨rfl, rfl⟩
            go_wp2_with fail
            go_region_held3 (fun _ => True) (first | trivial) (first | (go_at_call 107; refine (Hwo.out (0) Hnr.out _).mono ?_; rintro e w6 ⟨rfl, hb6⟩; have hb6 := Lib.hid hb6; rw [Hwq.out]))
            have hbk6 := (Hbk.out.alloc (.cells #[.int .i64 0, .int .i64 7, .int .i64 9, .int .i64 12, .int .i64 64] 3)).drew.below hb6.out (by simp; omega)
            have z0 := hbk6.cell 0; have z1 := hbk6.cell 1; have z2 := hbk6.cell 2; have z3 := hbk6.cell 3
            have f0 := hbk6.frozen 0; have f1 := hbk6.frozen 1; have f2 := hbk6.frozen 2; have f3 := hbk6.frozen 3
            simp only [List.getElem?_toArray, List.getElem?_cons_zero, List.getElem?_cons_succ] at z0 z1 z2 z3
            have hbw : Below w.heap.size w w6 := Below.call (Below.alloc (Below.alloc (Below.refl w.heap.size w) (Nat.le_refl _) _) (by simp) _).drew hb6.out (by simp; omega)
            have Hbw := Lib.hid hbw; clear hbk6 hbw
            go_wp2
            refine bodyPost_ret (v := .agg #[.int .i64 (0), .int .u64 0, .int .i64 1, .int .i64 0]) (by simp [results, Tryz.results73, go_sem, z0, z1, z2, z3]) rfl ?_
            exact ⟨by rw [Hgf.out]; rfl, (((Hbw.out.setCell (by simp) _).setCell (by simp) _).setCell (by simp) _).setCell (by simp) _⟩
          · have hhl : headL 1 = 2 := rfl
            have hwl : wN 1 = 7 := rfl
            have HH := Lib.hid hhl; have HW := Lib.hid hwl; clear hhl hwl
            obtain ⟨q, hq⟩ : ∃ q, q = p + 2 := ⟨_, rfl⟩
            obtain ⟨r, hr⟩ : ∃ r, r = q + 7 := ⟨_, rfl⟩
            have e1 : (p : Int) + 2 = (q : Int) := by omega
            have e2 : (q : Int) + 7 = (r : Int) := by omega
            have hr2 : r ≤ 1048680 := by omega
            have v1 : IntKind.i64.wrap (q : Int) = (q : Int) := by rw [IntKind.wrap_i64]; omega
            have v2 : IntKind.i64.wrap (r : Int) = (r : Int) := by rw [IntKind.wrap_i64]; omega
            have Hq := Lib.hid hq; have Hr := Lib.hid hr; clear hr
            clear hq
            by_cases hN3 : N < r
            · have hgn : getW S p = .none := by rw [Hgw.out, HH.out, HW.out, if_pos (by have := Hq.out; have := Hr.out; omega)]
              have Hgn := Lib.hid hgn; clear hgn
              go_wp2
              refine bodyPost_ret (v := .agg #[.int .i64 0, .int .u64 0, .int .i64 0, .int .i64 5]) (by simp [results, Tryz.results73, go_sem]) rfl ?_
              exact ⟨by rw [Hgn.out]; rfl, by go_grown⟩
            have hN4 : r ≤ N := by omega
            have i1 : (r : Int) ≤ (N : Int) := by omega
            have i2 : p ≤ r := by have := Hq.out; have := Hr.out; omega
            have i3 : (p : Int) ≤ (r : Int) := by omega
            have i4 : q ≤ r := by have := Hr.out; omega
            have i5 : (q : Int) ≤ (r : Int) := by omega
            have hgo := Hgw.out
            rw [HH.out, HW.out, if_neg (by have := Hq.out; have := Hr.out; omega)] at hgo
            have hpe := Hpe.out (by rw [HH.out, HW.out]; have := Hq.out; have := Hr.out; omega)
            have hbl : (bodyW S p 1).length = 7 := bodyW_len (by rw [HH.out, HW.out, ← HN.out]; have := Hq.out; have := Hr.out; omega)
            have hx1 : st.extract q r = txt (bodyW S p 1) := by
              rw [Hst.out, body_ext (by rw [← HN.out]; exact hN4) i4]; unfold bodyW; rw [HH.out, HW.out, ← Hq.out, show r - q = 7 by have := Hr.out; omega]
            have hx2 : st.extract p r = txt (headB 1 ++ bodyW S p 1) := by
              rw [Hst.out, body_ext (by rw [← HN.out]; exact hN4) i2, ← hpe, HH.out, HW.out, show r - p = 2 + 7 by have := Hq.out; have := Hr.out; omega]
            have hwi := wave_iff 1 (bodyW S p 1) (by omega) (by rw [hbl, HW.out])
            have hvl := valN_lt (bodyW S p 1)
            rw [hbl] at hvl
            have Hvo := Lib.hid (valueOf_any (bodyW S p 1) (by omega))
            generalize hvv : valN (bodyW S p 1) = v at hgo hwi hvl Hvo
            generalize hB : txt (bodyW S p 1) = tb at hx1 Hvo
            generalize headB 1 ++ bodyW S p 1 = pc at hx2 hwi
            have hnr : -9223372036854775808 ≤ numW 1 v ∧ numW 1 v ≤ 9223372036854775807 := numW_range 1 v (by omega) (by omega)
            have hvn : numW 1 v = (v : Int) - 63 := rfl
            generalize hnn : numW 1 v = nn at hgo hwi hnr hvn
            subst hvn
            have Hgo := Lib.hid hgo; have Hwi := Lib.hid hwi; have Hnr := Lib.hid hnr
            clear hgo hwi hpe hvv hB hbl hnn hnr
            have Hbk := Lib.hid (Blk.new w 131 zero4)
            by_cases hof : ofK ((v : Int) - 63) = 1
            · have hgf : getW S p = .ok ((v : Int) - 63) (2 + 7) := by rw [Hgo.out]; exact if_pos hof
              have hwq := Hwi.out.2 hof
              have Hgf := Lib.hid hgf; have Hwq := Lib.hid hwq; clear hgf hwq hof
              go_wp2_with fail
              with_reducible refine (Hvo.out _).mono ?_
              rintro e w' ⟨rfl, rfl⟩
              go_wp2_with fail
              go_region_held3 (fun _ => True) (first | trivial) (first | (go_at_call 107; refine (Hwo.out ((v : Int) - 63) Hnr.out _).mono ?_; rintro e w6 ⟨rfl, hb6⟩; have hb6 := Lib.hid hb6; rw [Hwq.out]))
              have hbk6 := (Hbk.out.alloc (.cells #[.int .i64 0, .int .i64 7, .int .i64 9, .int .i64 12, .int .i64 64] 3)).drew.below hb6.out (by simp; omega)
              have z0 := hbk6.cell 0; have z1 := hbk6.cell 1; have z2 := hbk6.cell 2; have z3 := hbk6.cell 3
              have f0 := hbk6.frozen 0; have f1 := hbk6.frozen 1; have f2 := hbk6.frozen 2; have f3 := hbk6.frozen 3
              simp only [List.getElem?_toArray, List.getElem?_cons_zero, List.getElem?_cons_succ] at z0 z1 z2 z3
              have hbw : Below w.heap.size w w6 := Below.call (Below.alloc (Below.alloc (Below.refl w.heap.size w) (Nat.le_refl _) _) (by simp) _).drew hb6.out (by simp; omega)
              have Hbw := Lib.hid hbw; clear hbk6 hbw
              go_wp2
              refine bodyPost_ret (v := .agg #[.int .i64 ((v : Int) - 63), .int .u64 0, .int .i64 9, .int .i64 0]) (by simp [results, Tryz.results73, go_sem, z0, z1, z2, z3]) rfl ?_
              exact ⟨by rw [Hgf.out]; rfl, (((Hbw.out.setCell (by simp) _).setCell (by simp) _).setCell (by simp) _).setCell (by simp) _⟩
            · have hgf : getW S p = .bad := by rw [Hgo.out]; exact if_neg hof
              have hwq := txt_ne (fun h => hof (Hwi.out.1 h))
              have Hgf := Lib.hid hgf; have Hwq := Lib.hid hwq; clear hgf hwq hof
              go_wp2_with fail
              with_reducible refine (Hvo.out _).mono ?_
              rintro e w' ⟨rfl, rfl⟩
              go_wp2_with fail
              go_region_held3 (fun _ => True) (first | trivial) (first | (go_at_call 107; refine (Hwo.out ((v : Int) - 63) Hnr.out _).mono ?_; rintro e w6 ⟨rfl, hb6⟩; have hb6 := Lib.hid hb6; have hwq := Hwq.out))
              have hbk6 := (Hbk.out.alloc (.cells #[.int .i64 0, .int .i64 7, .int .i64 9, .int .i64 12, .int .i64 64] 3)).drew.below hb6.out (by simp; omega)
              have z0 := hbk6.cell 0; have z1 := hbk6.cell 1; have z2 := hbk6.cell 2; have z3 := hbk6.cell 3
              have f0 := hbk6.frozen 0; have f1 := hbk6.frozen 1; have f2 := hbk6.frozen 2; have f3 := hbk6.frozen 3
              simp only [List.getElem?_toArray, List.getElem?_cons_zero, List.getElem?_cons_succ] at z0 z1 z2 z3
              have hbw : Below w.heap.size w w6 := Below.call (Below.alloc (Below.alloc (Below.refl w.heap.size w) (Nat.le_refl _) _) (by simp) _).drew hb6.out (by simp; omega)
              have Hbw := Lib.hid hbw; clear hbk6 hbw
              go_wp2
              refine bodyPost_ret (v := .agg #[.int .i64 0, .int .u64 0, .int .i64 0, .int .i64 1]) (by simp [results, Tryz.results73, go_sem, z0, z1, z2, z3]) rfl ?_
              exact ⟨by rw [Hgf.out]; rfl, (((Hbw.out.setCell (by simp) _).setCell (by simp) _).setCell (by simp) _).setCell (by simp) _⟩
          · have hhl : headL 2 = 3 := rfl
            have hwl : wN 2 = 9 := rfl
            have HH := Lib.hid hhl; have HW := Lib.hid hwl; clear hhl hwl
            obtain ⟨q, hq⟩ : ∃ q, q = p + 3 := ⟨_, rfl⟩
            obtain ⟨r, hr⟩ : ∃ r, r = q + 9 := ⟨_, rfl⟩
            have e1 : (p : Int) + 3 = (q : Int) := by omega
            have e2 : (q : Int) + 9 = (r : Int) := by omega
            have hr2 : r ≤ 1048680 := by omega
            have v1 : IntKind.i64.wrap (q : Int) = (q : Int) := by rw [IntKind.wrap_i64]; omega
            have v2 : IntKind.i64.wrap (r : Int) = (r : Int) := by rw [IntKind.wrap_i64]; omega
            have Hq := Lib.hid hq; have Hr := Lib.hid hr; clear hr
            clear hq
            by_cases hN3 : N < r
            · have hgn : getW S p = .none := by rw [Hgw.out, HH.out, HW.out, if_pos (by have := Hq.out; have := Hr.out; omega)]
              have Hgn := Lib.hid hgn; clear hgn
              go_wp2
              refine bodyPost_ret (v := .agg #[.int .i64 0, .int .u64 0, .int .i64 0, .int .i64 5]) (by simp [results, Tryz.results73, go_sem]) rfl ?_
              exact ⟨by rw [Hgn.out]; rfl, by go_grown⟩
            have hN4 : r ≤ N := by omega
            have i1 : (r : Int) ≤ (N : Int) := by omega
            have i2 : p ≤ r := by have := Hq.out; have := Hr.out; omega
            have i3 : (p : Int) ≤ (r : Int) := by omega
            have i4 : q ≤ r := by have := Hr.out; omega
            have i5 : (q : Int) ≤ (r : Int) := by omega
            have hgo := Hgw.out
            rw [HH.out, HW.out, if_neg (by have := Hq.out; have := Hr.out; omega)] at hgo
            have hpe := Hpe.out (by rw [HH.out, HW.out]; have := Hq.out; have := Hr.out; omega)
            have hbl : (bodyW S p 2).length = 9 := bodyW_len (by rw [HH.out, HW.out, ← HN.out]; have := Hq.out; have := Hr.out; omega)
            have hx1 : st.extract q r = txt (bodyW S p 2) := by
              rw [Hst.out, body_ext (by rw [← HN.out]; exact hN4) i4]; unfold bodyW; rw [HH.out, HW.out, ← Hq.out, show r - q = 9 by have := Hr.out; omega]
            have hx2 : st.extract p r = txt (headB 2 ++ bodyW S p 2) := by
              rw [Hst.out, body_ext (by rw [← HN.out]; exact hN4) i2, ← hpe, HH.out, HW.out, show r - p = 3 + 9 by have := Hq.out; have := Hr.out; omega]
            have hwi := wave_iff 2 (bodyW S p 2) (by omega) (by rw [hbl, HW.out])
            have hvl := valN_lt (bodyW S p 2)
            rw [hbl] at hvl
            have Hvo := Lib.hid (valueOf_any (bodyW S p 2) (by omega))
            generalize hvv : valN (bodyW S p 2) = v at hgo hwi hvl Hvo
            generalize hB : txt (bodyW S p 2) = tb at hx1 Hvo
            generalize headB 2 ++ bodyW S p 2 = pc at hx2 hwi
            have hnr : -9223372036854775808 ≤ numW 2 v ∧ numW 2 v ≤ 9223372036854775807 := numW_range 2 v (by omega) (by omega)
            have hvn : numW 2 v = (v : Int) - 255 := rfl
            generalize hnn : numW 2 v = nn at hgo hwi hnr hvn
            subst hvn
            have Hgo := Lib.hid hgo; have Hwi := Lib.hid hwi; have Hnr := Lib.hid hnr
            clear hgo hwi hpe hvv hB hbl hnn hnr
            have Hbk := Lib.hid (Blk.new w 131 zero4)
            by_cases hof : ofK ((v : Int) - 255) = 2
            · have hgf : getW S p = .ok ((v : Int) - 255) (3 + 9) := by rw [Hgo.out]; exact if_pos hof
              have hwq := Hwi.out.2 hof
              have Hgf := Lib.hid hgf; have Hwq := Lib.hid hwq; clear hgf hwq hof
              go_wp2_with fail
              with_reducible refine (Hvo.out _).mono ?_
              rintro e w' ⟨rfl, rfl⟩
              go_wp2_with fail
              go_region_held3 (fun _ => True) (first | trivial) (first | (go_at_call 107; refine (Hwo.out ((v : Int) - 255) Hnr.out _).mono ?_; rintro e w6 ⟨rfl, hb6⟩; have hb6 := Lib.hid hb6; rw [Hwq.out]))
              have hbk6 := (Hbk.out.alloc (.cells #[.int .i64 0, .int .i64 7, .int .i64 9, .int .i64 12, .int .i64 64] 3)).drew.below hb6.out (by simp; omega)
              have z0 := hbk6.cell 0; have z1 := hbk6.cell 1; have z2 := hbk6.cell 2; have z3 := hbk6.cell 3
              have f0 := hbk6.frozen 0; have f1 := hbk6.frozen 1; have f2 := hbk6.frozen 2; have f3 := hbk6.frozen 3
              simp only [List.getElem?_toArray, List.getElem?_cons_zero, List.getElem?_cons_succ] at z0 z1 z2 z3
              have hbw : Below w.heap.size w w6 := Below.call (Below.alloc (Below.alloc (Below.refl w.heap.size w) (Nat.le_refl _) _) (by simp) _).drew hb6.out (by simp; omega)
              have Hbw := Lib.hid hbw; clear hbk6 hbw
              go_wp2
              refine bodyPost_ret (v := .agg #[.int .i64 ((v : Int) - 255), .int .u64 0, .int .i64 12, .int .i64 0]) (by simp [results, Tryz.results73, go_sem, z0, z1, z2, z3]) rfl ?_
              exact ⟨by rw [Hgf.out]; rfl, (((Hbw.out.setCell (by simp) _).setCell (by simp) _).setCell (by simp) _).setCell (by simp) _⟩
            · have hgf : getW S p = .bad := by rw [Hgo.out]; exact if_neg hof
              have hwq := txt_ne (fun h => hof (Hwi.out.1 h))
              have Hgf := Lib.hid hgf; have Hwq := Lib.hid hwq; clear hgf hwq hof
              go_wp2_with fail
              with_reducible refine (Hvo.out _).mono ?_
              rintro e w' ⟨rfl, rfl⟩
              go_wp2_with fail
              go_region_held3 (fun _ => True) (first | trivial) (first | (go_at_call 107; refine (Hwo.out ((v : Int) - 255) Hnr.out _).mono ?_; rintro e w6 ⟨rfl, hb6⟩; have hb6 := Lib.hid hb6; have hwq := Hwq.out))
              have hbk6 := (Hbk.out.alloc (.cells #[.int .i64 0, .int .i64 7, .int .i64 9, .int .i64 12, .int .i64 64] 3)).drew.below hb6.out (by simp; omega)
              have z0 := hbk6.cell 0; have z1 := hbk6.cell 1; have z2 := hbk6.cell 2; have z3 := hbk6.cell 3
              have f0 := hbk6.frozen 0; have f1 := hbk6.frozen 1; have f2 := hbk6.frozen 2; have f3 := hbk6.frozen 3
              simp only [List.getElem?_toArray, List.getElem?_cons_zero, List.getElem?_cons_succ] at z0 z1 z2 z3
              have hbw : Below w.heap.size w w6 := Below.call (Below.alloc (Below.alloc (Below.refl w.heap.size w) (Nat.le_refl _) _) (by simp) _).drew hb6.out (by simp; omega)
              have Hbw := Lib.hid hbw; clear hbk6 hbw
              go_wp2
              refine bodyPost_ret (v := .agg #[.int .i64 0, .int .u64 0, .int .i64 0, .int .i64 1]) (by simp [results, Tryz.results73, go_sem, z0, z1, z2, z3]) rfl ?_
              exact ⟨by rw [Hgf.out]; rfl, (((Hbw.out.setCell (by simp) _).setCell (by simp) _).setCell (by simp) _).setCell (by simp) _⟩
          · have hhl : headL 3 = 4 := rfl
            have hwl : wN 3 = 12 := rfl
            have HH := Lib.hid hhl; have HW := Lib.hid hwl; clear hhl hwl
            obtain ⟨q, hq⟩ : ∃ q, q = p + 4 := ⟨_, rfl⟩
            obtain ⟨r, hr⟩ : ∃ r, r = q + 12 := ⟨_, rfl⟩
            have e1 : (p : Int) + 4 = (q : Int) := by omega
            have e2 : (q : Int) + 12 = (r : Int) := by omega
            have hr2 : r ≤ 1048680 := by omega
            have v1 : IntKind.i64.wrap (q : Int) = (q : Int) := by rw [IntKind.wrap_i64]; omega
            have v2 : IntKind.i64.wrap (r : Int) = (r : Int) := by rw [IntKind.wrap_i64]; omega
            have Hq := Lib.hid hq; have Hr := Lib.hid hr; clear hr
            clear hq
            by_cases hN3 : N < r
            · have hgn : getW S p = .none := by rw [Hgw.out, HH.out, HW.out, if_pos (by have := Hq.out; have := Hr.out; omega)]
              have Hgn := Lib.hid hgn; clear hgn
              go_wp2
              refine bodyPost_ret (v := .agg #[.int .i64 0, .int .u64 0, .int .i64 0, .int .i64 5]) (by simp [results, Tryz.results73, go_sem]) rfl ?_
              exact ⟨by rw [Hgn.out]; rfl, by go_grown⟩
            have hN4 : r ≤ N := by omega
            have i1 : (r : Int) ≤ (N : Int) := by omega
            have i2 : p ≤ r := by have := Hq.out; have := Hr.out; omega
            have i3 : (p : Int) ≤ (r : Int) := by omega
            have i4 : q ≤ r := by have := Hr.out; omega
            have i5 : (q : Int) ≤ (r : Int) := by omega
            have hgo := Hgw.out
            rw [HH.out, HW.out, if_neg (by have := Hq.out; have := Hr.out; omega)] at hgo
            have hpe := Hpe.out (by rw [HH.out, HW.out]; have := Hq.out; have := Hr.out; omega)
            have hbl : (bodyW S p 3).length = 12 := bodyW_len (by rw [HH.out, HW.out, ← HN.out]; have := Hq.out; have := Hr.out; omega)
            have hx1 : st.extract q r = txt (bodyW S p 3) := by
              rw [Hst.out, body_ext (by rw [← HN.out]; exact hN4) i4]; unfold bodyW; rw [HH.out, HW.out, ← Hq.out, show r - q = 12 by have := Hr.out; omega]
            have hx2 : st.extract p r = txt (headB 3 ++ bodyW S p 3) := by
              rw [Hst.out, body_ext (by rw [← HN.out]; exact hN4) i2, ← hpe, HH.out, HW.out, show r - p = 4 + 12 by have := Hq.out; have := Hr.out; omega]
            have hwi := wave_iff 3 (bodyW S p 3) (by omega) (by rw [hbl, HW.out])
            have hvl := valN_lt (bodyW S p 3)
            rw [hbl] at hvl
            have Hvo := Lib.hid (valueOf_any (bodyW S p 3) (by omega))
            generalize hvv : valN (bodyW S p 3) = v at hgo hwi hvl Hvo
            generalize hB : txt (bodyW S p 3) = tb at hx1 Hvo
            generalize headB 3 ++ bodyW S p 3 = pc at hx2 hwi
            have hnr : -9223372036854775808 ≤ numW 3 v ∧ numW 3 v ≤ 9223372036854775807 := numW_range 3 v (by omega) (by omega)
            have hvn : numW 3 v = (v : Int) - 2047 := rfl
            generalize hnn : numW 3 v = nn at hgo hwi hnr hvn
            subst hvn
            have Hgo := Lib.hid hgo; have Hwi := Lib.hid hwi; have Hnr := Lib.hid hnr
            clear hgo hwi hpe hvv hB hbl hnn hnr
            have Hbk := Lib.hid (Blk.new w 131 zero4)
            by_cases hof : ofK ((v : Int) - 2047) = 3
            · have hgf : getW S p = .ok ((v : Int) - 2047) (4 + 12) := by rw [Hgo.out]; exact if_pos hof
              have hwq := Hwi.out.2 hof
              have Hgf := Lib.hid hgf; have Hwq := Lib.hid hwq; clear hgf hwq hof
              go_wp2_with fail
              with_reducible refine (Hvo.out _).mono ?_
              rintro e w' ⟨rfl, rfl⟩
              go_wp2_with fail
              go_region_held3 (fun _ => True) (first | trivial) (first | (go_at_call 107; refine (Hwo.out ((v : Int) - 2047) Hnr.out _).mono ?_; rintro e w6 ⟨rfl, hb6⟩; have hb6 := Lib.hid hb6; rw [Hwq.out]))
              have hbk6 := (Hbk.out.alloc (.cells #[.int .i64 0, .int .i64 7, .int .i64 9, .int .i64 12, .int .i64 64] 3)).drew.below hb6.out (by simp; omega)
              have z0 := hbk6.cell 0; have z1 := hbk6.cell 1; have z2 := hbk6.cell 2; have z3 := hbk6.cell 3
              have f0 := hbk6.frozen 0; have f1 := hbk6.frozen 1; have f2 := hbk6.frozen 2; have f3 := hbk6.frozen 3
              simp only [List.getElem?_toArray, List.getElem?_cons_zero, List.getElem?_cons_succ] at z0 z1 z2 z3
              have hbw : Below w.heap.size w w6 := Below.call (Below.alloc (Below.alloc (Below.refl w.heap.size w) (Nat.le_refl _) _) (by simp) _).drew hb6.out (by simp; omega)
              have Hbw := Lib.hid hbw; clear hbk6 hbw
              go_wp2
              refine bodyPost_ret (v := .agg #[.int .i64 ((v : Int) - 2047), .int .u64 0, .int .i64 16, .int .i64 0]) (by simp [results, Tryz.results73, go_sem, z0, z1, z2, z3]) rfl ?_
              exact ⟨by rw [Hgf.out]; rfl, (((Hbw.out.setCell (by simp) _).setCell (by simp) _).setCell (by simp) _).setCell (by simp) _⟩
            · have hgf : getW S p = .bad := by rw [Hgo.out]; exact if_neg hof
              have hwq := txt_ne (fun h => hof (Hwi.out.1 h))
              have Hgf := Lib.hid hgf; have Hwq := Lib.hid hwq; clear hgf hwq hof
              go_wp2_with fail
              with_reducible refine (Hvo.out _).mono ?_
              rintro e w' ⟨rfl, rfl⟩
              go_wp2_with fail
              go_region_held3 (fun _ => True) (first | trivial) (first | (go_at_call 107; refine (Hwo.out ((v : Int) - 2047) Hnr.out _).mono ?_; rintro e w6 ⟨rfl, hb6⟩; have hb6 := Lib.hid hb6; have hwq := Hwq.out))
              have hbk6 := (Hbk.out.alloc (.cells #[.int .i64 0, .int .i64 7, .int .i64 9, .int .i64 12, .int .i64 64] 3)).drew.below hb6.out (by simp; omega)
              have z0 := hbk6.cell 0; have z1 := hbk6.cell 1; have z2 := hbk6.cell 2; have z3 := hbk6.cell 3
              have f0 := hbk6.frozen 0; have f1 := hbk6.frozen 1; have f2 := hbk6.frozen 2; have f3 := hbk6.frozen 3
              simp only [List.getElem?_toArray, List.getElem?_cons_zero, List.getElem?_cons_succ] at z0 z1 z2 z3
              have hbw : Below w.heap.size w w6 := Below.call (Below.alloc (Below.alloc (Below.refl w.heap.size w) (Nat.le_refl _) _) (by simp) _).drew hb6.out (by simp; omega)
              have Hbw := Lib.hid hbw; clear hbk6 hbw
              go_wp2
              refine bodyPost_ret (v := .agg #[.int .i64 0, .int .u64 0, .int .i64 0, .int .i64 1]) (by simp [results, Tryz.results73, go_sem, z0, z1, z2, z3]) rfl ?_
              exact ⟨by rw [Hgf.out]; rfl, (((Hbw.out.setCell (by simp) _).setCell (by simp) _).setCell (by simp) _).setCell (by simp) _⟩
    · obtain rfl : j = 4 := by omega
      have hgw := getW_of (ones_all S 4 p H1.out)
      have hpe := piece_eq (S := S) (p := p) (k := 4) (by omega) H1.out (.inl rfl)
      rw [← HN.out] at hgw hpe
      have Hgw := Lib.hid hgw; have Hpe := Lib.hid hpe
      clear hgw hpe
      have hhl : headL 4 = 4 := rfl
      have hwl : wN 4 = 64 := rfl
      have HH := Lib.hid hhl; have HW := Lib.hid hwl; clear hhl hwl
      obtain ⟨q, hq⟩ : ∃ q, q = p + 4 := ⟨_, rfl⟩
      obtain ⟨r, hr⟩ : ∃ r, r = q + 64 := ⟨_, rfl⟩
      have e1 : (p : Int) + 4 = (q : Int) := by omega
      have e2 : (q : Int) + 64 = (r : Int) := by omega
      have hr2 : r ≤ 1048680 := by omega
      have v1 : IntKind.i64.wrap (q : Int) = (q : Int) := by rw [IntKind.wrap_i64]; omega
      have v2 : IntKind.i64.wrap (r : Int) = (r : Int) := by rw [IntKind.wrap_i64]; omega
      have Hq := Lib.hid hq; have Hr := Lib.hid hr; clear hr
      clear hq
      by_cases hN3 : N < r
      · have hgn : getW S p = .none := by rw [Hgw.out, HH.out, HW.out, if_pos (by have := Hq.out; have := Hr.out; omega)]
        have Hgn := Lib.hid hgn; clear hgn
        go_wp2
        refine bodyPost_ret (v := .agg #[.int .i64 0, .int .u64 0, .int .i64 0, .int .i64 5]) (by simp [results, Tryz.results73, go_sem]) rfl ?_
        exact ⟨by rw [Hgn.out]; rfl, by go_grown⟩
      have hN4 : r ≤ N := by omega
      have i1 : (r : Int) ≤ (N : Int) := by omega
      have i2 : p ≤ r := by have := Hq.out; have := Hr.out; omega
      have i3 : (p : Int) ≤ (r : Int) := by omega
      have i4 : q ≤ r := by have := Hr.out; omega
      have i5 : (q : Int) ≤ (r : Int) := by omega
      have hgo := Hgw.out
      rw [HH.out, HW.out, if_neg (by have := Hq.out; have := Hr.out; omega)] at hgo
      have hpe := Hpe.out (by rw [HH.out, HW.out]; have := Hq.out; have := Hr.out; omega)
      have hbl : (bodyW S p 4).length = 64 := bodyW_len (by rw [HH.out, HW.out, ← HN.out]; have := Hq.out; have := Hr.out; omega)
      have hx1 : st.extract q r = txt (bodyW S p 4) := by
        rw [Hst.out, body_ext (by rw [← HN.out]; exact hN4) i4]; unfold bodyW; rw [HH.out, HW.out, ← Hq.out, show r - q = 64 by have := Hr.out; omega]
      have hx2 : st.extract p r = txt (headB 4 ++ bodyW S p 4) := by
        rw [Hst.out, body_ext (by rw [← HN.out]; exact hN4) i2, ← hpe, HH.out, HW.out, show r - p = 4 + 64 by have := Hq.out; have := Hr.out; omega]
      have hwi := wave_iff 4 (bodyW S p 4) (by omega) (by rw [hbl, HW.out])
      have hvl := valN_lt (bodyW S p 4)
      rw [hbl] at hvl
      have Hvo := Lib.hid (valueOf_any (bodyW S p 4) (by omega))
      generalize hvv : valN (bodyW S p 4) = v at hgo hwi hvl Hvo
      generalize hB : txt (bodyW S p 4) = tb at hx1 Hvo
      generalize headB 4 ++ bodyW S p 4 = pc at hx2 hwi
      have hnr : -9223372036854775808 ≤ numW 4 v ∧ numW 4 v ≤ 9223372036854775807 := numW_range 4 v (by omega) (by omega)
      have hvn : IntKind.i64.wrap (v : Int) = numW 4 v := by rw [IntKind.wrap_i64]; unfold numW; split <;> omega
      generalize hnn : numW 4 v = nn at hgo hwi hnr hvn
      have Hgo := Lib.hid hgo; have Hwi := Lib.hid hwi; have Hnr := Lib.hid hnr
      clear hgo hwi hpe hvv hB hbl hnn hnr
      have Hbk := Lib.hid (Blk.new w 131 zero4)
      by_cases hof : ofK (nn) = 4
      · have hgf : getW S p = .ok (nn) (4 + 64) := by rw [Hgo.out]; exact if_pos hof
        have hwq := Hwi.out.2 hof
        have Hgf := Lib.hid hgf; have Hwq := Lib.hid hwq; clear hgf hwq hof
        go_wp2_with fail
        with_reducible refine (Hvo.out _).mono ?_
        rintro e w' ⟨rfl, rfl⟩
        go_wp2_with fail
        go_region_held3 (fun _ => True) (first | trivial) (first | (go_at_call 107; refine (Hwo.out (nn) Hnr.out _).mono ?_; rintro e w6 ⟨rfl, hb6⟩; have hb6 := Lib.hid hb6; rw [Hwq.out]))
        have hbk6 := (Hbk.out.alloc (.cells #[.int .i64 0, .int .i64 7, .int .i64 9, .int .i64 12, .int .i64 64] 3)).drew.below hb6.out (by simp; omega)
        have z0 := hbk6.cell 0; have z1 := hbk6.cell 1; have z2 := hbk6.cell 2; have z3 := hbk6.cell 3
        have f0 := hbk6.frozen 0; have f1 := hbk6.frozen 1; have f2 := hbk6.frozen 2; have f3 := hbk6.frozen 3
        simp only [List.getElem?_toArray, List.getElem?_cons_zero, List.getElem?_cons_succ] at z0 z1 z2 z3
        have hbw : Below w.heap.size w w6 := Below.call (Below.alloc (Below.alloc (Below.refl w.heap.size w) (Nat.le_refl _) _) (by simp) _).drew hb6.out (by simp; omega)
        have Hbw := Lib.hid hbw; clear hbk6 hbw
        go_wp2
        refine bodyPost_ret (v := .agg #[.int .i64 (nn), .int .u64 0, .int .i64 68, .int .i64 0]) (by simp [results, Tryz.results73, go_sem, z0, z1, z2, z3]) rfl ?_
        exact ⟨by rw [Hgf.out]; rfl, (((Hbw.out.setCell (by simp) _).setCell (by simp) _).setCell (by simp) _).setCell (by simp) _⟩
      · have hgf : getW S p = .bad := by rw [Hgo.out]; exact if_neg hof
        have hwq := txt_ne (fun h => hof (Hwi.out.1 h))
        have Hgf := Lib.hid hgf; have Hwq := Lib.hid hwq; clear hgf hwq hof
        go_wp2_with fail
        with_reducible refine (Hvo.out _).mono ?_
        rintro e w' ⟨rfl, rfl⟩
        go_wp2_with fail
        go_region_held3 (fun _ => True) (first | trivial) (first | (go_at_call 107; refine (Hwo.out (nn) Hnr.out _).mono ?_; rintro e w6 ⟨rfl, hb6⟩; have hb6 := Lib.hid hb6; have hwq := Hwq.out))
        have hbk6 := (Hbk.out.alloc (.cells #[.int .i64 0, .int .i64 7, .int .i64 9, .int .i64 12, .int .i64 64] 3)).drew.below hb6.out (by simp; omega)
        have z0 := hbk6.cell 0; have z1 := hbk6.cell 1; have z2 := hbk6.cell 2; have z3 := hbk6.cell 3
        have f0 := hbk6.frozen 0; have f1 := hbk6.frozen 1; have f2 := hbk6.frozen 2; have f3 := hbk6.frozen 3
        simp only [List.getElem?_toArray, List.getElem?_cons_zero, List.getElem?_cons_succ] at z0 z1 z2 z3
        have hbw : Below w.heap.size w w6 := Below.call (Below.alloc (Below.alloc (Below.refl w.heap.size w) (Nat.le_refl _) _) (by simp) _).drew hb6.out (by simp; omega)
        have Hbw := Lib.hid hbw; clear hbk6 hbw
        go_wp2
        refine bodyPost_ret (v := .agg #[.int .i64 0, .int .u64 0, .int .i64 0, .int .i64 1]) (by simp [results, Tryz.results73, go_sem, z0, z1, z2, z3]) rfl ?_
        exact ⟨by rw [Hgf.out]; rfl, (((Hbw.out.setCell (by simp) _).setCell (by simp) _).setCell (by simp) _).setCell (by simp) _⟩
end Go.Proofs.YtpbgonpmpjpljaaGreatDoor

namespace Go.Proofs.YtpbgonpmpjpljaaGreatDoor
open Go.RowKit
set_option linter.unusedVariables false

theorem getW_le {S : List Bool} {p m : Nat} {k : Int} (h : getW S p = .ok k m) : p + m ≤ S.length := by
  unfold getW at h
  split at h
  · cases h
  · rename_i j _
    split at h
    · cases h
    · split at h
      · injection h with h1 h2; omega
      · cases h

theorem isTick_ok (t : Int) (h1 : -1099511627776 ≤ t) (h2 : t ≤ 1099511627776) (w : World) : Calls Tryz.prog 74 #[.int .i64 t] w fun e w' => e = .returned (.bool true) ∧ w = w' := by
  go_enter Tryz.func74, Tryz.ntmps74
  go_wp2
  go_ret
  exact ⟨rfl, rfl⟩
theorem rf_append {w w6 wa : World} {i : Nat} {acc : List Int} {t : Int} {v v' : Value} (hown : w6.ownsRow w.heap.size 3 1 v i (acc.map (Value.int .i64))) (hb : Below w.heap.size w w6)
    (hown' : wa.ownsRow w.heap.size 3 1 v' (i + 1) (acc.map (Value.int .i64) ++ [.int .i64 t])) (hgr : (w6.alloc (.cells #[.int .i64 t] 3)).grownBy wa v.ownBlock) :
    wa.ownsRow w.heap.size 3 1 v' (i + 1) ((acc ++ [t]).map (Value.int .i64)) ∧ Below w.heap.size w wa :=
  ⟨by rw [List.map_append]; exact hown', Below.grown (Below.alloc hb hb.size _) hgr (by have := hb.size; simp; omega) (fun g hg => (own_lt hown g hg).1)⟩
set_option maxRecDepth 100000 in
set_option maxHeartbeats 8000000 in
theorem readTicks_at (S : List Bool) (b n : Nat) (w : World) (hS : S.length ≤ 1000000) (hb : b ≤ S.length) (hn : n ≤ 120) :
    Calls Tryz.prog 46 #[.string (txt S), .int .i64 b, .int .i64 n] w fun e w' => (∀ c, rdT S n [] b = .err c → e = .returned (.tuple #[.slice none 0 0, .int .i64 0, .int .i64 ((c : Int) + 1)])) ∧
      (∀ l q, rdT S n [] b = .ok l q → ∃ v, e = .returned (.tuple #[v, .int .i64 (q - b : Nat), .int .i64 0]) ∧ w'.ownsRow w.heap.size 3 1 v n (l.map (Value.int .i64))) ∧ Below w.heap.size w w' := by
  have hn' : (n : Int) ≤ 120 := by omega
  obtain ⟨i0, hi, hz0, hz1, hz2⟩ := info_parts infoInt
  have Hi := Lib.hid hi; have Hz0 := Lib.hid hz0; have Hz1 := Lib.hid hz1; have Hz2 := Lib.hid hz2
  have Huw := Lib.hid (fun p hp W => unwave_any S p (by omega) hp W)
  generalize htx : txt S = ts at Huw ⊢
  clear htx hi hz0 hz1 hz2
  go_enter Tryz.func46, Tryz.ntmps46
  go_wp2
  go_loopw [1, 9, 11] (fun at_ o iv wr => ∃ (i q : Nat) (acc : List Int), i ≤ n ∧ iv = .int .i64 i ∧ at_ = .int .i64 q ∧ (b ≤ q ∧ q ≤ S.length) ∧ acc.length = i ∧ (∀ t ∈ acc, -1099511627776 ≤ t ∧ t ≤ 1099511627776) ∧ rdT S n [] b = rdT S (n - i) acc q ∧ wr.ownsRow w.heap.size 3 1 o i (acc.map (Value.int .i64)) ∧ Below w.heap.size w wr) (fun _ _ iv _ => n - (intOf iv).toNat)
  case atStart => exact ⟨0, b, [], by omega, rfl, rfl, ⟨Nat.le_refl _, hb⟩, rfl, by simp, rfl, World.ownsRow_nil _ _ _ _, Below.refl _ _⟩
  case round =>
    obtain ⟨i, q, acc, hin, rfl, rfl, ⟨hbq, hq⟩, hal, hac, hrd, hown, hbel⟩ := hrel
    obtain ⟨Ao, co, rfl, _, _, hro⟩ := own_form hown
    have Hal := Lib.hid hal; have Hac := Lib.hid hac; have Hrd := Lib.hid hrd; have Hown := Lib.hid hown; have Hbel := Lib.hid hbel; have Hro := Lib.hid hro
    have hws : w.heap.size ≤ wr.heap.size := hbel.size
    clear hal hac hrd hown hbel hro
    by_cases hlt : i < n
    · obtain ⟨d, hd⟩ : ∃ d, n - i = d + 1 := ⟨n - i - 1, by omega⟩
      have hd2 : n - (i + 1) = d := by omega
      have Hd := Lib.hid hd; have Hd2 := Lib.hid hd2
      clear hd hd2
      go_wp2_with fail
      refine (Huw.out q (by omega) _).mono ?_
      rintro e w6 ⟨rfl, hb6⟩
      have hz6 : wr.heap.size ≤ w6.heap.size := hb6.size
      have hw6 : w.heap.size ≤ w6.heap.size := Nat.le_trans hws hz6
      have Hb6 := Lib.hid (Below.call Hbel.out hb6 hws)
      have Hown6 := Lib.hid (own_below Hown.out hb6 (Nat.le_refl _))
      have Hro6 := Lib.hid (Hro.out.below hb6)
      clear hb6
      cases hgw : getW S q with
      | none =>
        have Hres := Lib.hid (show rdT S n [] b = .err 4 by rw [Hrd.out, Hd.out]; exact rdT_none hgw)
        have hret : pRet .none = .agg #[.int .i64 0, .int .u64 0, .int .i64 0, .int .i64 5] := rfl
        rw [hret]
        have Hb7 := Lib.hid (show Below w.heap.size w (w6.alloc (.cells #[.int .i64 0, .int .u64 0, .int .i64 0, .int .i64 5] 131)) from Below.alloc Hb6.out hw6 _)
        clear hret hgw
        go_wp2
        go_quiet (fail)
        go_wp2
        go_ret3
        exact ⟨fun c h => (by rw [Hres.out] at h; injection h with h; subst h; rfl), fun l q' h => (by rw [Hres.out] at h; cases h), Below.drewN Hb7.out _⟩
      | bad =>
        have Hres := Lib.hid (show rdT S n [] b = .err 0 by rw [Hrd.out, Hd.out]; exact rdT_bad hgw)
        have hret : pRet .bad = .agg #[.int .i64 0, .int .u64 0, .int .i64 0, .int .i64 1] := rfl
        rw [hret]
        have Hb7 := Lib.hid (show Below w.heap.size w (w6.alloc (.cells #[.int .i64 0, .int .u64 0, .int .i64 0, .int .i64 1] 131)) from Below.alloc Hb6.out hw6 _)
        clear hret hgw
        go_wp2
        go_quiet (fail)
        go_wp2
        go_ret3
        exact ⟨fun c h => (by rw [Hres.out] at h; injection h with h; subst h; rfl), fun l q' h => (by rw [Hres.out] at h; cases h), Below.drewN Hb7.out _⟩
      | ok k m =>
        have hret : pRet (.ok k m) = .agg #[.int .i64 k, .int .u64 0, .int .i64 m, .int .i64 0] := rfl
        rw [hret]
        have hqm := getW_le hgw
        have Hgw := Lib.hid hgw
        have Hb7 := Lib.hid (show Below w.heap.size w (w6.alloc (.cells #[.int .i64 k, .int .u64 0, .int .i64 m, .int .i64 0] 131)) from Below.alloc Hb6.out hw6 _)
        have Hown7 := Lib.hid (Hown6.out.alloc (.cells #[.int .i64 k, .int .u64 0, .int .i64 m, .int .i64 0] 131))
        have Hro7 := Lib.hid (Hro6.out.alloc hz6 (.cells #[.int .i64 k, .int .u64 0, .int .i64 m, .int .i64 0] 131))
        have hk63 : i + 1 ≤ maxLen := by unfold maxLen; omega
        have hk8 : (i + 1) * 8 ≤ 140737488355328 := by omega
        have HK := Lib.hid (Blk.new w6 131 #[.int .i64 k, .int .u64 0, .int .i64 m, .int .i64 0])
        have hw7s : w.heap.size ≤ (w6.alloc (.cells #[.int .i64 k, .int .u64 0, .int .i64 m, .int .i64 0] 131)).heap.size := Hb7.out.size
        have hsa : ∀ u : Value, w.heap.size ≤ ((w6.alloc (.cells #[.int .i64 k, .int .u64 0, .int .i64 m, .int .i64 0] 131)).alloc (.cells #[u] 3)).heap.size := fun u => Nat.le_trans hw7s (by simp)
        have Hsa := Lib.hid hsa
        clear hret hgw hsa
        by_cases hi0 : i = 0
        · subst hi0
          have htn : tNext acc k = k := by unfold tNext; rw [if_pos Hal.out]
          have hnf : ¬ (0 < acc.length ∧ ¬ (-4398046511104 ≤ k ∧ k ≤ 4398046511104)) := by rw [Hal.out]; omega
          have Htn := Lib.hid htn; have Hnf := Lib.hid hnf
          clear htn hnf
          by_cases htk : -1099511627776 ≤ k ∧ k ≤ 1099511627776
          · obtain ⟨t1, t2⟩ := htk
            have Hres := Lib.hid (show rdT S n [] b = rdT S d (acc ++ [k]) (q + m) by rw [Hrd.out, Hd.out, rdT_next Hgw.out Hnf.out (by rw [Htn.out]; exact ⟨t1, t2⟩), Htn.out])
            have HownX := Hown7; have HbX := Hb7; have HsaX := Hsa
            have Hrdt := Lib.hid (show Rd ((w6.alloc (.cells #[.int .i64 k, .int .u64 0, .int .i64 m, .int .i64 0] 131)).alloc (.cells #[.int .i64 (k)] 3)) ((w6.alloc (.cells #[.int .i64 k, .int .u64 0, .int .i64 m, .int .i64 0] 131)).alloc (.cells #[.int .i64 (k)] 3)).heap.size 1 (some ⟨w6.heap.size + 1, 0, none⟩) 1 [.int .i64 (k)] by have h := Rd.one (w6.alloc (.cells #[.int .i64 k, .int .u64 0, .int .i64 m, .int .i64 0] 131)) 3 (.int .i64 (k)); have e : (w6.alloc (.cells #[.int .i64 k, .int .u64 0, .int .i64 m, .int .i64 0] 131)).heap.size = w6.heap.size + 1 := (by simp); rw [e] at h; exact h)
            go_wp2_with (first | (go_at_call 74; refine (isTick_ok _ t1 t2 _).mono ?_; rintro e w' ⟨rfl, rfl⟩) | (at_builtin; refine wpList_append_rd _ rfl (.tmp 75) (.tmp 77) _ rfl w.heap.size 3 i0 (.int .i64 0) 1 8 Tryz.underlying94 Hi.out Hz0.out Hz1.out Hz2.out rfl (by decide) _ 0 _ rfl (HownX.out.alloc _) _ _ 1 1 [.int .i64 (k)] rfl Hrdt.out (int_one [k]) hk63 hk8 (HsaX.out _) ?_; intro v' wa hown' hgr hat; have HQ := Lib.hid (rf_append HownX.out HbX.out hown' hgr); clear hown' hgr hat))
            go_roundw
            case rel => exact ⟨0 + 1, q + m, acc ++ [k], by omega, by go_num, by go_num, ⟨by omega, hqm⟩, by rw [List.length_append, Hal.out]; rfl, fun x hx => (by rcases List.mem_append.1 hx with h | h; exact Hac.out x h; simp at h; subst h; exact ⟨t1, t2⟩), by rw [Hd2.out]; exact Hres.out, HQ.out.1, HQ.out.2⟩
            case measure => simp [intOf]; omega
          · have Hres := Lib.hid (show rdT S n [] b = .err 1 by rw [Hrd.out, Hd.out]; exact rdT_out Hgw.out Hnf.out (by rw [Htn.out]; exact htk))
            have h4 : k < -8796093022208 ∨ (-8796093022208 ≤ k ∧ k < -1099511627776) ∨ (1099511627776 < k ∧ k ≤ 8796093022208) ∨ 8796093022208 < k := by omega
            clear htk
            rcases h4 with h4 | ⟨h4, h5⟩ | ⟨h4, h5⟩ | h4
            · go_wp2
              go_ret3
              exact ⟨fun c h => (by rw [Hres.out] at h; injection h with h; subst h; rfl), fun l q' h => (by rw [Hres.out] at h; cases h), (by first | exact Hb7.out | exact Below.drewN Hb7.out _)⟩
            · go_wp2
              go_ret3
              exact ⟨fun c h => (by rw [Hres.out] at h; injection h with h; subst h; rfl), fun l q' h => (by rw [Hres.out] at h; cases h), (by first | exact Hb7.out | exact Below.drewN Hb7.out _)⟩
            · have hge : -1099511627776 ≤ k := by omega
              have hnl : ¬ k ≤ 1099511627776 := by omega
              have hnd : decide (k ≤ 1099511627776) = false := decide_eq_false hnl
              go_wp2
              go_ret3
              exact ⟨fun c h => (by rw [Hres.out] at h; injection h with h; subst h; rfl), fun l q' h => (by rw [Hres.out] at h; cases h), (by first | exact Hb7.out | exact Below.drewN Hb7.out _)⟩
            · have hge : -1099511627776 ≤ k := by omega
              have hnl : ¬ k ≤ 1099511627776 := by omega
              have hnd : decide (k ≤ 1099511627776) = false := decide_eq_false hnl
              go_wp2
              go_ret3
              exact ⟨fun c h => (by rw [Hres.out] at h; injection h with h; subst h; rfl), fun l q' h => (by rw [Hres.out] at h; cases h), (by first | exact Hb7.out | exact Below.drewN Hb7.out _)⟩
        have hal0 : 0 < acc.length := by rw [Hal.out]; omega
        have c0 : (0 : Int) < (i : Int) := by omega
        obtain ⟨b1, o1, a, hA1, had1, hy1, e1⟩ := Hro7.out.at1 (k := i - 1) (by omega)
        subst hA1
        obtain ⟨ha0, ha1⟩ := Hac.out a (List.mem_of_getElem? hy1)
        have hav := getD_of hy1
        have n1 : IntKind.i64.wrap ((i : Int) - 1) = ((i - 1 : Nat) : Int) := by rw [IntKind.wrap_i64]; omega
        by_cases hi1 : i = 1
        · subst hi1
          have htn : tNext acc k = k + a := by
            unfold tNext; rw [if_neg (by rw [Hal.out]; omega), if_pos Hal.out, ← hav]
          have Htn := Lib.hid htn
          simp only [Nat.sub_self, Nat.add_zero] at e1
          clear htn hav hy1 n1
          by_cases hf3 : 8796093022208 < k
          · have Hres := Lib.hid (show rdT S n [] b = .err 1 by rw [Hrd.out, Hd.out]; exact rdT_far Hgw.out ⟨hal0, by omega⟩)
            go_wp2
            go_ret3
            exact ⟨fun c h => (by rw [Hres.out] at h; injection h with h; subst h; rfl), fun l q' h => (by rw [Hres.out] at h; cases h), (by first | exact Hb7.out | exact Below.drewN Hb7.out _)⟩
          by_cases hf4 : k < -8796093022208
          · have Hres := Lib.hid (show rdT S n [] b = .err 1 by rw [Hrd.out, Hd.out]; exact rdT_far Hgw.out ⟨hal0, by omega⟩)
            go_wp2
            go_ret3
            exact ⟨fun c h => (by rw [Hres.out] at h; injection h with h; subst h; rfl), fun l q' h => (by rw [Hres.out] at h; cases h), (by first | exact Hb7.out | exact Below.drewN Hb7.out _)⟩
          by_cases hfar : -4398046511104 ≤ k ∧ k ≤ 4398046511104
          · obtain ⟨f1, f2⟩ := hfar
            have hnf : ¬ (0 < acc.length ∧ ¬ (-4398046511104 ≤ k ∧ k ≤ 4398046511104)) := fun h => h.2 ⟨f1, f2⟩
            have Hnf := Lib.hid hnf; clear hnf
            by_cases htk : -1099511627776 ≤ k + a ∧ k + a ≤ 1099511627776
            · obtain ⟨t1, t2⟩ := htk
              have Hres := Lib.hid (show rdT S n [] b = rdT S d (acc ++ [k + a]) (q + m) by rw [Hrd.out, Hd.out, rdT_next Hgw.out Hnf.out (by rw [Htn.out]; exact ⟨t1, t2⟩), Htn.out])
              have HownX := Hown7; have HbX := Hb7; have HsaX := Hsa
              have Hrdt := Lib.hid (show Rd ((w6.alloc (.cells #[.int .i64 k, .int .u64 0, .int .i64 m, .int .i64 0] 131)).alloc (.cells #[.int .i64 (k + a)] 3)) ((w6.alloc (.cells #[.int .i64 k, .int .u64 0, .int .i64 m, .int .i64 0] 131)).alloc (.cells #[.int .i64 (k + a)] 3)).heap.size 1 (some ⟨w6.heap.size + 1, 0, none⟩) 1 [.int .i64 (k + a)] by have h := Rd.one (w6.alloc (.cells #[.int .i64 k, .int .u64 0, .int .i64 m, .int .i64 0] 131)) 3 (.int .i64 (k + a)); have e : (w6.alloc (.cells #[.int .i64 k, .int .u64 0, .int .i64 m, .int .i64 0] 131)).heap.size = w6.heap.size + 1 := (by simp); rw [e] at h; exact h)
              go_wp2_with (first | (go_at_call 74; refine (isTick_ok _ t1 t2 _).mono ?_; rintro e w' ⟨rfl, rfl⟩) | (at_builtin; refine wpList_append_rd _ rfl (.tmp 75) (.tmp 77) _ rfl w.heap.size 3 i0 (.int .i64 0) 1 8 Tryz.underlying94 Hi.out Hz0.out Hz1.out Hz2.out rfl (by decide) _ 1 _ rfl (HownX.out.alloc _) _ _ 1 1 [.int .i64 (k + a)] rfl Hrdt.out (int_one [k + a]) hk63 hk8 (HsaX.out _) ?_; intro v' wa hown' hgr hat; have HQ := Lib.hid (rf_append HownX.out HbX.out hown' hgr); clear hown' hgr hat))
              go_roundw
              case rel => exact ⟨1 + 1, q + m, acc ++ [k + a], by omega, by go_num, by go_num, ⟨by omega, hqm⟩, by rw [List.length_append, Hal.out]; rfl, fun x hx => (by rcases List.mem_append.1 hx with h | h; exact Hac.out x h; simp at h; subst h; exact ⟨t1, t2⟩), by rw [Hd2.out]; exact Hres.out, HQ.out.1, HQ.out.2⟩
              case measure => simp [intOf]; omega
            · have Hres := Lib.hid (show rdT S n [] b = .err 1 by rw [Hrd.out, Hd.out]; exact rdT_out Hgw.out Hnf.out (by rw [Htn.out]; exact htk))
              have ht2 : k + a < -1099511627776 ∨ 1099511627776 < k + a := by omega
              clear htk
              rcases ht2 with ht2 | ht2
              · go_wp2
                go_ret3
                exact ⟨fun c h => (by rw [Hres.out] at h; injection h with h; subst h; rfl), fun l q' h => (by rw [Hres.out] at h; cases h), (by first | exact Hb7.out | exact Below.drewN Hb7.out _)⟩
              · have hge : -1099511627776 ≤ k + a := by omega
                have hnl : ¬ k + a ≤ 1099511627776 := by omega
                have hnd : decide (k + a ≤ 1099511627776) = false := decide_eq_false hnl
                go_wp2
                go_ret3
                exact ⟨fun c h => (by rw [Hres.out] at h; injection h with h; subst h; rfl), fun l q' h => (by rw [Hres.out] at h; cases h), (by first | exact Hb7.out | exact Below.drewN Hb7.out _)⟩
          · have Hres := Lib.hid (show rdT S n [] b = .err 1 by rw [Hrd.out, Hd.out]; exact rdT_far Hgw.out ⟨hal0, hfar⟩)
            have ht2 : k + a < -1099511627776 ∨ 1099511627776 < k + a := by omega
            clear hfar
            rcases ht2 with ht2 | ht2
            · go_wp2
              go_ret3
              exact ⟨fun c h => (by rw [Hres.out] at h; injection h with h; subst h; rfl), fun l q' h => (by rw [Hres.out] at h; cases h), (by first | exact Hb7.out | exact Below.drewN Hb7.out _)⟩
            · have hge : -1099511627776 ≤ k + a := by omega
              have hnl : ¬ k + a ≤ 1099511627776 := by omega
              have hnd : decide (k + a ≤ 1099511627776) = false := decide_eq_false hnl
              go_wp2
              go_ret3
              exact ⟨fun c h => (by rw [Hres.out] at h; injection h with h; subst h; rfl), fun l q' h => (by rw [Hres.out] at h; cases h), (by first | exact Hb7.out | exact Below.drewN Hb7.out _)⟩
        · obtain ⟨j, rfl⟩ : ∃ j, i = j + 2 := ⟨i - 2, by omega⟩
          obtain ⟨b2, o2, a2, hA2, had2, hy2, e2⟩ := Hro7.out.at1 (k := j) (by omega)
          injection hA2 with hA2
          injection hA2 with hA3 hA4
          subst hA3; subst hA4
          obtain ⟨ha2, ha3⟩ := Hac.out a2 (List.mem_of_getElem? hy2)
          have hav2 := getD_of hy2
          have htn : tNext acc k = k + a + (a - a2) := by
            unfold tNext
            rw [if_neg (by rw [Hal.out]; omega), if_neg (by rw [Hal.out]; omega), Hal.out, show j + 2 - 2 = j by omega, hav, hav2]
          have Htn := Lib.hid htn
          have e1' : (w6.alloc (.cells #[.int .i64 k, .int .u64 0, .int .i64 m, .int .i64 0] 131)).cell? ⟨b1, o1 + (j + 1), none⟩ = some (.int .i64 a) := e1
          have c1 : (1 : Int) < (j : Int) + 2 := by omega
          have n2 : IntKind.i64.wrap ((j : Int) + 2 - 1) = ((j + 1 : Nat) : Int) := by rw [IntKind.wrap_i64]; omega
          have n3 : IntKind.i64.wrap ((j : Int) + 2 - 2) = ((j : Nat) : Int) := by rw [IntKind.wrap_i64]; omega
          have n4 : IntKind.i64.wrap (a - a2) = a - a2 := by rw [IntKind.wrap_i64]; omega
          clear htn hav hav2 hy1 hy2 n1 e1
          by_cases hf3 : 8796093022208 < k
          · have Hres := Lib.hid (show rdT S n [] b = .err 1 by rw [Hrd.out, Hd.out]; exact rdT_far Hgw.out ⟨hal0, by omega⟩)
            go_wp2
            go_ret3
            exact ⟨fun c h => (by rw [Hres.out] at h; injection h with h; subst h; rfl), fun l q' h => (by rw [Hres.out] at h; cases h), (by first | exact Hb7.out | exact Below.drewN Hb7.out _)⟩
          by_cases hf4 : k < -8796093022208
          · have Hres := Lib.hid (show rdT S n [] b = .err 1 by rw [Hrd.out, Hd.out]; exact rdT_far Hgw.out ⟨hal0, by omega⟩)
            go_wp2
            go_ret3
            exact ⟨fun c h => (by rw [Hres.out] at h; injection h with h; subst h; rfl), fun l q' h => (by rw [Hres.out] at h; cases h), (by first | exact Hb7.out | exact Below.drewN Hb7.out _)⟩
          have n5 : IntKind.i64.wrap (k + a + (a - a2)) = k + a + (a - a2) := by rw [IntKind.wrap_i64]; omega
          by_cases hfar : -4398046511104 ≤ k ∧ k ≤ 4398046511104
          · obtain ⟨f1, f2⟩ := hfar
            have hnf : ¬ (0 < acc.length ∧ ¬ (-4398046511104 ≤ k ∧ k ≤ 4398046511104)) := fun h => h.2 ⟨f1, f2⟩
            have Hnf := Lib.hid hnf; clear hnf
            by_cases htk : -1099511627776 ≤ k + a + (a - a2) ∧ k + a + (a - a2) ≤ 1099511627776
            · obtain ⟨t1, t2⟩ := htk
              have Hres := Lib.hid (show rdT S n [] b = rdT S d (acc ++ [k + a + (a - a2)]) (q + m) by rw [Hrd.out, Hd.out, rdT_next Hgw.out Hnf.out (by rw [Htn.out]; exact ⟨t1, t2⟩), Htn.out])
              go_wp2
              go_quiet (fail)
              have HownX := Lib.hid (own_drewN Hown7.out nq)
              have HbX := Lib.hid (Below.drewN Hb7.out nq)
              have HsaX := Lib.hid (show ∀ u : Value, w.heap.size ≤ (((w6.alloc (.cells #[.int .i64 k, .int .u64 0, .int .i64 m, .int .i64 0] 131)).drewN nq).alloc (.cells #[u] 3)).heap.size from fun u => Hsa.out u)
              have Hrdt := Lib.hid (show Rd (((w6.alloc (.cells #[.int .i64 k, .int .u64 0, .int .i64 m, .int .i64 0] 131)).drewN nq).alloc (.cells #[.int .i64 (k + a + (a - a2))] 3)) (((w6.alloc (.cells #[.int .i64 k, .int .u64 0, .int .i64 m, .int .i64 0] 131)).drewN nq).alloc (.cells #[.int .i64 (k + a + (a - a2))] 3)).heap.size 1 (some ⟨w6.heap.size + 1, 0, none⟩) 1 [.int .i64 (k + a + (a - a2))] by have h := Rd.one ((w6.alloc (.cells #[.int .i64 k, .int .u64 0, .int .i64 m, .int .i64 0] 131)).drewN nq) 3 (.int .i64 (k + a + (a - a2))); have e : ((w6.alloc (.cells #[.int .i64 k, .int .u64 0, .int .i64 m, .int .i64 0] 131)).drewN nq).heap.size = w6.heap.size + 1 := (by simp); rw [e] at h; exact h)
              go_wp2_with (first | (go_at_call 74; refine (isTick_ok _ t1 t2 _).mono ?_; rintro e w' ⟨rfl, rfl⟩) | (at_builtin; refine wpList_append_rd _ rfl (.tmp 75) (.tmp 77) _ rfl w.heap.size 3 i0 (.int .i64 0) 1 8 Tryz.underlying94 Hi.out Hz0.out Hz1.out Hz2.out rfl (by decide) _ (j + 2) _ rfl (HownX.out.alloc _) _ _ 1 1 [.int .i64 (k + a + (a - a2))] rfl Hrdt.out (int_one [k + a + (a - a2)]) hk63 hk8 (HsaX.out _) ?_; intro v' wa hown' hgr hat; have HQ := Lib.hid (rf_append HownX.out HbX.out hown' hgr); clear hown' hgr hat))
              go_roundw
              case rel => exact ⟨(j + 2) + 1, q + m, acc ++ [k + a + (a - a2)], by omega, by go_num, by go_num, ⟨by omega, hqm⟩, by rw [List.length_append, Hal.out]; rfl, fun x hx => (by rcases List.mem_append.1 hx with h | h; exact Hac.out x h; simp at h; subst h; exact ⟨t1, t2⟩), by rw [Hd2.out]; exact Hres.out, HQ.out.1, HQ.out.2⟩
              case measure => simp [intOf]; omega
            · have Hres := Lib.hid (show rdT S n [] b = .err 1 by rw [Hrd.out, Hd.out]; exact rdT_out Hgw.out Hnf.out (by rw [Htn.out]; exact htk))
              have ht2 : k + a + (a - a2) < -1099511627776 ∨ 1099511627776 < k + a + (a - a2) := by omega
              clear htk
              rcases ht2 with ht2 | ht2
              · go_wp2
                go_quiet (fail)
                go_wp2
                go_ret3
                exact ⟨fun c h => (by rw [Hres.out] at h; injection h with h; subst h; rfl), fun l q' h => (by rw [Hres.out] at h; cases h), (by first | exact Hb7.out | exact Below.drewN Hb7.out _)⟩
              · have hge : -1099511627776 ≤ k + a + (a - a2) := by omega
                have hnl : ¬ k + a + (a - a2) ≤ 1099511627776 := by omega
                have hnd : decide (k + a + (a - a2) ≤ 1099511627776) = false := decide_eq_false hnl
                go_wp2
                go_quiet (fail)
                go_wp2
                go_ret3
                exact ⟨fun c h => (by rw [Hres.out] at h; injection h with h; subst h; rfl), fun l q' h => (by rw [Hres.out] at h; cases h), (by first | exact Hb7.out | exact Below.drewN Hb7.out _)⟩
          · have Hres := Lib.hid (show rdT S n [] b = .err 1 by rw [Hrd.out, Hd.out]; exact rdT_far Hgw.out ⟨hal0, hfar⟩)
            have ht2 : k + a + (a - a2) < -1099511627776 ∨ 1099511627776 < k + a + (a - a2) := by omega
            clear hfar
            rcases ht2 with ht2 | ht2
            · go_wp2
              go_quiet (fail)
              go_wp2
              go_ret3
              exact ⟨fun c h => (by rw [Hres.out] at h; injection h with h; subst h; rfl), fun l q' h => (by rw [Hres.out] at h; cases h), (by first | exact Hb7.out | exact Below.drewN Hb7.out _)⟩
            · have hge : -1099511627776 ≤ k + a + (a - a2) := by omega
              have hnl : ¬ k + a + (a - a2) ≤ 1099511627776 := by omega
              have hnd : decide (k + a + (a - a2) ≤ 1099511627776) = false := decide_eq_false hnl
              go_wp2
              go_quiet (fail)
              go_wp2
              go_ret3
              exact ⟨fun c h => (by rw [Hres.out] at h; injection h with h; subst h; rfl), fun l q' h => (by rw [Hres.out] at h; cases h), (by first | exact Hb7.out | exact Below.drewN Hb7.out _)⟩
    · obtain rfl : i = n := by omega
      have Hres := Lib.hid (show rdT S i [] b = .ok acc q by rw [Hrd.out, Nat.sub_self]; rfl)
      have hsub : (q : Int) - (b : Int) = ((q - b : Nat) : Int) := by omega
      have Hsub := Lib.hid hsub
      clear hsub
      go_wp2
      go_ret3
      refine ⟨fun c h => (by rw [Hres.out] at h; cases h), fun l q' h => ?_, Hbel.out⟩
      rw [Hres.out] at h
      injection h with h1 h2
      subst h1; subst h2
      exact ⟨_, congrArg (fun z : Int => Ending.returned (.tuple #[_, .int .i64 z, .int .i64 0])) Hsub.out, Hown.out⟩
end Go.Proofs.YtpbgonpmpjpljaaGreatDoor
