/- strconv.FormatUint(v, 16) by its contract. -/
import Derived.Test.YtfkklcmepcocoaaGreatDoorMbits
import Derived.Test.YtfkklcmepcocoaaGreatDoorNumN
import Derived.Test.YtfkklcmepcocoaaGreatDoorTxt
import Derived.Test.YtfkklcmepcocoaaGreatDoorConvB
import Derived.Test.YtfkklcmepcocoaaGreatDoorNLays
namespace Go.Proofs.YtfkklcmepcocoaaGreatDoor
open Go.RowKit
set_option linter.unusedVariables false

theorem pow2_16 (w : World) : Calls Tryz.prog 240 #[.int .i64 16] w fun e w' => e = .returned (.bool true) ∧ w = w' := by
  go_enter Tryz.func240, Tryz.ntmps240
  go_wp2
  go_ret
  exact ⟨by first | rfl | decide, rfl⟩
theorem tz16 (w : World) (hT : TabAt w) : Calls Tryz.prog 241 #[.int .u64 16] w fun e w' => e = .returned (.int .i64 4) ∧ w = w' := by
  have h16 := tz_any 16 w (by decide) hT
  have e4 : tzN 16 = 4 := by decide
  rw [e4] at h16
  go_enter Tryz.func241, Tryz.ntmps241
  go_wp2_with (go_at_call 245; refine h16.mono ?_; rintro e w' ⟨rfl, rfl⟩)
  go_ret
  exact ⟨rfl, rfl⟩
theorem dig_fin : ∀ d : Fin 16, (⟨#[48, 49, 50, 51, 52, 53, 54, 55, 56, 57, 97, 98, 99, 100, 101, 102, 103, 104, 105, 106, 107, 108, 109, 110, 111, 112, 113, 114, 115, 116, 117, 118, 119, 120, 121, 122]⟩ : ByteArray).data.toList.getD d.val 0 = hexD d.val := by decide +kernel
theorem dig_at (s : ByteArray) (hs : s = ⟨#[48, 49, 50, 51, 52, 53, 54, 55, 56, 57, 97, 98, 99, 100, 101, 102, 103, 104, 105, 106, 107, 108, 109, 110, 111, 112, 113, 114, 115, 116, 117, 118, 119, 120, 121, 122]⟩) (d : Nat) (h : d < s.size) (h16 : d < 16) : (s[d]'h) = hexD d := by
  have := dig_fin ⟨d, h16⟩
  rw [← hs] at this
  rw [← this, List.getD_eq_getElem?_getD, List.getElem?_eq_getElem (by exact h)]
  rfl
theorem arr_step {cs : Array Value} {i : Nat} {ds : List UInt8} {c : UInt8} (h65 : cs.size = 65) (hi : i < 65) (h : cs.toList.drop (i + 1) = ds.map fun b => Value.int .u8 (b.toNat : Int)) :
    (cs.setIfInBounds i (.int .u8 (c.toNat : Int))).toList.drop i = (c :: ds).map fun b => Value.int .u8 (b.toNat : Int) := by
  rw [Array.toList_setIfInBounds, List.map_cons, ← h]
  have hl : i < (cs.toList.set i (.int .u8 (c.toNat : Int))).length := by rw [List.length_set, Array.length_toList]; omega
  rw [List.drop_eq_getElem_cons hl, List.getElem_set_self, List.drop_set_of_lt (by omega)]
set_option maxHeartbeats 4000000 in
set_option maxRecDepth 100000 in
theorem fbits16 (v : Nat) (hv : v < 18446744073709551616) (w : World) (hT : TabAt w) (hg : 18 < w.heap.size) :
    Calls Tryz.prog 204 #[.slice none 0 0, .int .u64 v, .int .i64 16, .bool false, .bool false] w fun e w' => e = .returned (.tuple #[.slice none 0 0, .string (B8 (hexM v))]) ∧ Below w.heap.size w w' := by
  have HT := Lib.hid hT
  clear hT
  go_enter Tryz.func204, Tryz.ntmps204
  go_wp2_with fail
  refine (pow2_16 _).mono ?_
  rintro e w1 ⟨rfl, rfl⟩
  go_wp2_with fail
  have hb0 : Below w.heap.size w (w.alloc (Obj.cells Tryz.zeroCells324 324)) := Below.alloc (Below.refl _ _) (Nat.le_refl _) _
  have hk0 := Blk.new w 324 Tryz.zeroCells324
  refine (tz16 _ (HT.out.below hb0 hg)).mono ?_
  rintro e w1 ⟨rfl, rfl⟩
  have Hb0 := Lib.hid hb0; have Hk0 := Lib.hid hk0
  clear hb0 hk0
  generalize hw1 : w.alloc (Obj.cells Tryz.zeroCells324 324) = w1 at Hb0 Hk0
  clear hw1
  go_wp2
  go_loopw [1, 13] (fun uv iv wr => ∃ (u i : Nat) (ds : List UInt8) (cs : Array Value), uv = .int .u64 u ∧ iv = .int .i64 i ∧ 50 ≤ i ∧ i ≤ 65 ∧ u < 18446744073709551616 ∧ Hid (ds.length + i = 65) ∧ Hid (hexM v = hexM u ++ ds) ∧ Hid (Blk wr w.heap.size 324 cs ∧ cs.size = 65 ∧ cs.toList.drop i = ds.map fun b => Value.int .u8 (b.toNat : Int)) ∧ Hid (Below w.heap.size w wr)) (fun _ iv _ => (intOf iv).toNat)
  case atStart => exact ⟨v, 65, [], _, rfl, rfl, by omega, by omega, hv, Lib.hid rfl, Lib.hid (by simp), Lib.hid ⟨Hk0.out, by decide +kernel, by kernel_rfl⟩, Hb0⟩
  case round =>
    obtain ⟨u, i, ds, cs, rfl, rfl, hi0, hi1, hu, Hl, Hm, Hk, Hb⟩ := hrel
    obtain ⟨i, rfl⟩ : ∃ k, i = k + 1 := ⟨i - 1, by omega⟩
    have hc0 := Hk.out.1.cell i
    rw [Array.getElem?_eq_getElem (by have := Hk.out.2.1; omega)] at hc0
    have hf0 := Hk.out.1.frozen i
    generalize cs[i]'(by have := Hk.out.2.1; omega) = c0 at hc0
    by_cases h16 : 16 ≤ u
    · have hand : bits .and .u64 (u : Int) 15 = ((u % 16 : Nat) : Int) := by
        have h := bits_and_u64_nat u 15 hu (by decide)
        rw [show u &&& 15 = u % 16 from Nat.and_two_pow_sub_one_eq_mod u 4] at h
        exact h
      have hd16 : u % 16 < 16 := Nat.mod_lt _ (by decide)
      generalize hdd : u % 16 = d at hand hd16
      have Hd := Lib.hid hdd
      clear hdd
      have hd0 : (0 : Int) ≤ (d : Int) := by omega
      have hd1 : (d : Int) < 36 := by omega
      have Hm2 := Lib.hid (show hexM v = hexM (u / 16) ++ hexD d :: ds by rw [Hm.out, hexM_big (by omega), Hd.out, List.append_assoc]; rfl)
      have hl2 : 51 ≤ i + 1 := by
        have h1 := hexM_len (v := v) (k := 16) (by decide) (by simpa using hv)
        have h2 := hexM_len (v := u / 16) (k := 16) (by decide) (by omega)
        have h3 := congrArg List.length Hm2.out
        rw [List.length_append, List.length_cons] at h3
        have := Hl.out
        omega
      go_wp2
      go_roundw
      case rel => exact ⟨u / 16, i, hexD d :: ds, _, by first | rfl | (congr 1; omega), rfl, by omega, by omega, by omega, Lib.hid (by have := Hl.out; rw [List.length_cons]; omega), Hm2, Lib.hid ⟨(Hk.out.1.set_ i _), by rw [Array.size_setIfInBounds]; exact Hk.out.2.1, by rw [dig_at _ rfl d _ hd16]; exact arr_step Hk.out.2.1 (by omega) Hk.out.2.2⟩, Lib.hid (Hb.out.setCell (p := ⟨w.heap.size, i, none⟩) (Nat.le_refl _) _)⟩
      case measure => simp [intOf]
    · have hu16 : u < 16 := by omega
      have hd0 : (0 : Int) ≤ (u : Int) := by omega
      have hd1 : (u : Int) < 36 := by omega
      have Hm2 := Lib.hid (show hexM v = hexD u :: ds by rw [Hm.out, hexM_small hu16]; rfl)
      have Hk2 := Lib.hid (show ∀ z, z = hexD u → Blk (wr.setCell ⟨w.heap.size, i, none⟩ (.int .u8 (z.toNat : Int))) w.heap.size 324 (cs.setIfInBounds i (.int .u8 (z.toNat : Int))) ∧ Rd (wr.setCell ⟨w.heap.size, i, none⟩ (.int .u8 (z.toNat : Int))) (w.heap.size + 1) 1 (some ⟨w.heap.size, i, none⟩) (65 - i) ((hexM v).map fun b => Value.int .u8 (b.toNat : Int)) by
        intro z hz
        subst hz
        have hb := Hk.out.1.set_ i (.int .u8 ((hexD u).toNat : Int))
        have ha := arr_step (c := hexD u) Hk.out.2.1 (by omega) Hk.out.2.2
        refine ⟨hb, ?_, fun _ => ⟨_, _, rfl, Nat.lt_succ_self _, fun j x hx => ?_⟩⟩
        · have := Hl.out; rw [List.length_map, Hm2.out, List.length_cons]; omega
        · rw [hb.cell, ← Array.getElem?_toList, ← List.getElem?_drop, ha, ← Hm2.out]; exact hx)
      have hal : Tryz.prog.arrayLen 324 = 65 := by kernel_rfl
      have Hsl := Lib.hid (show ∀ W, (Instr.sliceAt 324 (.pointer (some ⟨w.heap.size, 0, none⟩)) (some (.int .i64 (i : Int))) none none).run Tryz.prog W = .ok (.slice (some ⟨w.heap.size, i, none⟩) (65 - i) (65 - i)) W from fun W => by
        rw [run_sliceAt_array_l W 324 ⟨w.heap.size, 0, none⟩ (by simp [Program.arrayLen, Program.elem, Tryz.underlying324]) .i64 (i : Int) (by omega) (by rw [hal]; omega)]
        rw [hal]
        go_simp
        omega)
      clear Hm hal
      go_wp2
      rw [dig_at _ rfl u _ hu16]
      obtain ⟨hb2, hr2⟩ := Hk2.out _ rfl
      have hb3 := Hb.out.setCell (p := ⟨w.heap.size, i, none⟩) (Nat.le_refl _) (.int .u8 ((hexD u).toNat : Int))
      generalize hwz : wr.setCell ⟨w.heap.size, i, none⟩ (.int .u8 ((hexD u).toNat : Int)) = wz at hb2 hr2 hb3
      have hcv : (convert 111 9 (.slice (some ⟨w.heap.size, i, none⟩) (65 - i) (65 - i))).run Tryz.prog wz = .ok (.string (B8 (hexM v))) wz := by
        have hn : (hexM v).length = 65 - i := by have := hr2.1; simpa using this
        rw [← hn]
        refine run_convert_bytes_back (P := Tryz.prog) wz 111 9 5 ⟨w.heap.size, i, none⟩ _ (hexM v) Tryz.underlying111 Tryz.underlying5 Tryz.underlying9 (fun j hj => ?_)
        obtain ⟨b, o, e, _, hc⟩ := hr2.2 (by omega)
        injection e with e
        injection e with e1 e2
        subst e1; subst e2
        rw [add_at]
        exact hc j _ (by rw [List.getElem?_map, List.getElem?_eq_getElem hj]; rfl)
      have HB := Lib.hid hb3
      have hsl := Hsl.out wz
      clear hb2 hr2 hb3 hwz Hk2 Hk Hm2
      generalize hres : B8 (hexM v) = res at hcv
      have Hres := Lib.hid hres
      clear hres
      rw [hsl]
      clear hsl
      simp only [Result.andThen_ok]
      go_wp2
      go_ret2
      exact ⟨by rw [Hres.out]; rfl, HB.out⟩
theorem iformat16 (v : Nat) (hv : v < 18446744073709551616) (w : World) (hT : TabAt w) (hg : 18 < w.heap.size) :
    Calls Tryz.prog 181 #[.int .u64 v, .int .i64 16] w fun e w' => e = .returned (.string (B8 (hexM v))) ∧ Below w.heap.size w w' := by
  have Hf := Lib.hid (fbits16 v hv w hT hg)
  clear hT
  go_enter Tryz.func181, Tryz.ntmps181
  go_wp2_with fail
  refine Hf.out.mono ?_
  rintro e w' ⟨rfl, hb⟩
  have HB := Lib.hid hb
  clear hb
  generalize hres : B8 (hexM v) = res
  have Hres := Lib.hid hres
  clear hres
  go_wp2
  go_ret
  exact ⟨by rw [Hres.out]; rfl, HB.out⟩
theorem format16 (v : Nat) (hv : v < 18446744073709551616) (w : World) (hT : TabAt w) (hg : 18 < w.heap.size) :
    Calls Tryz.prog 142 #[.int .u64 v, .int .i64 16] w fun e w' => e = .returned (.string (B8 (hexM v))) ∧ Below w.heap.size w w' := by
  have Hf := Lib.hid (iformat16 v hv w hT hg)
  clear hT
  go_enter Tryz.func142, Tryz.ntmps142
  go_wp2_with fail
  refine Hf.out.mono ?_
  rintro e w' ⟨rfl, hb⟩
  have HB := Lib.hid hb
  clear hb
  generalize hres : B8 (hexM v) = res
  have Hres := Lib.hid hres
  clear hres
  go_wp2
  go_ret
  exact ⟨by rw [Hres.out]; rfl, HB.out⟩
theorem rep_zeros (k : Nat) (w : World) (hk : k ≤ 16) : Calls Tryz.prog 143 #[.string ⟨#[48]⟩, .int .i64 k] w fun e w' => e = .returned (.string (B8 (List.replicate k 48))) ∧ Below w.heap.size w w' := by
  have h := Tryz.strings_Repeat ⟨#[48]⟩ k w (by omega) (by show 1 * k ≤ _; omega)
  have e : Lib.repeatL (⟨#[48]⟩ : ByteArray).data.toList k = List.replicate k 48 := by
    have := Lib.repeatL_replicate 48 1 k
    rw [Nat.mul_one] at this
    exact this
  rw [e] at h
  exact h
theorem hex_any (v : Nat) (hv : v < 18446744073709551616) (w : World) (hT : TabAt w) (hg : 18 < w.heap.size) :
    Calls Tryz.prog 97 #[.int .u64 v] w fun e w' => e = .returned (.string (B8 (hexK 16 v))) ∧ Below w.heap.size w w' := by
  have Hf := Lib.hid (format16 v hv w hT hg)
  have hl := hexM_len (v := v) (k := 16) (by decide) (by simpa using hv)
  have hs : (B8 (hexM v)).size = (hexM v).length := B8_size _
  have Hpad := Lib.hid (show B8 (List.replicate (16 - (hexM v).length) 48) ++ B8 (hexM v) = B8 (hexK 16 v) by rw [B8_append, hexK_pad (by decide) (by simpa using hv)])
  clear hT
  obtain ⟨hl1, hl2⟩ := hl
  generalize hln : (hexM v).length = ln at hl1 hl2 hs Hpad
  have Hrep := Lib.hid (fun W => rep_zeros (16 - ln) W (by omega))
  have hzs : (B8 (List.replicate (16 - ln) 48)).size = 16 - ln := by rw [B8_size, List.length_replicate]
  generalize B8 (hexM v) = sv at hs Hf Hpad
  generalize B8 (List.replicate (16 - ln) 48) = zs at Hrep Hpad hzs
  generalize B8 (hexK 16 v) = res at Hpad ⊢
  have Hln := Lib.hid hs
  have Hzs := Lib.hid hzs
  clear hln hs hzs
  go_enter Tryz.func97, Tryz.ntmps97
  go_wp2_with fail
  refine Hf.out.mono ?_
  rintro e w1 ⟨rfl, hb⟩
  have HB := Lib.hid hb
  clear hb
  have hs := Hln.out
  have e1 : (16 : Int) - (sv.size : Int) = ((16 - ln : Nat) : Int) := by omega
  have n1 : IntKind.i64.wrap (16 - (sv.size : Int)) = ((16 - ln : Nat) : Int) := by rw [IntKind.wrap_i64]; omega
  clear hs
  go_wp2_with fail
  refine (Hrep.out _).mono ?_
  rintro e w2 ⟨rfl, hb⟩
  have HB2 := Lib.hid (Below.call HB.out hb HB.out.size)
  have hcc : ¬ 9223372036854775807 < zs.size + sv.size := by have := Hln.out; have := Hzs.out; omega
  have hcc2 : ¬ (9223372036854775807 : Int) < (zs.size : Int) + (sv.size : Int) := by omega
  clear hb e1 n1
  go_wp2
  go_ret
  exact ⟨by rw [Hpad.out]; rfl, HB2.out⟩
end Go.Proofs.YtfkklcmepcocoaaGreatDoor
