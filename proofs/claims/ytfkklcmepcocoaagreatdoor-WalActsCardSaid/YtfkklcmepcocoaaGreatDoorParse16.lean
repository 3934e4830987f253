/- internal/strconv.ParseUint(s, 16, 64), and strconv.ParseUint(s, 16, 64), by their contracts. -/
import Derived.Test.YtfkklcmepcocoaaGreatDoorNumN
import Derived.Test.YtfkklcmepcocoaaGreatDoorTxt
import Derived.Test.YtfkklcmepcocoaaGreatDoorBase
import Derived.Test.YtfkklcmepcocoaaGreatDoorChecked
import Derived.Lib.Strings
import Derived.Lib.Walk
import Derived.Lib.ConvBytes
import Derived.Lib.AtoiAllMem
import Derived.Laws.Strings3
import Derived.Laws.Closers25
import Derived.Laws.Closers25b
import Derived.Lib.AtoiErrMem
import Derived.Lib.ParseIntBMem
import Derived.BigCall
import Derived.BigGuard
namespace Go.Proofs.YtfkklcmepcocoaaGreatDoor
open Go.RowKit
set_option linter.unusedVariables false

def lowI (c : UInt8) : Int := bits .or .u8 (c.toNat : Int) 32
theorem lowI_bd (c : UInt8) : 0 ≤ lowI c ∧ lowI c < 256 := by
  have h0 := bits_lo_u8 .or (c.toNat : Int) 32
  have h1 := bits_hi_u8 .or (c.toNat : Int) 32
  unfold lowI
  omega
/-- What a byte counts here: letters of either case. -/
def hexW (c : UInt8) : Option Nat := if 48 ≤ c.toNat ∧ c.toNat ≤ 57 then some (c.toNat - 48) else if 97 ≤ lowI c ∧ lowI c ≤ 102 then some (lowI c - 87).toNat else none
theorem lowI_low : ∀ d : Fin 6, bits .or .u8 ((97 + d.val : Nat) : Int) 32 = ((97 + d.val : Nat) : Int) := by decide +kernel
theorem hexW_V {c : UInt8} {d : Nat} (h : hexV c = some d) : hexW c = some d := by
  unfold hexV at h
  unfold hexW
  split at h
  · rename_i h1; rw [if_pos h1]; exact h
  · rename_i h1
    rw [if_neg h1]
    split at h
    · rename_i h2
      have e := lowI_low ⟨c.toNat - 97, by omega⟩
      have e1 : 97 + (c.toNat - 97) = c.toNat := by omega
      dsimp only at e
      rw [e1] at e
      have e2 : lowI c = (c.toNat : Int) := e
      rw [e2, if_pos (by omega)]
      injection h with h
      congr 1; omega
    · cases h
def parseU16 (acc : Nat) : List UInt8 → Lib.NumEnd Nat
  | [] => .ok acc
  | c :: r => match hexW c with
    | none => .syntax
    | some d => if 1152921504606846976 ≤ acc then .range else parseU16 (acc * 16 + d) r
theorem parseU16_cons (acc : Nat) (c : UInt8) (r : List UInt8) : parseU16 acc (c :: r) = match hexW c with
    | none => .syntax
    | some d => if 1152921504606846976 ≤ acc then .range else parseU16 (acc * 16 + d) r := rfl
theorem parse16_hex : ∀ (l : List UInt8) (acc m k : Nat), acc < 16 ^ k → l.length + k ≤ 16 → hexFrom acc l = some m → parseU16 acc l = .ok m
  | [], acc, m, k, _, _, h => by injection h with h; subst h; rfl
  | c :: l, acc, m, k, hk, hl, h => by
    rw [hexFrom_cons] at h
    cases hc : hexV c with
    | none => rw [hc] at h; cases h
    | some d =>
      rw [hc] at h
      have hd := hexV_lt hc
      rw [List.length_cons] at hl
      have hp : (16 : Nat) ^ k ≤ 16 ^ 15 := Nat.pow_le_pow_right (by decide) (by omega)
      have e15 : (16 : Nat) ^ 15 = 1152921504606846976 := by decide
      rw [parseU16_cons, hexW_V hc]
      show (if 1152921504606846976 ≤ acc then _ else parseU16 (acc * 16 + d) l) = _
      rw [if_neg (by omega)]
      exact parse16_hex l _ m (k + 1) (by rw [Nat.pow_succ]; omega) (by omega) h
/-- What ParseUint answers. -/
def puT (e : Lib.NumEnd Nat) : Value := match e with
  | .ok v => .tuple #[.int .u64 (v : Int), .nilIface]
  | .syntax => .tuple #[.int .u64 0, .iface 272 (.int .i64 2)]
  | .range => .tuple #[.int .u64 18446744073709551615, .iface 272 (.int .i64 1)]

theorem lower_any (c : Int) (w : World) : Calls Tryz.prog 190 #[.int .u8 c] w fun e w' => e = .returned (.int .u8 (bits .or .u8 c 32)) ∧ w = w' := by
  go_enter Tryz.func190, Tryz.ntmps190
  go_wp2
  go_ret
  exact ⟨rfl, rfl⟩
set_option maxHeartbeats 32000000 in
set_option maxRecDepth 100000 in
theorem iparse16_ne (t : ByteArray) (hne : t.size ≠ 0) (hmax : t.size ≤ 9223372036854775806) (w : World) :
    Calls Tryz.prog 148 #[.string t, .int .i64 16, .int .i64 64] w fun e w' => e = .returned (puT (parseU16 0 t.data.toList)) ∧ w' = Lib.bytesWorld w 5 t := by
  have hemp : t.toList.isEmpty = false := by
    rw [← decide_eq_emptyBytes]
    exact decide_eq_false (fun h => hne (by rw [h]; rfl))
  have hcv := Lib.run_convert_string_bytes (P := Tryz.prog) w 9 111 5 t (u := .string) Tryz.underlying9 Tryz.underlying111 Tryz.underlying5
  have hB : ∀ j, j < t.size → (Lib.bytesWorld w 5 t).cell? ⟨w.heap.size, j, none⟩ = some (.int .u8 (t.data.toList.getD j 0).toNat) := fun j hj => Lib.bytesWorld_cell w 5 t j hj
  obtain ⟨W1, hW1⟩ : ∃ W1, W1 = Lib.bytesWorld w 5 t := ⟨_, rfl⟩
  rw [← hW1] at hcv hB ⊢
  clear hW1
  obtain ⟨bs, hL⟩ : ∃ bs, bs = t.data.toList := ⟨_, rfl⟩
  have hLn : bs.length = t.size := by rw [hL, Lib.size_eq]
  rw [← hL] at hB ⊢
  clear hL
  have hmv : IntKind.u64.wrap (IntKind.u64.wrap 18446744073709551616 - 1) = 18446744073709551615 := by
    rw [IntKind.wrap_u64, IntKind.wrap_u64]
    decide
  go_enter Tryz.func148, Tryz.ntmps148
  go_wp2
  go_loop [12, 13, 101] (fun vu vn vi => ∃ (k acc : Nat) (a : Int), vu = .bool false ∧ vn = .int .u64 a ∧ vi = .int .i64 k ∧ k ≤ t.size ∧ Hid (a = (acc : Int) ∧ acc < 18446744073709551616 ∧ parseU16 0 bs = parseU16 acc (bs.drop k)))
    (fun _ _ vi => t.size - (intOf vi).toNat)
  case atStart => exact ⟨0, 0, 0, rfl, rfl, rfl, by omega, rfl, by omega, rfl⟩
  case round =>
    obtain ⟨k, acc, a, rfl, rfl, rfl, hk, hh⟩ := hrel
    obtain ⟨ha, hacc, hdec⟩ := hh.out
    clear hh
    have a0 : 0 ≤ a := by omega
    have a1 : a < 18446744073709551616 := by omega
    by_cases hkn : k < t.size
    · have hc := hB k hkn
      have hdrop : bs.drop k = bs[k]'(by omega) :: bs.drop (k + 1) := List.drop_eq_getElem_cons (by omega)
      have hget : bs.getD k 0 = bs[k]'(by omega) := by simp [List.getD, List.getElem?_eq_getElem (show k < bs.length by omega)]
      rw [hdrop] at hdec
      rw [hget] at hc
      generalize bs[k]'(by omega) = c at hc hdec
      have hc256 : c.toNat < 256 := c.toNat_lt
      clear hB hdrop hget
      have hq := lowI_bd c
      rw [parseU16_cons] at hdec
      by_cases hdig : 48 ≤ c.toNat ∧ c.toNat ≤ 57
      · have hW : hexW c = some (c.toNat - 48) := by unfold hexW; rw [if_pos hdig]
        obtain ⟨hd0, hd1⟩ := hdig
        rw [hW] at hdec
        dsimp only at hdec
        by_cases hcut : 1152921504606846976 ≤ acc
        · rw [if_pos hcut] at hdec
          have icut : 1152921504606846976 ≤ a := by omega
          clear hcut hacc hW ha
          go_wp2
          go_ret2
          first | exact ⟨rfl, rfl⟩ | exact ⟨by rw [hdec]; rfl, rfl⟩
        · rw [if_neg hcut] at hdec
          have HN : Hid (a * 16 + ((c.toNat : Int) - 48) = ((acc * 16 + (c.toNat - 48) : Nat) : Int) ∧ acc * 16 + (c.toNat - 48) < 18446744073709551616 ∧ parseU16 0 bs = parseU16 (acc * 16 + (c.toNat - 48)) (bs.drop (k + 1))) := Lib.hid ⟨by omega, by omega, hdec⟩
          have icut : a < 1152921504606846976 := by omega
          clear hcut hacc hW hdec ha
          go_wp2
          refine ⟨⟨k + 1, acc * 16 + (c.toNat - 48), a * 16 + ((c.toNat : Int) - 48), rfl, (by first | rfl | (congr 1; omega)), (by first | rfl | (congr 1; omega)), by omega, HN⟩, by simp [intOf]; omega⟩
      · by_cases hlet : 97 ≤ lowI c ∧ lowI c ≤ 102
        · have hW : hexW c = some (lowI c - 87).toNat := by unfold hexW; rw [if_neg hdig, if_pos hlet]
          rw [hW] at hdec
          dsimp only at hdec
          have h95' : ((c.toNat : Int) == 95) = false := by
            apply Bool.eq_false_iff.2
            intro h
            have e : (c.toNat : Int) = 95 := by simpa using h
            have e2 : lowI c = 127 := by unfold lowI; rw [e]; decide +kernel
            omega
          obtain ⟨hl0, hl1⟩ := hlet
          have hex2 : Hid (∀ w, Calls Tryz.prog 190 #[.int .u8 (c.toNat : Int)] w fun e w' => e = .returned (.int .u8 (lowI c)) ∧ w = w') := Lib.hid (fun w => lower_any _ _)
          have hdig' : ¬ (48 ≤ (c.toNat : Int) ∧ (c.toNat : Int) ≤ 57) := by omega
          generalize lowI c = q at hq hl0 hl1 hdec hex2
          clear hW
          have ed : ((q - 87).toNat : Int) = q - 87 := by omega
          have h95 : ((c.toNat : Int) == 95) = false := h95'
          by_cases hcut : 1152921504606846976 ≤ acc
          · rw [if_pos hcut] at hdec
            have icut : 1152921504606846976 ≤ a := by omega
            clear hcut hacc ha ed
            go_wp2_with (go_at_call 190; refine (hex2.out _).mono ?_; rintro e w' ⟨rfl, rfl⟩)
            all_goals go_ret2
            all_goals first | exact ⟨rfl, rfl⟩ | exact ⟨by rw [hdec]; rfl, rfl⟩
          · rw [if_neg hcut] at hdec
            have HN : Hid (a * 16 + (q - 87) = ((acc * 16 + (q - 87).toNat : Nat) : Int) ∧ acc * 16 + (q - 87).toNat < 18446744073709551616 ∧ parseU16 0 bs = parseU16 (acc * 16 + (q - 87).toNat) (bs.drop (k + 1))) := Lib.hid ⟨by omega, by omega, hdec⟩
            have icut : a < 1152921504606846976 := by omega
            clear hcut hacc hdec ha ed
            go_wp2_with (go_at_call 190; refine (hex2.out _).mono ?_; rintro e w' ⟨rfl, rfl⟩)
            all_goals (refine ⟨⟨k + 1, acc * 16 + (q - 87).toNat, a * 16 + (q - 87), rfl, (by first | rfl | (congr 1; omega)), (by first | rfl | (congr 1; omega)), by omega, HN⟩, by simp [intOf]; omega⟩)
        · have hW : hexW c = none := by unfold hexW; rw [if_neg hdig, if_neg hlet]
          rw [hW] at hdec
          dsimp only at hdec
          have hdig' : ¬ (48 ≤ (c.toNat : Int) ∧ (c.toNat : Int) ≤ 57) := by omega
          have hex2 : Hid (∀ w, Calls Tryz.prog 190 #[.int .u8 (c.toNat : Int)] w fun e w' => e = .returned (.int .u8 (lowI c)) ∧ w = w') := Lib.hid (fun w => lower_any _ _)
          by_cases he : (c.toNat : Int) = 95
          · have e2 : lowI c = 127 := by unfold lowI; rw [he]; decide +kernel
            rw [e2] at hex2
            rw [he] at hc hex2
            clear hW hacc ha hdig hdig' hlet hc256 e2 hq he
            go_wp2_with (go_at_call 190; refine (hex2.out _).mono ?_; rintro e w' ⟨rfl, rfl⟩)
            all_goals go_ret2
            all_goals first | exact ⟨rfl, rfl⟩ | exact ⟨by rw [hdec]; rfl, rfl⟩
          · have h95 : ((c.toNat : Int) == 95) = false := by
              apply Bool.eq_false_iff.2
              intro h
              exact he (by simpa using h)
            generalize lowI c = q at hq hlet hex2
            clear hW hacc ha he
            go_wp2_with (go_at_call 190; refine (hex2.out _).mono ?_; rintro e w' ⟨rfl, rfl⟩)
            all_goals go_ret2
            all_goals first | exact ⟨rfl, rfl⟩ | exact ⟨by rw [hdec]; rfl, rfl⟩
    · have hkk : k = t.size := by omega
      subst hkk
      have hF : parseU16 acc (bs.drop t.size) = .ok acc := by rw [List.drop_eq_nil_of_le (by omega)]; rfl
      rw [hF] at hdec
      subst ha
      clear hacc hF a0 a1
      go_wp2
      go_ret2
      first | exact ⟨rfl, rfl⟩ | exact ⟨by rw [hdec]; rfl, rfl⟩
end Go.Proofs.YtfkklcmepcocoaaGreatDoor
