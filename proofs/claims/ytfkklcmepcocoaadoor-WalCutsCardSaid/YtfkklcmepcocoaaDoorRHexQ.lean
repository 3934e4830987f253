/- The reference's Hex by its contract. -/
import Derived.Test.YtfkklcmepcocoaaDoorNumN
import Derived.Test.YtfkklcmepcocoaaDoorWordQ
import Derived.BigQuiet
namespace Go.Proofs.YtfkklcmepcocoaaDoor
open Go.RowKit
set_option linter.unusedVariables false

/-- Two digits a byte. -/
def hexS (s : Bs) : Bs := s.flatMap fun c => [hexD (c.toNat / 16), hexD (c.toNat % 16)]
theorem hexS_snoc {s : Bs} {k : Nat} {c : UInt8} (h : s[k]? = some c) : hexS (s.take (k + 1)) = hexS (s.take k) ++ [hexD (c.toNat / 16), hexD (c.toNat % 16)] := by
  unfold hexS
  rw [take_snoc h, List.flatMap_append]
  simp
theorem hexS_len (s : Bs) : (hexS s).length = 2 * s.length := by
  unfold hexS
  induction s with
  | nil => rfl
  | cons c s ih => rw [List.flatMap_cons, List.length_append, ih]; simp; omega
theorem dig16_fin : ∀ d : Fin 16, (⟨#[48, 49, 50, 51, 52, 53, 54, 55, 56, 57, 97, 98, 99, 100, 101, 102]⟩ : ByteArray).extract d.val (d.val + 1) = B8 [hexD d.val] := by decide +kernel
theorem dig16 (d : Nat) (h : d < 16) : (⟨#[48, 49, 50, 51, 52, 53, 54, 55, 56, 57, 97, 98, 99, 100, 101, 102]⟩ : ByteArray).extract d (d + 1) = B8 [hexD d] := dig16_fin ⟨d, h⟩
/-- The eight bytes of a value, the first ahead. -/
def byt8 (v k : Nat) : Bs := (List.range k).map fun i => UInt8.ofNat (v / 2 ^ (56 - 8 * i) % 256)
theorem byt8_snoc (v k : Nat) : byt8 v (k + 1) = byt8 v k ++ [UInt8.ofNat (v / 2 ^ (56 - 8 * k) % 256)] := by unfold byt8; rw [List.range_succ, List.map_append]; rfl
theorem hexS_app (a b : Bs) : hexS (a ++ b) = hexS a ++ hexS b := by unfold hexS; rw [List.flatMap_append]
theorem hexS_one (x : Nat) (h : x < 256) : hexS [UInt8.ofNat x] = [hexD (x / 16), hexD (x % 16)] := by
  unfold hexS
  rw [List.flatMap_singleton, UInt8.toNat_ofNat', Nat.mod_eq_of_lt (by omega)]
theorem hexS_byt : ∀ (k v : Nat), k ≤ 8 → hexS (byt8 v k) = hexK (2 * k) (v / 2 ^ (64 - 8 * k))
  | 0, v, _ => rfl
  | k + 1, v, h => by
    have h1 := hexS_byt k v (by omega)
    have e1 : 64 - 8 * (k + 1) = 56 - 8 * k := by omega
    have e2 : 2 * (k + 1) = 2 * k + 2 := by omega
    have e3 : 64 - 8 * k = (56 - 8 * k) + 8 := by omega
    rw [byt8_snoc, hexS_app, h1, e1, e2, hexK_two, e3, Nat.pow_add, ← Nat.div_div_eq_div_mul, hexS_one _ (Nat.mod_lt _ (by decide))]
    generalize v / 2 ^ (56 - 8 * k) = u
    have a1 : u % 256 / 16 = u / 16 % 16 := by omega
    have a2 : u % 256 % 16 = u % 16 := by omega
    rw [a1, a2]
theorem hexS_all (v : Nat) : hexS (byt8 v 8) = hexK 16 v := by
  have := hexS_byt 8 v (Nat.le_refl _)
  simpa using this
set_option maxHeartbeats 4000000 in
set_option maxRecDepth 100000 in
theorem rhex_any (s : Bs) (hl : s.length ≤ 1000000) (w : World) : Calls Tryd.prog 18 #[.string (B8 s)] w fun e w' => e = .returned (.string (B8 (hexS s))) ∧ Below w.heap.size w w' := by
  have hsz : (B8 s).size = s.length := B8_size s
  have Hat := Lib.hid (fun i (h : i < (B8 s).size) => show ((B8 s)[i]).toNat = (s.getD i 0).toNat from B8_at s i h)
  obtain ⟨n, hn⟩ : ∃ n, n = s.length := ⟨_, rfl⟩
  rw [← hn] at hsz hl
  have Hn := Lib.hid hn
  generalize hst : B8 s = st at hsz Hat ⊢
  clear hn hst
  go_enter Tryd.func18, Tryd.ntmps18
  go_wp2
  go_loopw [3, 4] (fun ov kv wr => ∃ (k qn : Nat), k ≤ n ∧ kv = .int .i64 k ∧ ov = .string (B8 (hexS (s.take k))) ∧ wr = w.drewN qn) (fun _ kv _ => n - (intOf kv).toNat)
  case atStart => exact ⟨0, 0, Nat.zero_le _, rfl, rfl, rfl⟩
  case round =>
    obtain ⟨k, qn, hk, rfl, rfl, rfl⟩ := hrel
    by_cases hkn : k < n
    · have hk1 : k < st.size := by omega
      have x0 := Hat.out k hk1
      obtain ⟨c, hc⟩ : ∃ c, s[k]? = some c := ⟨_, List.getElem?_eq_getElem (by rw [← Hn.out]; exact hkn)⟩
      have hg : s.getD k 0 = c := by rw [List.getD_eq_getElem?_getD, hc]; rfl
      rw [hg] at x0
      have Hs := Lib.hid (hexS_snoc hc)
      have hc256 : c.toNat < 256 := c.toNat_lt
      have hol : (B8 (hexS (s.take k))).size ≤ 2000000 := by rw [B8_size, hexS_len, List.length_take]; omega
      obtain ⟨a, ha⟩ : ∃ a, a = c.toNat / 16 := ⟨_, rfl⟩
      obtain ⟨b, hb⟩ : ∃ b, b = c.toNat % 16 := ⟨_, rfl⟩
      rw [← ha, ← hb] at Hs
      have ha16 : a < 16 := by omega
      have hb16 : b < 16 := by omega
      have e1 : (c.toNat : Int) / 16 = (a : Int) := by omega
      have e2 : (c.toNat : Int) % 16 = (b : Int) := by omega
      have w1 : IntKind.i64.wrap ((a : Int) + 1) = (a : Int) + 1 := by rw [IntKind.wrap_i64]; omega
      have w2 : IntKind.i64.wrap ((b : Int) + 1) = (b : Int) + 1 := by rw [IntKind.wrap_i64]; omega
      have t1 : ((a : Int) + 1).toNat = a + 1 := by omega
      have t2 : ((b : Int) + 1).toNat = b + 1 := by omega
      have p1 : (0 : Int) ≤ (a : Int) + 1 := by omega
      have p2 : (0 : Int) ≤ (b : Int) + 1 := by omega
      have r1 : (a : Int) + 1 ≤ 16 := by omega
      have r2 : (b : Int) + 1 ≤ 16 := by omega
      have g1 := dig16 a ha16
      have g2 := dig16 b hb16
      have z1 : (B8 [hexD a]).size = 1 := rfl
      have z2 : (B8 [hexD b]).size = 1 := rfl
      have Hcat := Lib.hid (show B8 (hexS (s.take k)) ++ B8 [hexD a] ++ B8 [hexD b] = B8 (hexS (s.take (k + 1))) by rw [B8_append, B8_append, Hs.out, List.append_assoc]; rfl)
      generalize ho2 : B8 (hexS (s.take (k + 1))) = o2 at Hcat
      have Ho2 := Lib.hid ho2
      clear ho2
      generalize B8 (hexS (s.take k)) = o1 at hol Hcat
      generalize B8 [hexD a] = sa at g1 z1 Hcat
      generalize B8 [hexD b] = sb at g2 z2 Hcat
      have n1 : ¬ 9223372036854775807 < o1.size + 1 := by omega
      have n2 : ¬ 9223372036854775807 < o1.size + 1 + 1 := by omega
      have n3 : ¬ 9223372036854775807 < o1.size + sa.size := by omega
      have n4 : ¬ 9223372036854775807 < o1.size + sa.size + sb.size := by omega
      have hki : (k : Int) < (n : Int) := by omega
      clear hc hg ha hb hc256
      go_wp2_with fail
      go_quiet (fail)
      go_wp2
      go_roundw
      case rel => exact ⟨k + 1, _, by omega, by go_num, by rw [Ho2.out, ← Hcat.out], rfl⟩
      case measure => simp [intOf]; omega
    · obtain rfl : k = n := by omega
      have e : s.take k = s := List.take_of_length_le (by rw [← Hn.out]; exact Nat.le_refl _)
      rw [e]
      go_wp2
      go_ret
      exact ⟨rfl, Below.drewN (Below.refl _ _) _⟩
end Go.Proofs.YtfkklcmepcocoaaDoor
