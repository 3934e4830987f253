/- The reference's hexDigit. -/
import Derived.Test.YtpbgonpmpjpljaaGreatDoorNumNX
import Derived.Test.YtpbgonpmpjpljaaGreatDoorMkeX
import Derived.WalkKit
import Derived.Test.YtpbgonpmpjpljaaGreatDoorMkdX
import Derived.BigQuiet
import Derived.Deep.RegionHeld3
namespace Go.Proofs.YtpbgonpmpjpljaaGreatDoor
open Go.RowKit
set_option linter.unusedVariables false

end Go.Proofs.YtpbgonpmpjpljaaGreatDoor

namespace Go.Proofs.YtpbgonpmpjpljaaGreatDoor
open Go.RowKit
set_option linter.unusedVariables false

/-- Two digits a byte. -/
def hexS (s : Bs) : Bs := s.flatMap fun c => [hexD (c.toNat / 16), hexD (c.toNat % 16)]
theorem hexS_snoc {s : Bs} {k : Nat} {c : UInt8} (h : s[k]? = some c) : hexS (s.take (k + 1)) = hexS (s.take k) ++ [hexD (c.toNat / 16), hexD (c.toNat % 16)] := by
  unfold hexS
  rw [take_snoc h, List.flatMap_append]
  simp
theorem hexS_len (s : Bs) : (hexS s).length = 2 * s.length := by
  unfold hexS
  induction s with
  | nil => rfl
  | cons c s ih => rw [List.flatMap_cons, List.length_append, ih]; simp; omega
theorem dig16_fin : ∀ d : Fin 16, (⟨#[48, 49, 50, 51, 52, 53, 54, 55, 56, 57, 97, 98, 99, 100, 101, 102]⟩ : ByteArray).extract d.val (d.val + 1) = B8 [hexD d.val] := by decide +kernel
theorem dig16 (d : Nat) (h : d < 16) : (⟨#[48, 49, 50, 51, 52, 53, 54, 55, 56, 57, 97, 98, 99, 100, 101, 102]⟩ : ByteArray).extract d (d + 1) = B8 [hexD d] := dig16_fin ⟨d, h⟩
set_option maxHeartbeats 4000000 in
set_option maxRecDepth 100000 in
theorem rhex_any (s : Bs) (hl : s.length ≤ 1000000) (w : World) : Calls Tryz.prog 35 #[.string (B8 s)] w fun e w' => e = .returned (.string (B8 (hexS s))) ∧ Below w.heap.size w w' := by
  have hsz : (B8 s).size = s.length := B8_size s
  have Hat := Lib.hid (fun i (h : i < (B8 s).size) => show ((B8 s)[i]).toNat = (s.getD i 0).toNat from B8_at s i h)
  obtain ⟨n, hn⟩ : ∃ n, n = s.length := ⟨_, rfl⟩
  rw [← hn] at hsz hl
  have Hn := Lib.hid hn
  generalize hst : B8 s = st at hsz Hat ⊢
  clear hn hst
  go_enter Tryz.func35, Tryz.ntmps35
  go_wp2
  go_loopw [3, 4] (fun ov kv wr => ∃ (k qn : Nat), k ≤ n ∧ kv = .int .i64 k ∧ ov = .string (B8 (hexS (s.take k))) ∧ wr = w.drewN qn) (fun _ kv _ => n - (intOf kv).toNat)
  case atStart => exact ⟨0, 0, Nat.zero_le _, rfl, rfl, rfl⟩
  case round =>
    obtain ⟨k, qn, hk, rfl, rfl, rfl⟩ := hrel
    by_cases hkn : k < n
    · have hk1 : k < st.size := by omega
      have x0 := Hat.out k hk1
      obtain ⟨c, hc⟩ : ∃ c, s[k]? = some c := ⟨_, List.getElem?_eq_getElem (by rw [← Hn.out]; exact hkn)⟩
      have hg : s.getD k 0 = c := by rw [List.getD_eq_getElem?_getD, hc]; rfl
      rw [hg] at x0
      have Hs := Lib.hid (hexS_snoc hc)
      have hc256 : c.toNat < 256 := c.toNat_lt
      have hol : (B8 (hexS (s.take k))).size ≤ 2000000 := by rw [B8_size, hexS_len, List.length_take]; omega
      obtain ⟨a, ha⟩ : ∃ a, a = c.toNat / 16 := ⟨_, rfl⟩
      obtain ⟨b, hb⟩ : ∃ b, b = c.toNat % 16 := ⟨_, rfl⟩
      rw [← ha, ← hb] at Hs
      have ha16 : a < 16 := by omega
      have hb16 : b < 16 := by omega
      have e1 : (c.toNat : Int) / 16 = (a : Int) := by omega
      have e2 : (c.toNat : Int) % 16 = (b : Int) := by omega
      have w1 : IntKind.i64.wrap ((a : Int) + 1) = (a : Int) + 1 := by rw [IntKind.wrap_i64]; omega
      have w2 : IntKind.i64.wrap ((b : Int) + 1) = (b : Int) + 1 := by rw [IntKind.wrap_i64]; omega
      have t1 : ((a : Int) + 1).toNat = a + 1 := by omega
      have t2 : ((b : Int) + 1).toNat = b + 1 := by omega
      have p1 : (0 : Int) ≤ (a : Int) + 1 := by omega
      have p2 : (0 : Int) ≤ (b : Int) + 1 := by omega
      have r1 : (a : Int) + 1 ≤ 16 := by omega
      have r2 : (b : Int) + 1 ≤ 16 := by omega
      have g1 := dig16 a ha16
      have g2 := dig16 b hb16
      have z1 : (B8 [hexD a]).size = 1 := rfl
      have z2 : (B8 [hexD b]).size = 1 := rfl
      have Hcat := Lib.hid (show B8 (hexS (s.take k)) ++ B8 [hexD a] ++ B8 [hexD b] = B8 (hexS (s.take (k + 1))) by rw [B8_append, B8_append, Hs.out, List.append_assoc]; rfl)
      generalize ho2 : B8 (hexS (s.take (k + 1))) = o2 at Hcat
      have Ho2 := Lib.hid ho2
      clear ho2
      generalize B8 (hexS (s.take k)) = o1 at hol Hcat
      generalize B8 [hexD a] = sa at g1 z1 Hcat
      generalize B8 [hexD b] = sb at g2 z2 Hcat
      have n1 : ¬ 9223372036854775807 < o1.size + 1 := by omega
      have n2 : ¬ 9223372036854775807 < o1.size + 1 + 1 := by omega
      have n3 : ¬ 9223372036854775807 < o1.size + sa.size := by omega
      have n4 : ¬ 9223372036854775807 < o1.size + sa.size + sb.size := by omega
      have hki : (k : Int) < (n : Int) := by omega
      clear hc hg ha hb hc256
      go_wp2_with fail
      go_quiet (fail)
      go_wp2
      go_roundw
      case rel => exact ⟨k + 1, _, by omega, by go_num, by rw [Ho2.out, ← Hcat.out], rfl⟩
      case measure => simp [intOf]; omega
    · obtain rfl : k = n := by omega
      have e : s.take k = s := List.take_of_length_le (by rw [← Hn.out]; exact Nat.le_refl _)
      rw [e]
      go_wp2
      go_ret
      exact ⟨rfl, Below.drewN (Below.refl _ _) _⟩
end Go.Proofs.YtpbgonpmpjpljaaGreatDoor

namespace Go.Proofs.YtpbgonpmpjpljaaGreatDoor
open Go.RowKit
set_option linter.unusedVariables false

/-- Bytes as cells. -/
def u8C (l : Bs) : List Value := l.map fun c => .int .u8 (c.toNat : Int)
theorem u8C_app (a b : Bs) : u8C (a ++ b) = u8C a ++ u8C b := by unfold u8C; rw [List.map_append]
theorem and15_u8 (x : Nat) (hx : x < 256) : bits BinOp.and IntKind.u8 (x : Int) 15 = ((x % 16 : Nat) : Int) := by
  have e : ∀ z : Nat, z < 256 → (BitVec.ofInt 8 (z : Int)).toNat = z := fun z hz => by
    rw [BitVec.ofInt_natCast, BitVec.toNat_ofNat]; exact Nat.mod_eq_of_lt (by omega)
  show IntKind.u8.wrap ((BitVec.ofInt 8 (x : Int) &&& BitVec.ofInt 8 ((15 : Nat) : Int)).toNat : Int) = _
  rw [BitVec.toNat_and, e x hx, e 15 (by omega), IntKind.wrap_u8, show x &&& 15 = x % 16 from Nat.and_two_pow_sub_one_eq_mod x 4]
  omega
theorem rd_new2b (W : World) (t : TypeId) (u0 u1 : Value) : Rd (W.alloc (.cells #[u0, u1] t)) (W.alloc (.cells #[u0, u1] t)).heap.size 1 (some ⟨W.heap.size, 0, none⟩) 2 [u0, u1] :=
  ⟨rfl, fun _ => ⟨W.heap.size, 0, rfl, by simp, fun j v hv => by rw [Nat.zero_add, (Blk.new W t #[u0, u1]).cell j]; simpa using hv⟩⟩
theorem u8_one2 (a b : Int) : ∀ u ∈ [Value.int .u8 a, .int .u8 b], u.oneCell' = true := by
  intro u hu; simp at hu; rcases hu with rfl | rfl <;> rfl
theorem cdig_at : ∀ d : Fin 16, ((⟨#[48, 49, 50, 51, 52, 53, 54, 55, 56, 57, 97, 98, 99, 100, 101, 102]⟩ : ByteArray)[d.val]'(by have := d.isLt; exact this)).toNat = (hexD d.val).toNat := by decide +kernel
set_option maxHeartbeats 4000000 in
set_option maxRecDepth 100000 in
theorem chex_any (s : Bs) (hl : s.length ≤ 1000000) (w : World) : Calls Tryz.prog 32 #[.string (B8 s)] w fun e w' => e = .returned (.string (B8 (hexS s))) ∧ Below w.heap.size w w' := by
  have hsz : (B8 s).size = s.length := B8_size s
  have Hat := Lib.hid (fun i (h : i < (B8 s).size) => show ((B8 s)[i]).toNat = (s.getD i 0).toNat from B8_at s i h)
  obtain ⟨n, hn⟩ : ∃ n, n = s.length := ⟨_, rfl⟩
  rw [← hn] at hsz hl
  have Hn := Lib.hid hn
  obtain ⟨i0, hi, hz0, hz1, hz2⟩ := info_parts infoU8
  have Hi := Lib.hid hi; have Hz0 := Lib.hid hz0; have Hz1 := Lib.hid hz1; have Hz2 := Lib.hid hz2
  generalize hst : B8 s = st at hsz Hat ⊢
  clear hn hst hi hz0 hz1 hz2
  go_enter Tryz.func32, Tryz.ntmps32
  go_wp2
  go_loopw [3, 7] (fun ov kv wr => ∃ (k : Nat), k ≤ n ∧ kv = .int .i64 k ∧ wr.ownsRow w.heap.size 5 1 ov (2 * k) (u8C (hexS (s.take k))) ∧ Below w.heap.size w wr) (fun _ kv _ => n - (intOf kv).toNat)
  case atStart => exact ⟨0, Nat.zero_le _, rfl, World.ownsRow_nil _ _ _ _, Below.refl _ _⟩
  case round =>
    obtain ⟨k, hk, rfl, hown, hb⟩ := hrel
    obtain ⟨Ao, co, rfl, _, _, _⟩ := own_form hown
    have Hown := Lib.hid hown; have HB := Lib.hid hb
    clear hown hb
    by_cases hkn : k < n
    · have hk1 : k < st.size := by omega
      have x0 := Hat.out k hk1
      obtain ⟨c, hc⟩ : ∃ c, s[k]? = some c := ⟨_, List.getElem?_eq_getElem (by rw [← Hn.out]; exact hkn)⟩
      have hg : s.getD k 0 = c := by rw [List.getD_eq_getElem?_getD, hc]; rfl
      rw [hg] at x0
      have Hs := Lib.hid (hexS_snoc hc)
      have hc256 : c.toNat < 256 := c.toNat_lt
      obtain ⟨a, ha⟩ : ∃ a, a = c.toNat / 16 := ⟨_, rfl⟩
      obtain ⟨b, hb⟩ : ∃ b, b = c.toNat % 16 := ⟨_, rfl⟩
      rw [← ha, ← hb] at Hs
      have ha16 : a < 16 := by omega
      have hb16 : b < 16 := by omega
      have d1 := cdig_at ⟨a, ha16⟩
      have d2 := cdig_at ⟨b, hb16⟩
      dsimp only at d1 d2
      have Hc := Lib.hid hc
      have hki : (k : Int) < (n : Int) := by omega
      have h15 : bits BinOp.and IntKind.u8 (c.toNat : Int) 15 = (b : Int) := by rw [and15_u8 _ hc256, hb]
      have hsh : (c.toNat : Int) / 16 = (a : Int) := by omega
      have hsh2 : (c.toNat : Int) / 2 ^ 4 = (a : Int) := by omega
      have hol : (hexS (s.take k)).length = 2 * k := by rw [hexS_len, List.length_take, ← Hn.out]; omega
      have Hol := Lib.hid hol
      have ha16' : (a : Int) < 16 := by omega
      have hb16' : (b : Int) < 16 := by omega
      have ha0 : (0 : Int) ≤ (a : Int) := by omega
      have hb0 : (0 : Int) ≤ (b : Int) := by omega
      have hk63 : 2 * k + 2 ≤ maxLen := by unfold maxLen; omega
      have hk8 : (2 * k + 2) * 1 ≤ 140737488355328 := by omega
      have HoA := Lib.hid (show (wr.drew.alloc (.cells #[.int .u8 ((hexD a).toNat : Int), .int .u8 ((hexD b).toNat : Int)] 5)).ownsRow w.heap.size 5 1 (.slice Ao (2 * k) co) (2 * k) (u8C (hexS (s.take k))) from (own_drew Hown.out).alloc _)
      have HrA := Lib.hid (rd_new2b wr.drew 5 (.int .u8 ((hexD a).toNat : Int)) (.int .u8 ((hexD b).toNat : Int)))
      have HbA := Lib.hid (show Below w.heap.size w (wr.drew.alloc (.cells #[.int .u8 ((hexD a).toNat : Int), .int .u8 ((hexD b).toNat : Int)] 5)) from Below.alloc HB.out.drew HB.out.size _)
      have HzA := Lib.hid (show w.heap.size ≤ (wr.drew.alloc (.cells #[.int .u8 ((hexD a).toNat : Int), .int .u8 ((hexD b).toNat : Int)] 5)).heap.size from HbA.out.size)
      clear hc hg ha hb hol
      go_wp2
      go_region_held3 (fun w' => True) (trivial) ((refine step_append_rd _ (by rfl) (.tmp 10) (.tmp 21) _ (by rfl) w.heap.size 5 i0 (.int .u8 0) 1 1 Tryz.underlying107 Hi.out Hz0.out Hz1.out Hz2.out (by rfl) (by decide) (.slice Ao (2 * k) co) (2 * k) _ (by rfl) HoA.out _ _ 2 2 [.int .u8 ((hexD a).toNat : Int), .int .u8 ((hexD b).toNat : Int)] (by rfl) HrA.out (u8_one2 _ _) hk63 hk8 HzA.out ?_; intro v' wa hown' hgr hat; have Hv := Lib.hid hown'; have HBb := Lib.hid (Below.grown HbA.out hgr HzA.out (fun g hg => (own_lt HoA.out g hg).1)); clear hown' hgr hat))
      all_goals
        (try simp only [Exit.inBlock, Exit.then])
        clear d1 d2 h15 hsh hsh2
        go_wp2
        go_roundw
        case rel =>
          refine ⟨k + 1, by omega, by go_num, ?_, HBb.out⟩
          have := Hv.out
          rw [Hs.out, u8C_app, show 2 * (k + 1) = 2 * k + 2 by omega]
          exact this
        case measure => simp [intOf]; omega
    · obtain rfl : k = n := by omega
      have hkk : ¬ (k : Int) < (k : Int) := by omega
      have htk : s.take k = s := List.take_of_length_le (by rw [Hn.out]; exact Nat.le_refl _)
      have hown := Hown.out
      rw [htk] at hown
      have hcv := conv_bytes wr Ao (2 * k) co ((hexS s).map UInt8.toNat) (by rw [List.map_map]; exact Rd.of_own hown) (fun x hx => by obtain ⟨c, _, rfl⟩ := List.mem_map.1 hx; exact c.toNat_lt)
      have Hfin := Lib.hid (show bytesOf ((hexS s).map UInt8.toNat) = B8 (hexS s) by
        unfold bytesOf
        rw [List.map_map]
        congr 1
        conv => rhs; rw [← List.map_id (hexS s)]
        apply List.map_congr_left
        intro c _
        simp)
      clear hown htk
      go_wp2
      go_ret
      exact ⟨congrArg (fun b => Ending.returned (.string b)) Hfin.out, HB.out⟩
end Go.Proofs.YtpbgonpmpjpljaaGreatDoor

namespace Go.Proofs.YtpbgonpmpjpljaaGreatDoor
open Go.RowKit
set_option linter.unusedVariables false

/-- The bytes that digits spell, two each; none: they spell none. -/
def unhexB : Bs → Option Bs
  | [] => some []
  | [_] => none
  | a :: b :: r => match hexV a, hexV b with
    | some x, some y => (unhexB r).map (UInt8.ofNat (16 * x + y) :: ·)
    | _, _ => none
def UnPost (s : Bs) (w : World) (e : Ending) (w' : World) : Prop := (∀ o, unhexB s = some o → e = .returned (.tuple #[.string (B8 o), .bool true])) ∧ (unhexB s = none → e = .returned (.tuple #[.string ⟨#[]⟩, .bool false])) ∧ Below w.heap.size w w'
theorem UnPost.no {s : Bs} {w w' : World} (h : unhexB s = none) (hb : Below w.heap.size w w') : UnPost s w (.returned (.tuple #[.string ⟨#[]⟩, .bool false])) w' := ⟨fun o ho => (by rw [h] at ho; cases ho), fun _ => rfl, hb⟩
end Go.Proofs.YtpbgonpmpjpljaaGreatDoor
