/- Whatever is appended while power may fail: what has been appended with no error is what is recovered; in plain Lean. -/
import Derived.Test.YtfkklcmepcocoaaGreatDoorMkb
import Derived.Test.YtfkklcmepcocoaaGreatDoorNumN
import Derived.Test.YtfkklcmepcocoaaGreatDoorWord
import Derived.BigQuiet
import Derived.Test.YtfkklcmepcocoaaGreatDoorWalRdN
import Derived.Test.YtfkklcmepcocoaaGreatDoorRef
import Derived.Test.YtfkklcmepcocoaaGreatDoorWalRec
import Derived.Test.YtfkklcmepcocoaaGreatDoorMkc
namespace Go.Proofs.YtfkklcmepcocoaaGreatDoor
open Go.RowKit
set_option linter.unusedVariables false

structure CutInv (d : Dk) (done : List En) : Prop where
  ok : ∀ e ∈ done, EnOk e
  on : d.off = false → d.b = done.flatMap recL
  off : d.off = true → ∃ r, d.b = done.flatMap recL ++ r ∧ ∀ f, EnOk f → ¬ recL f <+: r
  len : d.b.length ≤ 65536
theorem CutInv.start (c : Int) : CutInv ⟨[], false, c⟩ [] := ⟨fun e h => (by cases h), fun _ => rfl, fun h => (by cases h), by simp⟩
theorem apF_z {d : Dk} {e : En} (h : (apF d e).1 = 0) : (rdF e.nm).1 = 0 ∧ tickB e.tick = true ∧ d.b.length + (recL e).length ≤ 65536 ∧ (wrD d (recL e)).2 = true := by
  unfold apF at h
  by_cases h1 : (rdF e.nm).1 ≠ 0
  · rw [if_pos h1] at h; exact absurd h h1
  rw [if_neg h1] at h
  by_cases h2 : tickB e.tick = false
  · rw [if_pos h2] at h; cases h
  rw [if_neg h2] at h
  by_cases h3 : 65536 < d.b.length + (recL e).length
  · rw [if_pos h3] at h; cases h
  rw [if_neg h3] at h
  by_cases h4 : (wrD d (recL e)).2 = true
  · exact ⟨by omega, by simpa using h2, by omega, h4⟩
  · rw [if_neg h4] at h; cases h
theorem apD_of {d : Dk} {e : En} (h1 : (rdF e.nm).1 = 0) (h2 : tickB e.tick = true) (h3 : d.b.length + (recL e).length ≤ 65536) : apD d e = (wrD d (recL e)).1 := by
  unfold apD
  rw [if_neg (fun h => h h1), if_neg (by rw [h2]; decide), if_neg (by omega)]
theorem apD_no {d : Dk} {e : En} (h : ¬ ((rdF e.nm).1 = 0 ∧ tickB e.tick = true ∧ d.b.length + (recL e).length ≤ 65536)) : apD d e = d := by
  unfold apD
  by_cases h1 : (rdF e.nm).1 ≠ 0
  · rw [if_pos h1]
  rw [if_neg h1]
  by_cases h2 : tickB e.tick = false
  · rw [if_pos h2]
  rw [if_neg h2]
  by_cases h3 : 65536 < d.b.length + (recL e).length
  · rw [if_pos h3]
  · exact absurd ⟨by omega, by simpa using h2, by omega⟩ h
theorem wrD_true {d : Dk} {s : Bs} (h : (wrD d s).2 = true) : d.off = false ∧ ¬ (0 ≤ d.cut ∧ d.cut < s.length) := by
  unfold wrD at h
  by_cases h1 : d.off = true
  · rw [if_pos h1] at h; cases h
  · rw [if_neg h1] at h
    by_cases h2 : 0 ≤ d.cut ∧ d.cut < s.length
    · rw [if_pos h2] at h; cases h
    · exact ⟨by simpa using h1, h2⟩
theorem CutInv.step {d : Dk} {done : List En} (h : CutInv d done) (e : En) (hb : e.bit < 18446744073709551616) :
    ((apF d e).1 = 0 → CutInv (apD d e) (done ++ [e])) ∧ ((apF d e).1 ≠ 0 → CutInv (apD d e) done) := by
  refine ⟨fun h0 => ?_, fun h0 => ?_⟩
  · obtain ⟨h1, h2, h3, h4⟩ := apF_z h0
    obtain ⟨h5, h6⟩ := wrD_true h4
    rw [apD_of h1 h2 h3, wrD_all h5 h6]
    refine ⟨fun x hx => ?_, fun _ => ?_, fun hh => (by cases hh), by simpa using h3⟩
    · rcases List.mem_append.1 hx with hx | hx
      · exact h.ok x hx
      · rw [List.mem_singleton.1 hx]; exact ⟨h1, h2, hb⟩
    · show d.b ++ recL e = _
      rw [h.on h5, List.flatMap_append, List.flatMap_singleton]
  · by_cases hc : (rdF e.nm).1 = 0 ∧ tickB e.tick = true ∧ d.b.length + (recL e).length ≤ 65536
    · obtain ⟨h1, h2, h3⟩ := hc
      have hlen : (apD d e).b.length ≤ 65536 := apD_len h.len e
      rw [apD_of h1 h2 h3] at hlen ⊢
      have h4 : (wrD d (recL e)).2 = false := by
        unfold apF at h0
        rw [if_neg (fun h => h h1), if_neg (by rw [h2]; decide), if_neg (by omega)] at h0
        by_cases h4 : (wrD d (recL e)).2 = true
        · rw [if_pos h4] at h0; exact absurd rfl h0
        · simpa using h4
      by_cases hoff : d.off = true
      · rw [wrD_off hoff]; exact h
      · have hoff' : d.off = false := by simpa using hoff
        by_cases h6 : 0 ≤ d.cut ∧ d.cut < (recL e).length
        · rw [wrD_cut hoff' h6.1 h6.2] at hlen ⊢
          refine ⟨h.ok, fun hh => (by cases hh), fun _ => ⟨(recL e).take d.cut.toNat, ?_, ?_⟩, hlen⟩
          · show d.b ++ _ = _
            rw [h.on hoff']
          · exact rec_cut ⟨h1, h2, hb⟩ (by omega)
        · rw [wrD_all hoff' h6] at h4; cases h4
    · rw [apD_no hc]; exact h
theorem no_rec_nil : ∀ f, EnOk f → ¬ recL f <+: [] := fun f _ h => rec_ne f (List.prefix_nil.1 h)
theorem CutInv.parts {d : Dk} {done : List En} (h : CutInv d done) : ∃ r, d.b = done.flatMap recL ++ r ∧ ∀ f, EnOk f → ¬ recL f <+: r := by
  cases hd : d.off with
  | false => exact ⟨[], by rw [h.on hd, List.append_nil], no_rec_nil⟩
  | true => exact h.off hd
theorem CutInv.read {d : Dk} {done : List En} (h : CutInv d done) {l : List En} {n : Nat} (hr : IsRead d.b l n) : l = done ∧ d.b.take n = done.flatMap recL := by
  obtain ⟨r, e, hn⟩ := h.parts
  have h2 := IsRead.of h.ok hn
  rw [← e] at h2
  obtain ⟨rfl, _⟩ := hr.uniq h2
  exact ⟨rfl, hr.pre⟩
theorem recL_len {e : En} (h : EnOk e) : (recL e).length ≤ 198 := by
  have := (body_len h).2
  have e1 : (recL e).length = (bodyL e).length + 6 := recB_len _
  omega
theorem flat_len_le : ∀ (l : List En), (∀ e ∈ l, EnOk e) → (l.flatMap recL).length ≤ 198 * l.length
  | [], _ => by simp
  | e :: l, h => by
    have h1 := recL_len (h e List.mem_cons_self)
    have h2 := flat_len_le l (fun x hx => h x (List.mem_cons_of_mem _ hx))
    rw [List.flatMap_cons, List.length_append, List.length_cons]
    omega
/-- The record that is appended last. -/
def z9 : En := ⟨[122, 61, 57], 1, 2⟩
theorem z9_rd : rdF z9.nm = (0, -1) := by decide +kernel
theorem z9_ok : EnOk z9 := ⟨by rw [z9_rd], by decide, by decide⟩
theorem last_ap {done : List En} (h : ∀ e ∈ done, EnOk e) (hl : done.length ≤ 60) : apF ⟨done.flatMap recL, false, -1⟩ z9 = (0, -1) ∧ (apD ⟨done.flatMap recL, false, -1⟩ z9).b = (done ++ [z9]).flatMap recL := by
  have h1 := flat_len_le done h
  have h2 := recL_len z9_ok
  have h3 : (done.flatMap recL).length + (recL z9).length ≤ 65536 := by omega
  have hw := wrD_all (d := ⟨done.flatMap recL, false, -1⟩) rfl (s := recL z9) (fun hh => absurd hh.1 (show ¬ (0 : Int) ≤ -1 by decide))
  refine ⟨?_, ?_⟩
  · unfold apF
    rw [if_neg (fun hh => hh z9_ok.1), if_neg (by rw [z9_ok.2.1]; decide), if_neg (by dsimp only; omega), hw]
    rfl
  · rw [apD_of z9_ok.1 z9_ok.2.1 h3, hw, List.flatMap_append, List.flatMap_singleton]
theorem read_all {l : List En} (h : ∀ e ∈ l, EnOk e) {l' : List En} {n : Nat} (hr : IsRead (l.flatMap recL) l' n) : l' = l ∧ n = (l.flatMap recL).length := by
  have h2 := IsRead.of h no_rec_nil
  rw [List.append_nil] at h2
  exact hr.uniq h2
end Go.Proofs.YtfkklcmepcocoaaGreatDoor

namespace Go.Proofs.YtfkklcmepcocoaaGreatDoor
open Go.RowKit
set_option linter.unusedVariables false

/-- Two digits a byte. -/
def hexS (s : Bs) : Bs := s.flatMap fun c => [hexD (c.toNat / 16), hexD (c.toNat % 16)]
theorem hexS_snoc {s : Bs} {k : Nat} {c : UInt8} (h : s[k]? = some c) : hexS (s.take (k + 1)) = hexS (s.take k) ++ [hexD (c.toNat / 16), hexD (c.toNat % 16)] := by
  unfold hexS
  rw [take_snoc h, List.flatMap_append]
  simp
theorem hexS_len (s : Bs) : (hexS s).length = 2 * s.length := by
  unfold hexS
  induction s with
  | nil => rfl
  | cons c s ih => rw [List.flatMap_cons, List.length_append, ih]; simp; omega
theorem dig16_fin : ∀ d : Fin 16, (⟨#[48, 49, 50, 51, 52, 53, 54, 55, 56, 57, 97, 98, 99, 100, 101, 102]⟩ : ByteArray).extract d.val (d.val + 1) = B8 [hexD d.val] := by decide +kernel
theorem dig16 (d : Nat) (h : d < 16) : (⟨#[48, 49, 50, 51, 52, 53, 54, 55, 56, 57, 97, 98, 99, 100, 101, 102]⟩ : ByteArray).extract d (d + 1) = B8 [hexD d] := dig16_fin ⟨d, h⟩
/-- The eight bytes of a value, the first ahead. -/
def byt8 (v k : Nat) : Bs := (List.range k).map fun i => UInt8.ofNat (v / 2 ^ (56 - 8 * i) % 256)
theorem byt8_snoc (v k : Nat) : byt8 v (k + 1) = byt8 v k ++ [UInt8.ofNat (v / 2 ^ (56 - 8 * k) % 256)] := by unfold byt8; rw [List.range_succ, List.map_append]; rfl
theorem hexS_app (a b : Bs) : hexS (a ++ b) = hexS a ++ hexS b := by unfold hexS; rw [List.flatMap_append]
theorem hexS_one (x : Nat) (h : x < 256) : hexS [UInt8.ofNat x] = [hexD (x / 16), hexD (x % 16)] := by
  unfold hexS
  rw [List.flatMap_singleton, UInt8.toNat_ofNat', Nat.mod_eq_of_lt (by omega)]
theorem hexS_byt : ∀ (k v : Nat), k ≤ 8 → hexS (byt8 v k) = hexK (2 * k) (v / 2 ^ (64 - 8 * k))
  | 0, v, _ => rfl
  | k + 1, v, h => by
    have h1 := hexS_byt k v (by omega)
    have e1 : 64 - 8 * (k + 1) = 56 - 8 * k := by omega
    have e2 : 2 * (k + 1) = 2 * k + 2 := by omega
    have e3 : 64 - 8 * k = (56 - 8 * k) + 8 := by omega
    rw [byt8_snoc, hexS_app, h1, e1, e2, hexK_two, e3, Nat.pow_add, ← Nat.div_div_eq_div_mul, hexS_one _ (Nat.mod_lt _ (by decide))]
    generalize v / 2 ^ (56 - 8 * k) = u
    have a1 : u % 256 / 16 = u / 16 % 16 := by omega
    have a2 : u % 256 % 16 = u % 16 := by omega
    rw [a1, a2]
theorem hexS_all (v : Nat) : hexS (byt8 v 8) = hexK 16 v := by
  have := hexS_byt 8 v (Nat.le_refl _)
  simpa using this
set_option maxHeartbeats 4000000 in
set_option maxRecDepth 100000 in
theorem rhex_any (s : Bs) (hl : s.length ≤ 1000000) (w : World) : Calls Tryz.prog 86 #[.string (B8 s)] w fun e w' => e = .returned (.string (B8 (hexS s))) ∧ Below w.heap.size w w' := by
  have hsz : (B8 s).size = s.length := B8_size s
  have Hat := Lib.hid (fun i (h : i < (B8 s).size) => show ((B8 s)[i]).toNat = (s.getD i 0).toNat from B8_at s i h)
  obtain ⟨n, hn⟩ : ∃ n, n = s.length := ⟨_, rfl⟩
  rw [← hn] at hsz hl
  have Hn := Lib.hid hn
  generalize hst : B8 s = st at hsz Hat ⊢
  clear hn hst
  go_enter Tryz.func86, Tryz.ntmps86
  go_wp2
  go_loopw [3, 4] (fun ov kv wr => ∃ (k qn : Nat), k ≤ n ∧ kv = .int .i64 k ∧ ov = .string (B8 (hexS (s.take k))) ∧ wr = w.drewN qn) (fun _ kv _ => n - (intOf kv).toNat)
  case atStart => exact ⟨0, 0, Nat.zero_le _, rfl, rfl, rfl⟩
  case round =>
    obtain ⟨k, qn, hk, rfl, rfl, rfl⟩ := hrel
    by_cases hkn : k < n
    · have hk1 : k < st.size := by omega
      have x0 := Hat.out k hk1
      obtain ⟨c, hc⟩ : ∃ c, s[k]? = some c := ⟨_, List.getElem?_eq_getElem (by rw [← Hn.out]; exact hkn)⟩
      have hg : s.getD k 0 = c := by rw [List.getD_eq_getElem?_getD, hc]; rfl
      rw [hg] at x0
      have Hs := Lib.hid (hexS_snoc hc)
      have hc256 : c.toNat < 256 := c.toNat_lt
      have hol : (B8 (hexS (s.take k))).size ≤ 2000000 := by rw [B8_size, hexS_len, List.length_take]; omega
      obtain ⟨a, ha⟩ : ∃ a, a = c.toNat / 16 := ⟨_, rfl⟩
      obtain ⟨b, hb⟩ : ∃ b, b = c.toNat % 16 := ⟨_, rfl⟩
      rw [← ha, ← hb] at Hs
      have ha16 : a < 16 := by omega
      have hb16 : b < 16 := by omega
      have e1 : (c.toNat : Int) / 16 = (a : Int) := by omega
      have e2 : (c.toNat : Int) % 16 = (b : Int) := by omega
      have w1 : IntKind.i64.wrap ((a : Int) + 1) = (a : Int) + 1 := by rw [IntKind.wrap_i64]; omega
      have w2 : IntKind.i64.wrap ((b : Int) + 1) = (b : Int) + 1 := by rw [IntKind.wrap_i64]; omega
      have t1 : ((a : Int) + 1).toNat = a + 1 := by omega
      have t2 : ((b : Int) + 1).toNat = b + 1 := by omega
      have p1 : (0 : Int) ≤ (a : Int) + 1 := by omega
      have p2 : (0 : Int) ≤ (b : Int) + 1 := by omega
      have r1 : (a : Int) + 1 ≤ 16 := by omega
      have r2 : (b : Int) + 1 ≤ 16 := by omega
      have g1 := dig16 a ha16
      have g2 := dig16 b hb16
      have z1 : (B8 [hexD a]).size = 1 := rfl
      have z2 : (B8 [hexD b]).size = 1 := rfl
      have Hcat := Lib.hid (show B8 (hexS (s.take k)) ++ B8 [hexD a] ++ B8 [hexD b] = B8 (hexS (s.take (k + 1))) by rw [B8_append, B8_append, Hs.out, List.append_assoc]; rfl)
      generalize ho2 : B8 (hexS (s.take (k + 1))) = o2 at Hcat
      have Ho2 := Lib.hid ho2
      clear ho2
      generalize B8 (hexS (s.take k)) = o1 at hol Hcat
      generalize B8 [hexD a] = sa at g1 z1 Hcat
      generalize B8 [hexD b] = sb at g2 z2 Hcat
      have n1 : ¬ 9223372036854775807 < o1.size + 1 := by omega
      have n2 : ¬ 9223372036854775807 < o1.size + 1 + 1 := by omega
      have n3 : ¬ 9223372036854775807 < o1.size + sa.size := by omega
      have n4 : ¬ 9223372036854775807 < o1.size + sa.size + sb.size := by omega
      have hki : (k : Int) < (n : Int) := by omega
      clear hc hg ha hb hc256
      go_wp2_with fail
      go_quiet (fail)
      go_wp2
      go_roundw
      case rel => exact ⟨k + 1, _, by omega, by go_num, by rw [Ho2.out, ← Hcat.out], rfl⟩
      case measure => simp [intOf]; omega
    · obtain rfl : k = n := by omega
      have e : s.take k = s := List.take_of_length_le (by rw [← Hn.out]; exact Nat.le_refl _)
      rw [e]
      go_wp2
      go_ret
      exact ⟨rfl, Below.drewN (Below.refl _ _) _⟩
end Go.Proofs.YtfkklcmepcocoaaGreatDoor

namespace Go.Proofs.YtfkklcmepcocoaaGreatDoor
open Go.RowKit
set_option linter.unusedVariables false

theorem byt8_len (v k : Nat) : (byt8 v k).length = k := by unfold byt8; rw [List.length_map, List.length_range]
theorem byte_z (z : Int) (n x : Nat) (hz : z = (n : Int)) (hn : n < 4294967296) (hx : x = n % 256) (w : World) : Calls Tryz.prog 76 #[.int .i64 z] w fun e w' => e = .returned (.string (bytesOf [x])) ∧ Below w.heap.size w w' := by
  subst hz
  exact byte_mod n x hn hx w
theorem tmod_w (n : Nat) : wrap64 (((n : Nat) : Int).tmod 256) = ((n % 256 : Nat) : Int) := by
  rw [Int.tmod_eq_emod_of_nonneg (by omega)]
  unfold wrap64
  omega
set_option maxHeartbeats 4000000 in
set_option maxRecDepth 100000 in
theorem rrecord_any (nm : Bs) (t : Int) (bit : Nat) (hn : nm.length ≤ 100000) (ht : t.natAbs < 10 ^ 17) (hbit : bit < 18446744073709551616) (w : World) :
    Calls Tryz.prog 55 #[.string (B8 nm), .agg #[.int .i64 t, .int .u64 (bit : Int)]] w fun e w' => e = .returned (.string (B8 (recL ⟨nm, t, bit⟩))) ∧ Below w.heap.size w w' := by
  obtain ⟨f, hf⟩ : ∃ f, f = w.heap.size := ⟨_, rfl⟩
  have hwa : Below w.heap.size w (w.alloc (.cells #[.int .i64 t, .int .u64 (bit : Int)] 51)) := Below.alloc (Below.refl _ _) (Nat.le_refl _) _
  have hk := Blk.new w 51 #[.int .i64 t, .int .u64 (bit : Int)]
  rw [← hf] at hk
  have HKc := Lib.hid (fun W (hb : Blk W f 51 #[.int .i64 t, .int .u64 (bit : Int)]) => show W.cell? ⟨f, 0, none⟩ = some (.int .i64 t) ∧ W.cell? ⟨f, 1, none⟩ = some (.int .u64 (bit : Int)) from ⟨hb.cell 0, hb.cell 1⟩)
  have HWa := Lib.hid hwa; have HK := Lib.hid hk
  clear hwa hk
  generalize hsn : B8 nm = sn
  go_enter Tryz.func55, Tryz.ntmps55
  go_wp2_with fail
  rw [← hf]
  have hfw : w.heap.size ≤ f := by omega
  clear hf
  generalize hwx : w.alloc (.cells #[.int .i64 t, .int .u64 (bit : Int)] 51) = wx at HK HWa
  clear hwx
  go_loopw [5, 6] (fun ov kv wr => ∃ (k : Nat), k ≤ 8 ∧ kv = .int .i64 k ∧ ov = .string (B8 (byt8 bit k)) ∧ Below w.heap.size w wr ∧ Blk wr f 51 #[.int .i64 t, .int .u64 (bit : Int)]) (fun _ kv _ => 8 - (intOf kv).toNat)
  case atStart => exact ⟨0, Nat.zero_le _, rfl, rfl, HWa.out, HK.out⟩
  case round =>
    obtain ⟨k, hk, rfl, rfl, hb, hK⟩ := hrel
    have HB := Lib.hid hb; have HC := Lib.hid hK
    have c0 := (HKc.out _ hK).1
    have c1 := (HKc.out _ hK).2
    clear hb hK
    by_cases hk8 : k < 8
    · obtain ⟨v, hv⟩ : ∃ v, v = bit / 2 ^ (56 - 8 * k) := ⟨_, rfl⟩
      have Hv := Lib.hid hv
      have Hz := Lib.hid (show wrap64 (((bit : Int) / 2 ^ (56 - 8 * k)).tmod 256) = ((v % 256 : Nat) : Int) by
        have e : ((bit : Int) / 2 ^ (56 - 8 * k)) = ((v : Nat) : Int) := by rw [hv, Int.natCast_ediv, Int.natCast_pow]; rfl
        rw [e]; exact tmod_w v)
      clear hv
      have hbs : (B8 (byt8 bit k)).size = k := by rw [B8_size, byt8_len]
      go_wp2_with fail
      refine (byte_z _ (v % 256) (v % 256) Hz.out (by omega) (by omega) _).mono ?_
      rintro e w1 ⟨rfl, hb1⟩
      have HB1 := Lib.hid (Below.call HB.out hb1 HB.out.size); have HC1 := Lib.hid (HC.out.below hb1 HC.out.lt)
      clear hb1
      have hs1 : (bytesOf [v % 256]).size = 1 := rfl
      have Hs := Lib.hid (show B8 (byt8 bit k) ++ bytesOf [v % 256] = B8 (byt8 bit (k + 1)) by rw [byt8_snoc, ← B8_append, Hv.out]; rfl)
      generalize bytesOf [v % 256] = t1 at hs1 Hs ⊢
      go_wp2_with fail
      exact ⟨⟨k + 1, by omega, rfl, by rw [← Hs.out], HB1.out, HC1.out⟩, by simp [intOf]; omega⟩
    · obtain rfl : k = 8 := by omega
      have hsnl : sn.size ≤ 100000 := by rw [← hsn, B8_size]; exact hn
      have hil := itoa_len (n := t) (k := 17) (by decide) ht
      have hsi : (B8 (Lib.itoa t)).size ≤ 18 := by rw [B8_size]; exact hil
      have hsh : (B8 (hexK 16 bit)).size ≤ 16 := by rw [B8_size, hexK_len]; exact Nat.le_refl _
      have Hbody := Lib.hid (show sn ++ ⟨#[64]⟩ ++ B8 (Lib.itoa t) ++ ⟨#[61]⟩ ++ B8 (hexK 16 bit) = B8 (bodyL ⟨nm, t, bit⟩) by
        rw [← hsn, show (⟨#[64]⟩ : ByteArray) = B8 [64] from rfl, show (⟨#[61]⟩ : ByteArray) = B8 [61] from rfl, B8_append, B8_append, B8_append, B8_append]
        congr 1
        unfold bodyL
        simp)
      have Hrec := Lib.hid (show recL ⟨nm, t, bit⟩ = recB (bodyL ⟨nm, t, bit⟩) from rfl)
      have hbl : (bodyL ⟨nm, t, bit⟩).length ≤ 100036 := by
        unfold bodyL
        simp only [List.length_append, List.length_cons, hexK_len]
        omega
      have Hdec := Lib.hid (fun W => decimal_any t W (by omega) (by omega))
      rw [decZ_itoa (Nat.lt_of_lt_of_le ht (by decide))] at Hdec
      have Hhx := Lib.hid (fun W => rhex_any (byt8 bit 8) (by rw [byt8_len]; omega) W)
      rw [hexS_all] at Hhx
      generalize bodyL ⟨nm, t, bit⟩ = body at Hbody Hrec hbl
      generalize B8 (Lib.itoa t) = si at hsi Hbody Hdec
      generalize B8 (hexK 16 bit) = sh at hsh Hbody Hhx
      generalize B8 (byt8 bit 8) = sv at Hhx ⊢
      clear hil
      go_wp2_with fail
      refine (Hdec.out _).mono ?_
      rintro e w1 ⟨rfl, hb1⟩
      have HB1 := Lib.hid (Below.call HB.out hb1 HB.out.size)
      clear hb1
      go_wp2_with fail
      refine (Hhx.out _).mono ?_
      rintro e w2 ⟨rfl, hb2⟩
      have HB2 := Lib.hid (Below.call HB1.out hb2 HB1.out.size)
      clear hb2
      have m1 : ¬ 9223372036854775807 < sn.size + 1 + si.size := by omega
      have m2 : ¬ 9223372036854775807 < sn.size + 1 + si.size + 1 + sh.size := by omega
      go_wp2_with fail
      rw [Hbody.out]
      have Hcrc := Lib.hid (fun W => crc_any (natsOf body) (natsOf_256 body) (by unfold natsOf; rw [List.length_map]; omega) W)
      rw [bytesOf_nats] at Hcrc
      have hn32 := sumL_lt (natsOf body)
      obtain ⟨n, hnn⟩ : ∃ n, n = sumL (natsOf body) := ⟨_, rfl⟩
      rw [← hnn] at Hcrc hn32
      obtain ⟨ln, hln⟩ : ∃ ln, ln = body.length := ⟨_, rfl⟩
      have hls : (B8 body).size = ln := by rw [B8_size, hln]
      rw [← hln] at hbl
      refine (Hcrc.out _).mono ?_
      rintro e w3 ⟨rfl, rfl⟩
      have Hres := Lib.hid (show bytesOf [ln / 256 % 256] ++ bytesOf [ln % 256] ++ B8 body ++ bytesOf [n % 256] ++ bytesOf [n / 256 % 256] ++ bytesOf [n / 65536 % 256] ++ bytesOf [n / 16777216 % 256] = B8 (recB body) by
        have e1 : bytesOf [ln / 256 % 256] ++ bytesOf [ln % 256] = bytesOf [ln / 256 % 256, ln % 256] := rfl
        have e2 : bytesOf [n % 256, n / 256 % 256, n / 65536 % 256, n / 16777216 % 256] = bytesOf [n % 256] ++ bytesOf [n / 256 % 256] ++ bytesOf [n / 65536 % 256] ++ bytesOf [n / 16777216 % 256] := rfl
        have e3 := crc4_eq n hn32
        rw [e2] at e3
        rw [e1, len2_eq]
        rw [ByteArray.append_assoc, ByteArray.append_assoc, ByteArray.append_assoc, ← ByteArray.append_assoc (a := bytesOf [n % 256]), ← ByteArray.append_assoc (a := bytesOf [n % 256] ++ _), e3, B8_append, B8_append, hln, hnn]
        unfold recB
        rw [List.append_assoc])
      generalize hres : B8 (recB body) = res at Hres
      have Hrs := Lib.hid hres
      generalize B8 body = sb at hls Hres ⊢
      clear hres hnn hln m1 m2 hsi hsh hsnl Hdec Hhx Hcrc
      have q1 : (bytesOf [ln / 256 % 256]).size = 1 := rfl
      have q2 : (bytesOf [ln % 256]).size = 1 := rfl
      have q3 : (bytesOf [n % 256]).size = 1 := rfl
      have q4 : (bytesOf [n / 256 % 256]).size = 1 := rfl
      have q5 : (bytesOf [n / 65536 % 256]).size = 1 := rfl
      have q6 : (bytesOf [n / 16777216 % 256]).size = 1 := rfl
      have HL := Lib.hid hbl; have HN := Lib.hid hn32
      generalize ht1 : bytesOf [ln / 256 % 256] = t1 at q1 Hres
      generalize ht2 : bytesOf [ln % 256] = t2 at q2 Hres
      generalize ht3 : bytesOf [n % 256] = t3 at q3 Hres
      generalize ht4 : bytesOf [n / 256 % 256] = t4 at q4 Hres
      generalize ht5 : bytesOf [n / 65536 % 256] = t5 at q5 Hres
      generalize ht6 : bytesOf [n / 16777216 % 256] = t6 at q6 Hres
      have T1 := Lib.hid ht1; have T2 := Lib.hid ht2; have T3 := Lib.hid ht3
      have T4 := Lib.hid ht4; have T5 := Lib.hid ht5; have T6 := Lib.hid ht6
      clear ht1 ht2 ht3 ht4 ht5 ht6
      go_wp2_with fail
      refine (byte_z _ (ln / 256) (ln / 256 % 256) (by omega) (by omega) rfl _).mono ?_
      rintro e w4 ⟨rfl, hb4⟩
      rw [T1.out]
      have HB4 := Lib.hid (Below.call HB2.out hb4 HB2.out.size)
      clear hb4
      go_wp2_with fail
      refine (byte_z _ (ln % 256) (ln % 256) (by omega) (by omega) (by omega) _).mono ?_
      rintro e w5 ⟨rfl, hb5⟩
      rw [T2.out]
      have HB5 := Lib.hid (Below.call HB4.out hb5 HB4.out.size)
      clear hb5
      go_wp2_with fail
      refine (byte_z _ (n % 256) (n % 256) (by omega) (by omega) (by omega) _).mono ?_
      rintro e w6 ⟨rfl, hb6⟩
      rw [T3.out]
      have HB6 := Lib.hid (Below.call HB5.out hb6 HB5.out.size)
      clear hb6
      go_wp2_with fail
      refine (byte_z _ (n / 256 % 256) (n / 256 % 256) (by omega) (by omega) (by omega) _).mono ?_
      rintro e w7 ⟨rfl, hb7⟩
      rw [T4.out]
      have HB7 := Lib.hid (Below.call HB6.out hb7 HB6.out.size)
      clear hb7
      go_wp2_with fail
      refine (byte_z _ (n / 65536 % 256) (n / 65536 % 256) (by omega) (by omega) (by omega) _).mono ?_
      rintro e w8 ⟨rfl, hb8⟩
      rw [T5.out]
      have HB8 := Lib.hid (Below.call HB7.out hb8 HB7.out.size)
      clear hb8
      go_wp2_with fail
      refine (byte_z _ (n / 16777216) (n / 16777216 % 256) (by omega) (by omega) rfl _).mono ?_
      rintro e w9 ⟨rfl, hb9⟩
      rw [T6.out]
      have HB9 := Lib.hid (Below.call HB8.out hb9 HB8.out.size)
      clear hb9
      go_wp2_with fail
      go_ret
      exact ⟨by rw [Hrec.out, Hrs.out, ← Hres.out]; rfl, HB9.out⟩
end Go.Proofs.YtfkklcmepcocoaaGreatDoor

namespace Go.Proofs.YtfkklcmepcocoaaGreatDoor
open Go.RowKit
set_option linter.unusedVariables false

/-- The record of the closed fact. -/
def naE : En := ⟨[110, 61, 97], 3, 7⟩
theorem na_rd : rdF naE.nm = (0, -1) := by decide +kernel
theorem na_ok : EnOk naE := ⟨by rw [na_rd], by decide, by decide⟩
theorem na_ap : apF ⟨[], false, -1⟩ naE = (0, -1) ∧ apD ⟨[], false, -1⟩ naE = ⟨recL naE, false, -1⟩ := by
  have h2 := recL_le na_ok
  have hw := wrD_all (d := ⟨[], false, -1⟩) rfl (s := recL naE) (fun hh => absurd hh.1 (show ¬ (0 : Int) ≤ -1 by decide))
  have h4 := apF_4 (d := ⟨[], false, -1⟩) na_ok.1 na_ok.2.1 (by show ¬ 65536 < 0 + _; omega)
  rw [hw] at h4
  exact h4
/-- One entry as cells. -/
theorem en_cells {W : World} {base : Nat} {u : Value} {e : En} (h : W.ownsRow base 109 3 u 1 (enC [e])) : ∃ b c, u = .slice (some ⟨b, 0, none⟩) 1 c ∧ W.cell? ⟨b, 0, none⟩ = some (.string (B8 e.nm)) ∧ W.cell? ⟨b, 1, none⟩ = some (.int .i64 e.tick) ∧ W.cell? ⟨b, 2, none⟩ = some (.int .u64 (e.bit : Int)) := by
  obtain ⟨b, c, rfl, _, _⟩ := own_some h (by decide)
  have hc := h.cells (g := b) rfl
  have h0 := hc 0 _ rfl
  have h1 := hc 1 _ rfl
  have h2 := hc 2 _ rfl
  rw [add_at] at h0 h1 h2
  exact ⟨b, c, rfl, h0, h1, h2⟩
set_option maxHeartbeats 4000000 in
set_option maxRecDepth 100000 in
theorem logged_any {es : Nat → Addr} {B : Nat} (w : World) (hW : WalW es B w) (hB : B ≤ w.heap.size) :
    Calls Tryz.prog 16 #[] w fun e w' => e = .returned (.bool true) ∧ Below w.heap.size w w' := by
  have HW := Lib.hid (fun W (hb : Below w.heap.size w W) => hW.below hb hB)
  have HB := Lib.hid hB
  clear hW hB
  go_enter Tryz.func16, Tryz.ntmps16
  go_wp2_with fail
  refine (dnew_any [] (by decide) w).mono ?_
  rintro e w1 ⟨q, v, rfl, hD, hlo, hb⟩
  have HB1 := Lib.hid hb
  have HD := Lib.hid hD; have Hlo := Lib.hid hlo
  have Hap := Lib.hid (dappend_any naE w1 ((HW.out _ hb).below (Below.refl _ _) (Nat.le_trans HB.out hb.size)) (Nat.le_trans HB.out hb.size) hD (fun k hk => Nat.le_trans HB.out (hlo k hk)) (by decide) (by decide) (by decide))
  clear hD hlo hb
  go_wp2_with fail
  refine Hap.out.mono ?_
  rintro e w2 ⟨ev, rfl, hev, v2, hst⟩
  rw [na_ap.1] at hev
  rw [na_ap.2] at hst
  obtain rfl := hev.zero rfl
  have HS2 := Lib.hid hst
  have HB2 := Lib.hid (HB1.out.trans (hst.below Hlo.out HB1.out.size))
  have Hrc := Lib.hid (drecover_any w2 (HW.out _ HB2.out) (Nat.le_trans HB.out HB2.out.size) hst.at_ (fun k hk => Nat.le_trans HB.out (hst.lo Hlo.out HB1.out.size k hk)) (Nat.le_trans (recL_le na_ok) (by decide)))
  clear hev hst
  go_wp2_with fail
  refine Hrc.out.mono ?_
  rintro e w3 ⟨l, k, u, v3, rfl, hir, hown, hst⟩
  have hra := read_all (l := [naE]) (fun e he => by rw [List.mem_singleton.1 he]; exact na_ok) (by rw [List.flatMap_singleton]; exact hir)
  obtain ⟨rfl, hk⟩ := hra
  rw [List.flatMap_singleton] at hk
  have htk : (recL naE).take k = recL naE := by rw [hk, List.take_length]
  rw [htk] at hst
  obtain ⟨b, c, rfl, c0, c1, c2⟩ := en_cells hown
  have HS3 := Lib.hid hst
  have HB3 := Lib.hid (HB2.out.trans (hst.below (HS2.out.lo Hlo.out HB1.out.size) HB2.out.size))
  have Hby := Lib.hid (dbytes_any w3 hst.at_)
  have Hre := Lib.hid (fun W => rrecord_any naE.nm naE.tick naE.bit (by decide) (by decide) (by decide) W)
  have e1 : B8 naE.nm = ⟨#[110, 61, 97]⟩ := rfl
  have e2 : naE.tick = 3 := rfl
  have e3 : ((naE.bit : Nat) : Int) = 7 := rfl
  have e4 : recL ⟨naE.nm, naE.tick, naE.bit⟩ = recL naE := rfl
  rw [e1, e2, e3, ← e2, e4, e2] at Hre
  rw [e2] at c1
  clear hir hown hst hk htk c0 c2 e1 e2 e3 e4
  generalize B8 (recL naE) = sr at Hby Hre
  go_wp2_with fail
  refine Hby.out.mono ?_
  rintro e w4 ⟨rfl, rfl⟩
  go_wp2_with fail
  refine (Hre.out _).mono ?_
  rintro e w5 ⟨rfl, hb⟩
  have HB5 := Lib.hid (Below.call HB3.out hb HB3.out.size)
  clear hb
  go_wp2
  go_ret
  exact ⟨rfl, HB5.out⟩
end Go.Proofs.YtfkklcmepcocoaaGreatDoor
