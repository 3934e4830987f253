/- A block's text is read as the block; plain. -/
import Derived.Test.YtpbgonpmpjpljaaGreatDoorMkabX
import Derived.Test.YtpbgonpmpjpljaaGreatDoorMkxX
import Derived.Test.YtpbgonpmpjpljaaGreatDoorMksX
import Derived.Test.YtpbgonpmpjpljaaGreatDoorBoIQX
import Derived.Test.YtpbgonpmpjpljaaGreatDoorMkrX
import Derived.Deep.Light
import Derived.BigQuiet
import Derived.Deep.RegionHeld3
namespace Go.Proofs.YtpbgonpmpjpljaaGreatDoor
open Go.RowKit
set_option linter.unusedVariables false

theorem join_end (c : UInt8) : ∀ (x : Bs) (l : List Bs), Lib.join (x :: l) [c] ++ [c] = (x :: l).flatMap (· ++ [c])
  | x, [] => by rw [Lib.join_one]; simp
  | x, y :: l => by
    have ih := join_end c y l
    rw [Lib.join_cons] at ih ⊢
    rw [List.flatMap_cons, ← ih]
    simp [Lib.joinTail]
end Go.Proofs.YtpbgonpmpjpljaaGreatDoor

namespace Go.Proofs.YtpbgonpmpjpljaaGreatDoor
open Go.RowKit
set_option linter.unusedVariables false

/-- A block's text up to line k. -/
def textK (fr sp : Int) (K : List (Bs × List Nat)) (k : Nat) : Bs := bhdB fr sp K.length ++ [10] ++ (K.take k).flatMap fun r => lineB r ++ [10]
theorem textK_all (fr sp : Int) (K : List (Bs × List Nat)) : textK fr sp K K.length = textB fr sp K := by
  unfold textK textB
  rw [join_end, List.take_length, List.flatMap_cons, List.flatMap_map]
theorem textK_more {fr sp : Int} {K : List (Bs × List Nat)} {k : Nat} {r : Bs × List Nat} (h : K[k]? = some r) : textK fr sp K (k + 1) = textK fr sp K k ++ r.1 ++ [32] ++ hexS (r.2.map UInt8.ofNat) ++ [10] := by
  unfold textK
  rw [take_snoc h, List.flatMap_append]
  simp [lineB]
theorem flat_le (q : Nat) : ∀ (l : List (Bs × List Nat)), (∀ r ∈ l, (lineB r).length ≤ q) → (l.flatMap fun r => lineB r ++ [10]).length ≤ (q + 1) * l.length
  | [], _ => by simp
  | r :: l, h => by
    have h1 := h r List.mem_cons_self
    have h2 := flat_le q l (fun x hx => h x (List.mem_cons_of_mem _ hx))
    rw [List.flatMap_cons, List.length_append, List.length_append]
    simp only [List.length_cons, List.length_nil]
    rw [Nat.mul_add]
    omega
theorem textK_len {fr sp : Int} {K : List (Bs × List Nat)} (k : Nat) (hf : fr.natAbs < 10 ^ 14) (hs : sp.natAbs < 10 ^ 14) (hn : K.length ≤ 1000) (h : ∀ r ∈ K, r.1.length ≤ 100000 ∧ r.2.length ≤ 100000) : (textK fr sp K k).length ≤ 400000000 := by
  have h1 := flat_le 300001 (K.take k) (fun r hr => lineB_len (h r (List.mem_of_mem_take hr)).1 (h r (List.mem_of_mem_take hr)).2)
  have h2 : (K.take k).length ≤ 1000 := by rw [List.length_take]; omega
  have h3 : (bhdB fr sp K.length).length ≤ 100 := by
    have a := itoa_len (n := fr) (by decide) hf
    have b := itoa_len (n := sp) (by decide) hs
    have c := itoa_len (n := (K.length : Int)) (k := 14) (by decide) (by omega)
    unfold bhdB blkW_
    simp only [List.length_append, List.length_cons, List.length_nil]
    omega
  unfold textK
  rw [List.length_append, List.length_append, List.length_cons, List.length_nil]
  have : 300002 * (K.take k).length ≤ 300002 * 1000 := Nat.mul_le_mul_left _ h2
  omega
set_option maxRecDepth 100000 in
set_option maxHeartbeats 8000000 in
theorem blockText_any (fr sp : Int) (A A' : Option Addr) (n c c' : Nat) (K : List (Bs × List Nat)) (w : World) (hA : Rd w w.heap.size 1 A n (txS K)) (hC : Rd w w.heap.size 1 A' n (chS K)) (hn : n ≤ 1000) (hf : fr.natAbs < 10 ^ 14) (hs : sp.natAbs < 10 ^ 14)
    (hk : ∀ r ∈ K, r.1.length ≤ 100000 ∧ r.2.length ≤ 100000) :
    Calls Tryz.prog 15 #[.agg #[.int .i64 fr, .int .i64 sp, .slice A n c, .slice A' n c']] w fun e w' => e = .returned (.string (B8 (textB fr sp K))) ∧ Below w.heap.size w w' := by
  have hln : K.length = n := by have := hA.1; unfold txS at this; simpa using this
  have HA := Lib.hid (fun W (hb : Below w.heap.size w W) (i : Nat) (hi : i < n) => Rd.at1 (f := fun r : Bs × List Nat => Value.string (B8 r.1)) (hA.below hb) hi)
  have HC := Lib.hid (fun W (hb : Below w.heap.size w W) (i : Nat) (hi : i < n) => Rd.at1 (f := fun r : Bs × List Nat => Value.string (bytesOf r.2)) (hC.below hb) hi)
  have Hall := Lib.hid (textK_all fr sp K)
  have Hln := Lib.hid hln; have Hk := Lib.hid hk
  have Htl := Lib.hid (fun k => textK_len (fr := fr) (sp := sp) (K := K) k hf hs (by omega) hk)
  have HB1 := Lib.hid (Below.alloc (Below.refl w.heap.size w) (Nat.le_refl _) (.cells #[.int .i64 fr, .int .i64 sp, .slice A n c, .slice A' n c'] 24))
  have HK1 := Lib.hid (Blk.new w 24 #[.int .i64 fr, .int .i64 sp, .slice A n c, .slice A' n c'])
  have Hde := Lib.hid (fun W (m : Int) (hm : m.natAbs < 10 ^ 14) => show Calls Tryz.prog 34 #[.int .i64 m] W (fun e w' => e = .returned (.string (B8 (Lib.itoa m))) ∧ Below W.heap.size W w') from by
    have h := decimal_any m W (by omega) (by omega)
    rw [decZ_itoa (Nat.lt_of_lt_of_le hm (by decide))] at h
    exact h)
  have It1 := Lib.hid (fun W => Hde.out W fr hf); have It2 := Lib.hid (fun W => Hde.out W sp hs); have It3 := Lib.hid (fun W => Hde.out W (n : Int) (by omega))
  have l1 := itoa_len (n := fr) (k := 14) (by decide) hf
  have l2 := itoa_len (n := sp) (k := 14) (by decide) hs
  have l3 := itoa_len (n := (n : Int)) (k := 14) (by decide) (by omega)
  have s1 := B8_size (Lib.itoa fr); have s2 := B8_size (Lib.itoa sp); have s3 := B8_size (Lib.itoa (n : Int))
  have Hcat := Lib.hid (show (⟨#[98, 108, 111, 99, 107, 32]⟩ : ByteArray) ++ B8 (Lib.itoa fr) ++ ⟨#[32]⟩ ++ B8 (Lib.itoa sp) ++ ⟨#[32]⟩ ++ B8 (Lib.itoa (n : Int)) ++ ⟨#[10]⟩ = B8 (textK fr sp K 0) by
    show B8 [98, 108, 111, 99, 107, 32] ++ B8 (Lib.itoa fr) ++ B8 [32] ++ B8 (Lib.itoa sp) ++ B8 [32] ++ B8 (Lib.itoa (n : Int)) ++ B8 [10] = _
    rw [B8_append, B8_append, B8_append, B8_append, B8_append, B8_append]
    unfold textK bhdB blkW_
    rw [hln, List.take_zero, List.flatMap_nil, List.append_nil])
  generalize B8 (Lib.itoa fr) = i1 at It1 s1 Hcat
  generalize B8 (Lib.itoa sp) = i2 at It2 s2 Hcat
  generalize B8 (Lib.itoa (n : Int)) = i3 at It3 s3 Hcat
  have z1 : i1.size ≤ 20 := by omega
  have z2 : i2.size ≤ 20 := by omega
  have z3 : i3.size ≤ 20 := by omega
  have n1 : ¬ 9223372036854775807 < 6 + i1.size := by omega
  have n2 : ¬ 9223372036854775807 < 6 + i1.size + 1 := by omega
  have n3 : ¬ 9223372036854775807 < 6 + i1.size + 1 + i2.size := by omega
  have n4 : ¬ 9223372036854775807 < 6 + i1.size + 1 + i2.size + 1 := by omega
  have n5 : ¬ 9223372036854775807 < 6 + i1.size + 1 + i2.size + 1 + i3.size := by omega
  have n6 : ¬ 9223372036854775807 < 6 + i1.size + 1 + i2.size + 1 + i3.size + 1 := by omega
  clear hA hC hk hf hs Hde l1 l2 l3 s1 s2 s3
  have Hkc := Lib.hid (fun W (h : Blk W w.heap.size 24 #[.int .i64 fr, .int .i64 sp, .slice A n c, .slice A' n c']) => show W.cell? ⟨w.heap.size, 0, none⟩ = some (.int .i64 fr) ∧ W.cell? ⟨w.heap.size, 1, none⟩ = some (.int .i64 sp) ∧ W.cell? ⟨w.heap.size, 2, none⟩ = some (.slice A n c) ∧ W.cell? ⟨w.heap.size, 3, none⟩ = some (.slice A' n c') from ⟨h.cell 0, h.cell 1, h.cell 2, h.cell 3⟩)
  have HBd := Lib.hid HB1.out.drew
  have HKd := Lib.hid HK1.out.drew
  clear hln
  go_enter Tryz.func15, Tryz.ntmps15
  obtain ⟨q0, q1, q2, q3⟩ := Hkc.out _ HK1.out
  go_wp2
  go_region_held3 (fun w' => w'.cell? ⟨w.heap.size, 0, none⟩ = some (.int .i64 fr) ∧ w'.cell? ⟨w.heap.size, 1, none⟩ = some (.int .i64 sp) ∧ w'.cell? ⟨w.heap.size, 2, none⟩ = some (.slice A n c) ∧ w'.cell? ⟨w.heap.size, 3, none⟩ = some (.slice A' n c'))
    (first | with_reducible exact Hkc.out _ HKd.out | with_reducible exact Hkc.out _ HK3.out | with_reducible exact Hkc.out _ HK4.out | exact Hkc.out _ HK5.out)
    (first | (go_at_call 34; (with_reducible refine (It1.out _).mono ?_); rintro e w3 ⟨rfl, hb⟩; have HB3 := Lib.hid (Below.call HBd.out hb HBd.out.size); have HK3 := Lib.hid (HKd.out.below hb HKd.out.lt); clear hb) | (go_at_call 34; (with_reducible refine (It2.out _).mono ?_); rintro e w4 ⟨rfl, hb⟩; have HB4 := Lib.hid (Below.call HB3.out hb HB3.out.size); have HK4 := Lib.hid (HK3.out.below hb HK3.out.lt); clear hb) | (go_at_call 34; (with_reducible refine (It3.out _).mono ?_); rintro e w5 ⟨rfl, hb⟩; have HB5 := Lib.hid (Below.call HB4.out hb HB4.out.size); have HK5 := Lib.hid (HK4.out.below hb HK4.out.lt); clear hb))
  rw [Hcat.out]
  clear n1 n2 n3 n4 n5 n6 z1 z2 z3 q0 q1 q2 q3
  obtain ⟨q0, q1, q2, q3⟩ := Hkc.out _ HK5.out
  go_wp2
  go_loopw [3, 4] (fun sv iv wr => ∃ k : Nat, k ≤ n ∧ iv = .int .i64 k ∧ sv = .string (B8 (textK fr sp K k)) ∧ Below w.heap.size w wr ∧ Blk wr w.heap.size 24 #[.int .i64 fr, .int .i64 sp, .slice A n c, .slice A' n c']) (fun _ iv _ => n - (intOf iv).toNat)
  case atStart => exact ⟨0, Nat.zero_le _, rfl, rfl, HB5.out, HK5.out⟩
  case round =>
    rename World => wo
    obtain ⟨k, hk, rfl, rfl, hb, hkb⟩ := hrel
    have HB := Lib.hid hb; have HK := Lib.hid hkb
    clear q0 q1 q2 q3
    obtain ⟨q0, q1, q2, q3⟩ := Hkc.out _ hkb
    by_cases hkn : k < n
    · have hkn' : (k : Int) < n := by omega
      obtain ⟨b0, o0, r, hA0, had0, hr, x0⟩ := HA.out _ hb k hkn
      obtain ⟨b1, o1, r', hA1, had1, hr', y0⟩ := HC.out _ hb k hkn
      obtain rfl := Option.some.inj (hr.symm.trans hr')
      subst hA0; subst hA1
      have hx := Hk.out r (List.mem_of_getElem? hr)
      have Hxc := Lib.hid (fun W (hb : Below w.heap.size w W) => show W.cell? ⟨b0, o0 + k, none⟩ = some (.string (B8 r.1)) ∧ W.cell? ⟨b1, o1 + k, none⟩ = some (.string (bytesOf r.2)) from by
        obtain ⟨c0, p0, s, e0, _, hs, x0⟩ := HA.out _ hb k hkn
        obtain ⟨c1, p1, s', e1, _, hs', y0⟩ := HC.out _ hb k hkn
        injection e0 with e0; injection e0 with e0 e2; injection e1 with e1; injection e1 with e1 e3
        subst e0; subst e2; subst e1; subst e3
        obtain rfl := Option.some.inj (hr.symm.trans hs)
        obtain rfl := Option.some.inj (hr.symm.trans hs')
        exact ⟨x0, y0⟩)
      have Hhx := Lib.hid (fun W => rhex_any (r.2.map UInt8.ofNat) (by rw [List.length_map]; omega) W)
      rw [show B8 (r.2.map UInt8.ofNat) = bytesOf r.2 from rfl] at Hhx
      have Hmore := Lib.hid (show B8 (textK fr sp K k) ++ B8 r.1 ++ (⟨#[32]⟩ : ByteArray) ++ B8 (hexS (r.2.map UInt8.ofNat)) ++ ⟨#[10]⟩ = B8 (textK fr sp K (k + 1)) by
        show B8 (textK fr sp K k) ++ B8 r.1 ++ B8 [32] ++ B8 (hexS (r.2.map UInt8.ofNat)) ++ B8 [10] = _
        rw [B8_append, B8_append, B8_append, B8_append, textK_more hr])
      have t1 : (B8 (textK fr sp K k)).size ≤ 400000000 := by rw [B8_size]; exact Htl.out k
      have t2 : (B8 r.1).size ≤ 100000 := by rw [B8_size]; exact hx.1
      have t3 : (B8 (hexS (r.2.map UInt8.ofNat))).size ≤ 200000 := by rw [B8_size, hexS_len, List.length_map]; omega
      generalize bytesOf r.2 = xb at y0 Hhx Hxc
      generalize B8 (hexS (r.2.map UInt8.ofNat)) = hx2 at Hhx Hmore t3
      generalize B8 r.1 = sn at x0 Hmore t2 Hxc
      generalize B8 (textK fr sp K k) = st at Hmore t1 ⊢
      have n1 : ¬ 9223372036854775807 < st.size + sn.size := by omega
      have n2 : ¬ 9223372036854775807 < st.size + sn.size + 1 := by omega
      have n3 : ¬ 9223372036854775807 < st.size + sn.size + 1 + hx2.size := by omega
      have n4 : ¬ 9223372036854775807 < st.size + sn.size + 1 + hx2.size + 1 := by omega
      have HBe := Lib.hid hb.drew
      have HKe := Lib.hid hkb.drew
      clear hkb hb hr hr' hx t1 t2 t3
      have Hky := Lib.hid (fun W (h : Blk W w.heap.size 24 #[.int .i64 fr, .int .i64 sp, .slice (some ⟨b0, o0, none⟩) n c, .slice (some ⟨b1, o1, none⟩) n c']) (hb : Below w.heap.size w W) => show (W.cell? ⟨w.heap.size, 2, none⟩ = some (.slice (some ⟨b0, o0, none⟩) n c) ∧ W.cell? ⟨w.heap.size, 3, none⟩ = some (.slice (some ⟨b1, o1, none⟩) n c')) ∧ (W.cell? ⟨b0, o0 + k, none⟩ = some (.string sn) ∧ W.cell? ⟨b1, o1 + k, none⟩ = some (.string xb)) from ⟨⟨h.cell 2, h.cell 3⟩, Hxc.out W hb⟩)
      go_wp2
      go_region_held3 (fun w' => (w'.cell? ⟨w.heap.size, 2, none⟩ = some (.slice (some ⟨b0, o0, none⟩) n c) ∧ w'.cell? ⟨w.heap.size, 3, none⟩ = some (.slice (some ⟨b1, o1, none⟩) n c')) ∧ (w'.cell? ⟨b0, o0 + k, none⟩ = some (.string sn) ∧ w'.cell? ⟨b1, o1 + k, none⟩ = some (.string xb)))
        (first | with_reducible exact Hky.out _ HKe.out HBe.out | exact Hky.out _ HK7.out HB7.out)
        (first | (go_at_call 35; refine (Hhx.out _).mono ?_; rintro e w7 ⟨rfl, hb⟩; have HB7 := Lib.hid (Below.call HBe.out hb HBe.out.size); have HK7 := Lib.hid (HKe.out.below hb HKe.out.lt); clear hb))
      rw [Hmore.out]
      clear n1 n2 n3 n4
      go_wp2
      go_roundw
      case rel => exact ⟨k + 1, by omega, by go_num, rfl, HB7.out, HK7.out⟩
      case measure => simp [intOf]; omega
    · obtain rfl : k = n := by omega
      have hkn' : ¬ (k : Int) < k := by omega
      have Hz := Lib.hid (show B8 (textK fr sp K k) = B8 (textB fr sp K) by rw [← Hall.out, Hln.out])
      clear hb hkb
      go_wp2
      go_ret
      exact ⟨by rw [Hz.out]; rfl, HB.out⟩
end Go.Proofs.YtpbgonpmpjpljaaGreatDoor
