/- A block's text is read as the block; plain. -/
import Derived.Test.YtfkklcmepcocoaaGreatDoorMkrX
import Derived.Test.YtfkklcmepcocoaaGreatDoorMkqX
import Derived.Test.YtfkklcmepcocoaaGreatDoorMkjX
import Derived.Test.YtfkklcmepcocoaaGreatDoorBoIQX
import Derived.Test.YtfkklcmepcocoaaGreatDoorMkkX
import Derived.Deep.Light
import Derived.BigQuiet
import Derived.Deep.RegionHeld3
namespace Go.Proofs.YtfkklcmepcocoaaGreatDoor
open Go.RowKit
set_option linter.unusedVariables false

theorem nm_okB {s : Bs} (h : (rdF s).1 = 0) (x : UInt8) (hx : okB x = false) (h1 : x ≠ 61) (h2 : x ≠ 44) : x ∉ s := by
  intro hc
  obtain ⟨l, _, hs, _, hok⟩ := rd_some h
  rw [← hs] at hc
  unfold textL at hc
  rcases join_mem hc with e | ⟨p, hp, hc⟩
  · exact h2 e
  · obtain ⟨q, hq, rfl⟩ := List.mem_map.1 hp
    obtain ⟨w1, w2⟩ := lb_get hq hok
    unfold lbT at hc
    rcases List.mem_append.1 hc with hc | hc
    · have := (wordB_len w1).2 x hc
      rw [hx] at this; cases this
    · rcases List.mem_cons.1 hc with e | hc
      · exact h1 e
      · have := (wordB_len w2).2 x hc
        rw [hx] at this; cases this
theorem hexS_no {x : UInt8} (hx : ∀ d : Nat, d < 16 → hexD d ≠ x) : ∀ o : Bs, x ∉ hexS o
  | [] => fun h => by cases h
  | c :: o => fun h => by
    have hc := c.toNat_lt
    rw [hexS_cons] at h
    rcases List.mem_cons.1 h with e | h
    · exact hx _ (by omega) e.symm
    · rcases List.mem_cons.1 h with e | h
      · exact hx _ (by omega) e.symm
      · exact hexS_no hx o h
theorem hexD_fin : ∀ d : Fin 16, hexD d.val ≠ 10 ∧ hexD d.val ≠ 32 := by decide
theorem unhex_of : ∀ o : Bs, unhexB (hexS o) = some o
  | [] => by rw [show hexS [] = [] from rfl, unhexB]
  | c :: o => by
    have hc := c.toNat_lt
    rw [hexS_cons, unhex_two, hexV_D (by omega : c.toNat / 16 < 16), hexV_D (by omega : c.toNat % 16 < 16)]
    simp only
    rw [unhex_of o, show 16 * (c.toNat / 16) + c.toNat % 16 = c.toNat by omega, UInt8.ofNat_toNat]
    rfl
theorem nat_map {l : List Nat} (h : ∀ b ∈ l, b < 256) : (l.map UInt8.ofNat).map UInt8.toNat = l := by
  rw [List.map_map]
  conv => rhs; rw [← List.map_id l]
  apply List.map_congr_left
  intro b hb
  show (UInt8.ofNat b).toNat = b
  rw [UInt8.toNat_ofNat', Nat.mod_eq_of_lt (by have := h b hb; omega)]
theorem line_read {x : Bs × List Nat} (h : (rdF x.1).1 = 0) (hb : ∀ b ∈ x.2, b < 256) : lineR (lineB x) = some x := by
  have h32 := nm_okB h 32 (by decide) (by decide) (by decide)
  unfold lineR lineB
  rw [cutG_mk _ _ h32]
  simp only
  rw [unhex_of]
  simp only [Option.map_some]
  rw [nat_map hb]
theorem lines_read : ∀ {K : List (Bs × List Nat)}, (∀ x ∈ K, (rdF x.1).1 = 0 ∧ ∀ b ∈ x.2, b < 256) → linesR (K.map lineB) = some K
  | [], _ => rfl
  | x :: K, h => by
    have hx := h x List.mem_cons_self
    rw [List.map_cons, linesR_cons, line_read hx.1 hx.2]
    simp only
    rw [lines_read (fun y hy => h y (List.mem_cons_of_mem _ hy))]
    rfl
theorem join_end (c : UInt8) : ∀ (x : Bs) (l : List Bs), Lib.join (x :: l) [c] ++ [c] = (x :: l).flatMap (· ++ [c])
  | x, [] => by rw [Lib.join_one]; simp
  | x, y :: l => by
    have ih := join_end c y l
    rw [Lib.join_cons] at ih ⊢
    rw [List.flatMap_cons, ← ih]
    simp [Lib.joinTail]
theorem pcs_lines (c : UInt8) : ∀ l : List Bs, (∀ x ∈ l, c ∉ x) → pcs c (l.flatMap (· ++ [c])) = l ++ [[]]
  | [], _ => by rw [List.flatMap_nil, pcs]; rfl
  | x :: l, h => by
    rw [List.flatMap_cons, List.append_assoc, List.singleton_append, pcs_hit _ (h x List.mem_cons_self), pcs_lines c l (fun y hy => h y (List.mem_cons_of_mem _ hy))]
    rfl
theorem itoa_no {x : UInt8} (h1 : x.toNat ≠ 45) (h2 : ¬ (48 ≤ x.toNat ∧ x.toNat ≤ 57)) (n : Int) : x ∉ Lib.itoa n := fun h => by
  rcases itoa_chars n x h with h | h
  · exact h1 h
  · exact h2 h
theorem head_read {f sp : Int} {n : Nat} (hf : f.natAbs < 10 ^ 14) (hs : sp.natAbs < 10 ^ 14) (hn : n < 10 ^ 14) : hedB (bhdB f sp n) = some (f, sp, (n : Int)) ∧ (10 : UInt8) ∉ bhdB f sp n := by
  have n32 := fun m => itoa_no (x := 32) (by decide) (by decide) m
  have n10 := fun m => itoa_no (x := 10) (by decide) (by decide) m
  have hp : pcs 32 (bhdB f sp n) = [wBlk, Lib.itoa f, Lib.itoa sp, Lib.itoa (n : Int)] := by
    have e : bhdB f sp n = wBlk ++ 32 :: (Lib.itoa f ++ 32 :: (Lib.itoa sp ++ 32 :: Lib.itoa (n : Int))) := by
      unfold bhdB blkW_ wBlk; simp
    rw [e, pcs_hit _ (by decide), pcs_hit _ (n32 f), pcs_hit _ (n32 sp), pcs_none (n32 (n : Int))]
  have hnum : ∀ m : Int, m.natAbs < 10 ^ 14 → numB (Lib.itoa m) = some m := fun m hm =>
    numB_itoa (itoa_len (by decide) hm) rfl (Nat.lt_of_lt_of_le hm (by decide))
  refine ⟨?_, ?_⟩
  · rw [hedB_four hp rfl, hnum f hf, hnum sp hs, hnum (n : Int) (by simpa using hn)]
  · unfold bhdB blkW_
    simp only [List.mem_append, not_or]
    exact ⟨⟨⟨⟨⟨by decide, n10 f⟩, by decide⟩, n10 sp⟩, by decide⟩, n10 (n : Int)⟩
/-- The text of a block that is right, if it is not too long, is read as the block. -/
theorem readB_of {f sp : Int} {L : List (Bs × List Nat)} (hb : bndB f sp = true) (hn : L.length ≤ 60) (hr : (rowsR f sp (L.map Prod.fst) (L.map Prod.snd)).1.1 = 0) (hk : ∀ x ∈ L, (rdF x.1).1 = 0 ∧ ∀ b ∈ x.2, b < 256) (hl : (textB f sp L).length ≤ 20000) :
    readB (textB f sp L) = ((0, -1), (f, sp), L) := by
  have hbs : 1 ≤ sp ∧ sp ≤ 100000 ∧ -1099511627776 ≤ f ∧ f ≤ 1099511627776 := by simpa [bndB] using hb
  obtain ⟨h1, h2⟩ := head_read (f := f) (sp := sp) (n := L.length) (by omega) (by omega) (by omega)
  have hno : ∀ x ∈ bhdB f sp L.length :: L.map lineB, (10 : UInt8) ∉ x := by
    intro x hx
    rcases List.mem_cons.1 hx with rfl | hx
    · exact h2
    · obtain ⟨y, hy, rfl⟩ := List.mem_map.1 hx
      unfold lineB
      intro h
      rcases List.mem_append.1 h with h | h
      · exact nm_okB (hk y hy).1 10 (by decide) (by decide) (by decide) h
      · rcases List.mem_cons.1 h with h | h
        · exact absurd h (by decide)
        · exact hexS_no (fun d hd => (hexD_fin ⟨d, hd⟩).1) _ h
  have hp : pcs 10 (textB f sp L) = bhdB f sp L.length :: (L.map lineB ++ [[]]) := by
    unfold textB
    rw [join_end, pcs_lines 10 _ hno]
    rfl
  have hmid : midR (textB f sp L) = L.map lineB := by
    unfold midR
    rw [hp]
    show (L.map lineB ++ [[]]).dropLast = _
    rw [List.dropLast_concat]
  refine readB_ok (by omega) (m := (L.length : Int)) (by rw [hp]; exact h1) ⟨?_, ?_⟩ (by rw [hmid]; exact lines_read hk) hr
  · rw [hp, show bhdB f sp L.length :: (L.map lineB ++ [[]]) = (bhdB f sp L.length :: L.map lineB) ++ [[]] from rfl, List.getLast?_concat]
  · rw [hp]; simp; omega
end Go.Proofs.YtfkklcmepcocoaaGreatDoor

namespace Go.Proofs.YtfkklcmepcocoaaGreatDoor
open Go.RowKit
set_option linter.unusedVariables false

/-- A block's text up to line k. -/
def textK (fr sp : Int) (K : List (Bs × List Nat)) (k : Nat) : Bs := bhdB fr sp K.length ++ [10] ++ (K.take k).flatMap fun r => lineB r ++ [10]
theorem textK_all (fr sp : Int) (K : List (Bs × List Nat)) : textK fr sp K K.length = textB fr sp K := by
  unfold textK textB
  rw [join_end, List.take_length, List.flatMap_cons, List.flatMap_map]
theorem textK_more {fr sp : Int} {K : List (Bs × List Nat)} {k : Nat} {r : Bs × List Nat} (h : K[k]? = some r) : textK fr sp K (k + 1) = textK fr sp K k ++ r.1 ++ [32] ++ hexS (r.2.map UInt8.ofNat) ++ [10] := by
  unfold textK
  rw [take_snoc h, List.flatMap_append]
  simp [lineB]
theorem flat_le (q : Nat) : ∀ (l : List (Bs × List Nat)), (∀ r ∈ l, (lineB r).length ≤ q) → (l.flatMap fun r => lineB r ++ [10]).length ≤ (q + 1) * l.length
  | [], _ => by simp
  | r :: l, h => by
    have h1 := h r List.mem_cons_self
    have h2 := flat_le q l (fun x hx => h x (List.mem_cons_of_mem _ hx))
    rw [List.flatMap_cons, List.length_append, List.length_append]
    simp only [List.length_cons, List.length_nil]
    rw [Nat.mul_add]
    omega
theorem textK_len {fr sp : Int} {K : List (Bs × List Nat)} (k : Nat) (hf : fr.natAbs < 10 ^ 14) (hs : sp.natAbs < 10 ^ 14) (hn : K.length ≤ 1000) (h : ∀ r ∈ K, r.1.length ≤ 100000 ∧ r.2.length ≤ 100000) : (textK fr sp K k).length ≤ 400000000 := by
  have h1 := flat_le 300001 (K.take k) (fun r hr => lineB_len (h r (List.mem_of_mem_take hr)).1 (h r (List.mem_of_mem_take hr)).2)
  have h2 : (K.take k).length ≤ 1000 := by rw [List.length_take]; omega
  have h3 : (bhdB fr sp K.length).length ≤ 100 := by
    have a := itoa_len (n := fr) (by decide) hf
    have b := itoa_len (n := sp) (by decide) hs
    have c := itoa_len (n := (K.length : Int)) (k := 14) (by decide) (by omega)
    unfold bhdB blkW_
    simp only [List.length_append, List.length_cons, List.length_nil]
    omega
  unfold textK
  rw [List.length_append, List.length_append, List.length_cons, List.length_nil]
  have : 300002 * (K.take k).length ≤ 300002 * 1000 := Nat.mul_le_mul_left _ h2
  omega
set_option maxRecDepth 100000 in
set_option maxHeartbeats 8000000 in
theorem blockText_any (fr sp : Int) (A A' : Option Addr) (n c c' : Nat) (K : List (Bs × List Nat)) (w : World) (hA : Rd w w.heap.size 1 A n (txS K)) (hC : Rd w w.heap.size 1 A' n (chS K)) (hn : n ≤ 1000) (hf : fr.natAbs < 10 ^ 14) (hs : sp.natAbs < 10 ^ 14)
    (hk : ∀ r ∈ K, r.1.length ≤ 100000 ∧ r.2.length ≤ 100000) :
    Calls Tryz.prog 44 #[.agg #[.int .i64 fr, .int .i64 sp, .slice A n c, .slice A' n c']] w fun e w' => e = .returned (.string (B8 (textB fr sp K))) ∧ Below w.heap.size w w' := by
  have hln : K.length = n := by have := hA.1; unfold txS at this; simpa using this
  have HA := Lib.hid (fun W (hb : Below w.heap.size w W) (i : Nat) (hi : i < n) => Rd.at1 (f := fun r : Bs × List Nat => Value.string (B8 r.1)) (hA.below hb) hi)
  have HC := Lib.hid (fun W (hb : Below w.heap.size w W) (i : Nat) (hi : i < n) => Rd.at1 (f := fun r : Bs × List Nat => Value.string (bytesOf r.2)) (hC.below hb) hi)
  have Hall := Lib.hid (textK_all fr sp K)
  have Hln := Lib.hid hln; have Hk := Lib.hid hk
  have Htl := Lib.hid (fun k => textK_len (fr := fr) (sp := sp) (K := K) k hf hs (by omega) hk)
  have HB1 := Lib.hid (Below.alloc (Below.refl w.heap.size w) (Nat.le_refl _) (.cells #[.int .i64 fr, .int .i64 sp, .slice A n c, .slice A' n c'] 39))
  have HK1 := Lib.hid (Blk.new w 39 #[.int .i64 fr, .int .i64 sp, .slice A n c, .slice A' n c'])
  have Hde := Lib.hid (fun W (m : Int) (hm : m.natAbs < 10 ^ 14) => show Calls Tryz.prog 85 #[.int .i64 m] W (fun e w' => e = .returned (.string (B8 (Lib.itoa m))) ∧ Below W.heap.size W w') from by
    have h := decimal_any m W (by omega) (by omega)
    rw [decZ_itoa (Nat.lt_of_lt_of_le hm (by decide))] at h
    exact h)
  have It1 := Lib.hid (fun W => Hde.out W fr hf); have It2 := Lib.hid (fun W => Hde.out W sp hs); have It3 := Lib.hid (fun W => Hde.out W (n : Int) (by omega))
  have l1 := itoa_len (n := fr) (k := 14) (by decide) hf
  have l2 := itoa_len (n := sp) (k := 14) (by decide) hs
  have l3 := itoa_len (n := (n : Int)) (k := 14) (by decide) (by omega)
  have s1 := B8_size (Lib.itoa fr); have s2 := B8_size (Lib.itoa sp); have s3 := B8_size (Lib.itoa (n : Int))
  have Hcat := Lib.hid (show (⟨#[98, 108, 111, 99, 107, 32]⟩ : ByteArray) ++ B8 (Lib.itoa fr) ++ ⟨#[32]⟩ ++ B8 (Lib.itoa sp) ++ ⟨#[32]⟩ ++ B8 (Lib.itoa (n : Int)) ++ ⟨#[10]⟩ = B8 (textK fr sp K 0) by
    show B8 [98, 108, 111, 99, 107, 32] ++ B8 (Lib.itoa fr) ++ B8 [32] ++ B8 (Lib.itoa sp) ++ B8 [32] ++ B8 (Lib.itoa (n : Int)) ++ B8 [10] = _
    rw [B8_append, B8_append, B8_append, B8_append, B8_append, B8_append]
    unfold textK bhdB blkW_
    rw [hln, List.take_zero, List.flatMap_nil, List.append_nil])
  generalize B8 (Lib.itoa fr) = i1 at It1 s1 Hcat
  generalize B8 (Lib.itoa sp) = i2 at It2 s2 Hcat
  generalize B8 (Lib.itoa (n : Int)) = i3 at It3 s3 Hcat
  have z1 : i1.size ≤ 20 := by omega
  have z2 : i2.size ≤ 20 := by omega
  have z3 : i3.size ≤ 20 := by omega
  have n1 : ¬ 9223372036854775807 < 6 + i1.size := by omega
  have n2 : ¬ 9223372036854775807 < 6 + i1.size + 1 := by omega
  have n3 : ¬ 9223372036854775807 < 6 + i1.size + 1 + i2.size := by omega
  have n4 : ¬ 9223372036854775807 < 6 + i1.size + 1 + i2.size + 1 := by omega
  have n5 : ¬ 9223372036854775807 < 6 + i1.size + 1 + i2.size + 1 + i3.size := by omega
  have n6 : ¬ 9223372036854775807 < 6 + i1.size + 1 + i2.size + 1 + i3.size + 1 := by omega
  clear hA hC hk hf hs Hde l1 l2 l3 s1 s2 s3
  have Hkc := Lib.hid (fun W (h : Blk W w.heap.size 39 #[.int .i64 fr, .int .i64 sp, .slice A n c, .slice A' n c']) => show W.cell? ⟨w.heap.size, 0, none⟩ = some (.int .i64 fr) ∧ W.cell? ⟨w.heap.size, 1, none⟩ = some (.int .i64 sp) ∧ W.cell? ⟨w.heap.size, 2, none⟩ = some (.slice A n c) ∧ W.cell? ⟨w.heap.size, 3, none⟩ = some (.slice A' n c') from ⟨h.cell 0, h.cell 1, h.cell 2, h.cell 3⟩)
  have HBd := Lib.hid HB1.out.drew
  have HKd := Lib.hid HK1.out.drew
  clear hln
  go_enter Tryz.func44, Tryz.ntmps44
  obtain ⟨q0, q1, q2, q3⟩ := Hkc.out _ HK1.out
  go_wp2
  go_region_held3 (fun w' => w'.cell? ⟨w.heap.size, 0, none⟩ = some (.int .i64 fr) ∧ w'.cell? ⟨w.heap.size, 1, none⟩ = some (.int .i64 sp) ∧ w'.cell? ⟨w.heap.size, 2, none⟩ = some (.slice A n c) ∧ w'.cell? ⟨w.heap.size, 3, none⟩ = some (.slice A' n c'))
    (first | with_reducible exact Hkc.out _ HKd.out | with_reducible exact Hkc.out _ HK3.out | with_reducible exact Hkc.out _ HK4.out | exact Hkc.out _ HK5.out)
    (first | (go_at_call 85; (with_reducible refine (It1.out _).mono ?_); rintro e w3 ⟨rfl, hb⟩; have HB3 := Lib.hid (Below.call HBd.out hb HBd.out.size); have HK3 := Lib.hid (HKd.out.below hb HKd.out.lt); clear hb) | (go_at_call 85; (with_reducible refine (It2.out _).mono ?_); rintro e w4 ⟨rfl, hb⟩; have HB4 := Lib.hid (Below.call HB3.out hb HB3.out.size); have HK4 := Lib.hid (HK3.out.below hb HK3.out.lt); clear hb) | (go_at_call 85; (with_reducible refine (It3.out _).mono ?_); rintro e w5 ⟨rfl, hb⟩; have HB5 := Lib.hid (Below.call HB4.out hb HB4.out.size); have HK5 := Lib.hid (HK4.out.below hb HK4.out.lt); clear hb))
  rw [Hcat.out]
  clear n1 n2 n3 n4 n5 n6 z1 z2 z3 q0 q1 q2 q3
  obtain ⟨q0, q1, q2, q3⟩ := Hkc.out _ HK5.out
  go_wp2
  go_loopw [3, 4] (fun sv iv wr => ∃ k : Nat, k ≤ n ∧ iv = .int .i64 k ∧ sv = .string (B8 (textK fr sp K k)) ∧ Below w.heap.size w wr ∧ Blk wr w.heap.size 39 #[.int .i64 fr, .int .i64 sp, .slice A n c, .slice A' n c']) (fun _ iv _ => n - (intOf iv).toNat)
  case atStart => exact ⟨0, Nat.zero_le _, rfl, rfl, HB5.out, HK5.out⟩
  case round =>
    rename World => wo
    obtain ⟨k, hk, rfl, rfl, hb, hkb⟩ := hrel
    have HB := Lib.hid hb; have HK := Lib.hid hkb
    clear q0 q1 q2 q3
    obtain ⟨q0, q1, q2, q3⟩ := Hkc.out _ hkb
    by_cases hkn : k < n
    · have hkn' : (k : Int) < n := by omega
      obtain ⟨b0, o0, r, hA0, had0, hr, x0⟩ := HA.out _ hb k hkn
      obtain ⟨b1, o1, r', hA1, had1, hr', y0⟩ := HC.out _ hb k hkn
      obtain rfl := Option.some.inj (hr.symm.trans hr')
      subst hA0; subst hA1
      have hx := Hk.out r (List.mem_of_getElem? hr)
      have Hxc := Lib.hid (fun W (hb : Below w.heap.size w W) => show W.cell? ⟨b0, o0 + k, none⟩ = some (.string (B8 r.1)) ∧ W.cell? ⟨b1, o1 + k, none⟩ = some (.string (bytesOf r.2)) from by
        obtain ⟨c0, p0, s, e0, _, hs, x0⟩ := HA.out _ hb k hkn
        obtain ⟨c1, p1, s', e1, _, hs', y0⟩ := HC.out _ hb k hkn
        injection e0 with e0; injection e0 with e0 e2; injection e1 with e1; injection e1 with e1 e3
        subst e0; subst e2; subst e1; subst e3
        obtain rfl := Option.some.inj (hr.symm.trans hs)
        obtain rfl := Option.some.inj (hr.symm.trans hs')
        exact ⟨x0, y0⟩)
      have Hhx := Lib.hid (fun W => rhex_any (r.2.map UInt8.ofNat) (by rw [List.length_map]; omega) W)
      rw [show B8 (r.2.map UInt8.ofNat) = bytesOf r.2 from rfl] at Hhx
      have Hmore := Lib.hid (show B8 (textK fr sp K k) ++ B8 r.1 ++ (⟨#[32]⟩ : ByteArray) ++ B8 (hexS (r.2.map UInt8.ofNat)) ++ ⟨#[10]⟩ = B8 (textK fr sp K (k + 1)) by
        show B8 (textK fr sp K k) ++ B8 r.1 ++ B8 [32] ++ B8 (hexS (r.2.map UInt8.ofNat)) ++ B8 [10] = _
        rw [B8_append, B8_append, B8_append, B8_append, textK_more hr])
      have t1 : (B8 (textK fr sp K k)).size ≤ 400000000 := by rw [B8_size]; exact Htl.out k
      have t2 : (B8 r.1).size ≤ 100000 := by rw [B8_size]; exact hx.1
      have t3 : (B8 (hexS (r.2.map UInt8.ofNat))).size ≤ 200000 := by rw [B8_size, hexS_len, List.length_map]; omega
      generalize bytesOf r.2 = xb at y0 Hhx Hxc
      generalize B8 (hexS (r.2.map UInt8.ofNat)) = hx2 at Hhx Hmore t3
      generalize B8 r.1 = sn at x0 Hmore t2 Hxc
      generalize B8 (textK fr sp K k) = st at Hmore t1 ⊢
      have n1 : ¬ 9223372036854775807 < st.size + sn.size := by omega
      have n2 : ¬ 9223372036854775807 < st.size + sn.size + 1 := by omega
      have n3 : ¬ 9223372036854775807 < st.size + sn.size + 1 + hx2.size := by omega
      have n4 : ¬ 9223372036854775807 < st.size + sn.size + 1 + hx2.size + 1 := by omega
      have HBe := Lib.hid hb.drew
      have HKe := Lib.hid hkb.drew
      clear hkb hb hr hr' hx t1 t2 t3
      have Hky := Lib.hid (fun W (h : Blk W w.heap.size 39 #[.int .i64 fr, .int .i64 sp, .slice (some ⟨b0, o0, none⟩) n c, .slice (some ⟨b1, o1, none⟩) n c']) (hb : Below w.heap.size w W) => show (W.cell? ⟨w.heap.size, 2, none⟩ = some (.slice (some ⟨b0, o0, none⟩) n c) ∧ W.cell? ⟨w.heap.size, 3, none⟩ = some (.slice (some ⟨b1, o1, none⟩) n c')) ∧ (W.cell? ⟨b0, o0 + k, none⟩ = some (.string sn) ∧ W.cell? ⟨b1, o1 + k, none⟩ = some (.string xb)) from ⟨⟨h.cell 2, h.cell 3⟩, Hxc.out W hb⟩)
      go_wp2
      go_region_held3 (fun w' => (w'.cell? ⟨w.heap.size, 2, none⟩ = some (.slice (some ⟨b0, o0, none⟩) n c) ∧ w'.cell? ⟨w.heap.size, 3, none⟩ = some (.slice (some ⟨b1, o1, none⟩) n c')) ∧ (w'.cell? ⟨b0, o0 + k, none⟩ = some (.string sn) ∧ w'.cell? ⟨b1, o1 + k, none⟩ = some (.string xb)))
        (first | with_reducible exact Hky.out _ HKe.out HBe.out | exact Hky.out _ HK7.out HB7.out)
        (first | (go_at_call 86; refine (Hhx.out _).mono ?_; rintro e w7 ⟨rfl, hb⟩; have HB7 := Lib.hid (Below.call HBe.out hb HBe.out.size); have HK7 := Lib.hid (HKe.out.below hb HKe.out.lt); clear hb))
      rw [Hmore.out]
      clear n1 n2 n3 n4
      go_wp2
      go_roundw
      case rel => exact ⟨k + 1, by omega, by go_num, rfl, HB7.out, HK7.out⟩
      case measure => simp [intOf]; omega
    · obtain rfl : k = n := by omega
      have hkn' : ¬ (k : Int) < k := by omega
      have Hz := Lib.hid (show B8 (textK fr sp K k) = B8 (textB fr sp K) by rw [← Hall.out, Hln.out])
      clear hb hkb
      go_wp2
      go_ret
      exact ⟨by rw [Hz.out]; rfl, HB.out⟩
end Go.Proofs.YtfkklcmepcocoaaGreatDoor
