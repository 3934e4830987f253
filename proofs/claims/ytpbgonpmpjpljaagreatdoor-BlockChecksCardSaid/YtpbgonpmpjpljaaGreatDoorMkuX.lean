/- block.Text by its contract. -/
import Derived.Test.YtpbgonpmpjpljaaGreatDoorMkrX
import Derived.Test.YtpbgonpmpjpljaaGreatDoorMkmX
import Derived.Test.YtpbgonpmpjpljaaGreatDoorMktX
import Derived.Test.YtpbgonpmpjpljaaGreatDoorLaysX
import Derived.Deep.RegionHeld3
import Derived.Test.YtpbgonpmpjpljaaGreatDoorMkfX
import Derived.Lib.SplitLaws
namespace Go.Proofs.YtpbgonpmpjpljaaGreatDoor
open Go.RowKit
set_option linter.unusedVariables false

/-- The powers of ten, below block B. -/
structure P10 (B : Nat) (w : World) : Prop where
  p10 : Lib.TabIs Tryz.prog w "internal/strconv.uint64pow10" .u64 Lib.pow10Tab
  lt : 12 < B
theorem P10.below {B C : Nat} {w w' : World} (h : P10 B w) (hb : Below C w w') (hC : B ≤ C) : P10 B w' := ⟨tabIs_blk e_p10 h.p10 (hb.block _ (Nat.lt_of_lt_of_le h.lt hC)), h.lt⟩
theorem itoa_p {B : Nat} (n : Int) (h : n.natAbs < 10 ^ 17) (w : World) (hW : P10 B w) :
    Calls Tryz.prog 31 #[.int .i64 n] w fun e w' => e = .returned (.string (B8 (Lib.itoa n))) ∧ Below w.heap.size w w' := by
  refine (Tryz.strconv_Itoa n (by omega) (by omega) w hW.p10).mono ?_
  rintro e w' ⟨rfl, k, os, rfl⟩
  exact ⟨rfl, grow_below w k os⟩
/-- A line of a block's text: a name and its chunk. -/
def lineB (r : Bs × List Nat) : Bs := r.1 ++ 32 :: hexS (r.2.map UInt8.ofNat)
def blkW_ : Bs := [98, 108, 111, 99, 107, 32]
def bhdB (fr sp : Int) (n : Nat) : Bs := blkW_ ++ Lib.itoa fr ++ [32] ++ Lib.itoa sp ++ [32] ++ Lib.itoa n
/-- A block's text. -/
def textB (fr sp : Int) (K : List (Bs × List Nat)) : Bs := Lib.join (bhdB fr sp K.length :: K.map lineB) [10] ++ [10]
theorem lineB_len {r : Bs × List Nat} (h1 : r.1.length ≤ 100000) (h2 : r.2.length ≤ 100000) : (lineB r).length ≤ 300001 := by
  unfold lineB
  rw [List.length_append, List.length_cons, hexS_len, List.length_map]
  omega
theorem joinT_len (q : Nat) (xs : List Bs) (h : ∀ x ∈ xs, x.length ≤ q) : (Lib.joinTail [10] xs).length ≤ (q + 1) * xs.length := by
  induction xs with
  | nil => simp [Lib.joinTail]
  | cons x xs ih =>
    have h1 := h x List.mem_cons_self
    have h2 := ih (fun y hy => h y (List.mem_cons_of_mem _ hy))
    simp only [Lib.joinTail, List.map_cons, List.flatten_cons, List.length_append, List.length_cons, List.length_nil] at h2 ⊢
    rw [Nat.mul_add]
    omega
def strL (xs : List Bs) : List Value := xs.map fun x => .string (B8 x)
def BTPost (es : Nat → Addr) (f : Nat × Int) (t : Bs) (w : World) (e : Ending) (w' : World) : Prop :=
  ∃ v s, e = .returned (.tuple #[.string s, v]) ∧ EV es w.heap.size w' v f ∧ (f.1 = 0 → s = B8 t) ∧ Below w.heap.size w w'
theorem own_new1 {base : Nat} (W : World) (t : TypeId) (u : Value) (hb : base ≤ W.heap.size) : (W.alloc (.cells #[u] t)).ownsRow base t 1 (.slice (some ⟨W.heap.size, 0, none⟩) 1 1) 1 [u] :=
  ⟨rfl, .inr ⟨W.heap.size, 1, #[u], rfl, hb, Blk.new W _ _, Nat.le_refl _, by unfold maxLen; decide, rfl, rfl⟩⟩
theorem rd_one1 (W : World) (t : TypeId) (u : Value) : Rd (W.alloc (.cells #[u] t)) (W.alloc (.cells #[u] t)).heap.size 1 (some ⟨W.heap.size, 0, none⟩) 1 [u] :=
  ⟨rfl, fun _ => ⟨W.heap.size, 0, rfl, by simp, fun j v hv => by rw [Nat.zero_add, (Blk.new W t #[u]).cell j]; simpa using hv⟩⟩
/-- No error: the number is 0, without a place. -/
theorem EV_nil0 {es : Nat → Addr} {B B' : Nat} {W W' : World} {f : Nat × Int} (h0 : f.1 = 0) (h : EV es B W .nilIface f) : EV es B' W' .nilIface f := by
  rcases h with ⟨rfl, _⟩ | ⟨k, _, rfl, _⟩ | ⟨k, pb, t, _, rfl, _⟩
  · exact .inl ⟨rfl, rfl⟩
  · cases h0
  · cases h0
theorem infoStX : (Tryz.prog.info? 9).map (fun i => (i.zero, i.size, i.bytes)) = some (some (.string ⟨#[]⟩), 1, 16) := by kernel_rfl
theorem rowsR_okb {fr sp : Int} {N : List Bs} {K : List (List Nat)} (h : (rowsR fr sp N K).1.1 = 0) : bndB fr sp = true ∧ N.length ≤ 60 ∧ K.length = N.length := by
  unfold rowsR at h
  split at h
  · cases h
  rename_i h1
  split at h
  · cases h
  rename_i h2
  split at h
  · cases h
  rename_i h3
  exact ⟨by simpa using h1, by omega, by omega⟩
set_option maxRecDepth 100000 in
set_option maxHeartbeats 8000000 in
theorem btext_any {es : Nat → Addr} {B : Nat} (fr sp : Int) (A A' : Option Addr) (n c n' c' : Nat) (ser : List Bs) (ch : List (List Nat)) (w : World) (hS : SBk es B w) (hT : TabAt w) (hTB : 15 < B) (hB0 : B ≤ w.heap.size) (hP : P10 B w)
    (hA : Rd w w.heap.size 1 A n (ser.map fun s => .string (B8 s))) (hC : Rd w w.heap.size 1 A' n' (ch.map fun x => .string (bytesOf x))) (hsl : ∀ s ∈ ser, s.length ≤ 100000) (hcl : ∀ x ∈ ch, x.length ≤ 100000 ∧ ∀ b ∈ x, b < 256) :
    Calls Tryz.prog 14 #[.agg #[.int .i64 fr, .int .i64 sp, .slice A n c, .slice A' n' c']] w fun e w' => BTPost es (rowsR fr sp ser ch).1 (textB fr sp (ser.zip ch)) w e w' := by
  have hln : ser.length = n := by have := hA.1; simpa using this
  have hlc : ch.length = n' := by have := hC.1; simpa using this
  have hb1 : Below w.heap.size w (w.alloc (.cells #[.int .i64 fr, .int .i64 sp, .slice A n c, .slice A' n' c'] 37)) := Below.alloc (Below.refl _ _) (Nat.le_refl _) _
  have hk1 := Blk.new w 37 #[.int .i64 fr, .int .i64 sp, .slice A n c, .slice A' n' c']
  have Hck := Lib.hid (bcheck_any fr sp A A' n c n' c' ser ch _ (hS.below hb1 hB0) (hT.call hb1 (Nat.le_refl _)) hTB (Nat.le_trans hB0 hb1.size) ((hA.below hb1).more hb1.size) ((hC.below hb1).more hb1.size) hsl hcl)
  have Hit := Lib.hid (fun W (hb : Below w.heap.size w W) (m : Int) (hm : m.natAbs < 10 ^ 17) => itoa_p m hm W (hP.below hb hB0))
  have HA := Lib.hid (fun W (hb : Below w.heap.size w W) (i : Nat) (hi : i < n) => (hA.below hb).at1 hi)
  have HC := Lib.hid (fun W (hb : Below w.heap.size w W) (i : Nat) (hi : i < n') => (hC.below hb).at1 hi)
  have HB1 := Lib.hid hb1; have HK1 := Lib.hid hk1; have Hln := Lib.hid hln; have Hlc := Lib.hid hlc; have Hsl := Lib.hid hsl; have Hcl := Lib.hid hcl
  have Hbn := Lib.hid (fun (h : (rowsR fr sp ser ch).1.1 = 0) => rowsR_okb h)
  clear hS hT hTB hB0 hP hA hC hb1 hk1 hln hlc hsl hcl
  obtain ⟨Rf, hRf⟩ : ∃ Rf, Rf = (rowsR fr sp ser ch).1 := ⟨_, rfl⟩
  rw [← hRf] at Hck Hbn ⊢
  clear hRf
  have q0 := HK1.out.cell 0; have q1 := HK1.out.cell 1; have q2 := HK1.out.cell 2; have q3 := HK1.out.cell 3
  obtain ⟨i0, hi, hz0, hz1, hz2⟩ := info_parts infoStX
  have Hi := Lib.hid hi; have Hz0 := Lib.hid hz0; have Hz1 := Lib.hid hz1; have Hz2 := Lib.hid hz2
  clear hi hz0 hz1 hz2
  go_enter Tryz.func14, Tryz.ntmps14
  go_wp2_with fail
  refine Hck.out.mono ?_
  rintro e w2 ⟨v, rfl, hev, hb⟩
  have HB2 := Lib.hid (Below.call HB1.out hb HB1.out.size)
  have HK2 := Lib.hid (HK1.out.below hb HK1.out.lt)
  have HE2 := Lib.hid (hev.base HB1.out.size)
  clear hb q0 q1 q2 q3
  by_cases h0 : Rf.1 = 0
  case neg =>
    obtain ⟨t, p, rfl⟩ := hev.pos h0
    have H0 := Lib.hid h0
    clear hev h0
    go_wp2
    go_ret2
    exact ⟨_, _, rfl, HE2.out, fun h => absurd h H0.out, HB2.out⟩
  obtain rfl := hev.zero h0
  obtain ⟨hbd, hn60, hnn⟩ := Hbn.out h0
  rw [Hln.out] at hn60
  rw [Hln.out, Hlc.out] at hnn
  subst hnn
  have hbs : 1 ≤ sp ∧ sp ≤ 100000 ∧ -1099511627776 ≤ fr ∧ fr ≤ 1099511627776 := by simpa [bndB] using hbd
  have H0 := Lib.hid h0
  have It1 := Lib.hid (fun W hb => Hit.out W hb fr (by omega)); have It2 := Lib.hid (fun W hb => Hit.out W hb sp (by omega)); have It3 := Lib.hid (fun W hb => Hit.out W hb (n' : Int) (by omega))
  have l1 := itoa_len (n := fr) (k := 17) (by decide) (by omega)
  have l2 := itoa_len (n := sp) (k := 17) (by decide) (by omega)
  have l3 := itoa_len (n := (n' : Int)) (k := 17) (by decide) (by omega)
  have s1 := B8_size (Lib.itoa fr); have s2 := B8_size (Lib.itoa sp); have s3 := B8_size (Lib.itoa (n' : Int))
  obtain ⟨hd, hhd⟩ : ∃ hd, hd = bhdB fr sp n' := ⟨_, rfl⟩
  have Hcat := Lib.hid (show (⟨#[98, 108, 111, 99, 107, 32]⟩ : ByteArray) ++ B8 (Lib.itoa fr) ++ ⟨#[32]⟩ ++ B8 (Lib.itoa sp) ++ ⟨#[32]⟩ ++ B8 (Lib.itoa (n' : Int)) = B8 hd by
    rw [hhd]
    show B8 [98, 108, 111, 99, 107, 32] ++ B8 (Lib.itoa fr) ++ B8 [32] ++ B8 (Lib.itoa sp) ++ B8 [32] ++ B8 (Lib.itoa (n' : Int)) = _
    rw [B8_append, B8_append, B8_append, B8_append, B8_append]; rfl)
  have hhl : hd.length ≤ 100 := by
    rw [hhd]; unfold bhdB blkW_
    simp only [List.length_append, List.length_cons, List.length_nil]
    omega
  have Hhd := Lib.hid hhd
  generalize B8 (Lib.itoa fr) = i1 at It1 s1 Hcat
  generalize B8 (Lib.itoa sp) = i2 at It2 s2 Hcat
  generalize B8 (Lib.itoa (n' : Int)) = i3 at It3 s3 Hcat
  have z1 : i1.size ≤ 20 := by omega
  have z2 : i2.size ≤ 20 := by omega
  have z3 : i3.size ≤ 20 := by omega
  have n1 : ¬ 9223372036854775807 < 6 + i1.size := by omega
  have n2 : ¬ 9223372036854775807 < 6 + i1.size + 1 := by omega
  have n3 : ¬ 9223372036854775807 < 6 + i1.size + 1 + i2.size := by omega
  have n4 : ¬ 9223372036854775807 < 6 + i1.size + 1 + i2.size + 1 := by omega
  have n5 : ¬ 9223372036854775807 < 6 + i1.size + 1 + i2.size + 1 + i3.size := by omega
  clear hev h0 hbd hbs l1 l2 l3 s1 s2 s3 hhd
  have Hkc := Lib.hid (fun W (h : Blk W w.heap.size 37 #[.int .i64 fr, .int .i64 sp, .slice A n' c, .slice A' n' c']) => show W.cell? ⟨w.heap.size, 0, none⟩ = some (.int .i64 fr) ∧ W.cell? ⟨w.heap.size, 1, none⟩ = some (.int .i64 sp) ∧ W.cell? ⟨w.heap.size, 2, none⟩ = some (.slice A n' c) from ⟨h.cell 0, h.cell 1, h.cell 2⟩)
  have HBd := Lib.hid HB2.out.drew
  have HKd := Lib.hid HK2.out.drew
  go_wp2
  go_region_held3 (fun w' => w'.cell? ⟨w.heap.size, 0, none⟩ = some (.int .i64 fr) ∧ w'.cell? ⟨w.heap.size, 1, none⟩ = some (.int .i64 sp) ∧ w'.cell? ⟨w.heap.size, 2, none⟩ = some (.slice A n' c))
    (first | with_reducible exact Hkc.out _ HKd.out | with_reducible exact Hkc.out _ HK3.out | with_reducible exact Hkc.out _ HK4.out | with_reducible exact Hkc.out _ HK5.out | exact Hkc.out _ (HK5.out.alloc _))
    (first | (go_at_call 31; (with_reducible refine (It1.out _ HBd.out).mono ?_); rintro e w3 ⟨rfl, hb⟩; have HB3 := Lib.hid (Below.call HBd.out hb HBd.out.size); have HK3 := Lib.hid (HKd.out.below hb HKd.out.lt); clear hb) | (go_at_call 31; (with_reducible refine (It2.out _ HB3.out).mono ?_); rintro e w4 ⟨rfl, hb⟩; have HB4 := Lib.hid (Below.call HB3.out hb HB3.out.size); have HK4 := Lib.hid (HK3.out.below hb HK3.out.lt); clear hb) | (go_at_call 31; (with_reducible refine (It3.out _ HB4.out).mono ?_); rintro e w5 ⟨rfl, hb⟩; have HB5 := Lib.hid (Below.call HB4.out hb HB4.out.size); have HK5 := Lib.hid (HK4.out.below hb HK4.out.lt); clear hb))
  have Ho5 := Lib.hid (own_new1 (base := w.heap.size) w5 9 (.string ((⟨#[98, 108, 111, 99, 107, 32]⟩ : ByteArray) ++ i1 ++ ⟨#[32]⟩ ++ i2 ++ ⟨#[32]⟩ ++ i3)) HB5.out.size)
  have HB6 := Lib.hid (Below.alloc HB5.out HB5.out.size (.cells #[.string ((⟨#[98, 108, 111, 99, 107, 32]⟩ : ByteArray) ++ i1 ++ ⟨#[32]⟩ ++ i2 ++ ⟨#[32]⟩ ++ i3)] 9))
  have HK6 := Lib.hid (HK5.out.alloc (.cells #[.string ((⟨#[98, 108, 111, 99, 107, 32]⟩ : ByteArray) ++ i1 ++ ⟨#[32]⟩ ++ i2 ++ ⟨#[32]⟩ ++ i3)] 9))
  clear n1 n2 n3 n4 n5 z1 z2 z3
  generalize w5.alloc (.cells #[.string ((⟨#[98, 108, 111, 99, 107, 32]⟩ : ByteArray) ++ i1 ++ ⟨#[32]⟩ ++ i2 ++ ⟨#[32]⟩ ++ i3)] 9) = w6 at Ho5 HB6 HK6 ⊢
  rw [Hcat.out] at Ho5
  have q2 := HK6.out.cell 2
  have hK60 : (ser.zip ch).length = n' := by rw [List.length_zip, Hln.out, Hlc.out]; omega
  have HKl := Lib.hid hK60
  clear hK60
  go_wp2
  go_loopw [5, 32] (fun lv iv wr => ∃ k : Nat, k ≤ n' ∧ iv = .int .i64 k ∧ wr.ownsRow w.heap.size 9 1 lv (k + 1) (strL (hd :: ((ser.zip ch).take k).map lineB)) ∧ Below w.heap.size w wr ∧ Blk wr w.heap.size 37 #[.int .i64 fr, .int .i64 sp, .slice A n' c, .slice A' n' c']) (fun _ iv _ => n' - (intOf iv).toNat)
  case atStart => exact ⟨0, Nat.zero_le _, rfl, Ho5.out, HB6.out, HK6.out⟩
  case round =>
    obtain ⟨k, hk, rfl, hown, hb, hkb⟩ := hrel
    obtain ⟨Ao, co, rfl, hcn, _, _⟩ := own_form hown
    have Hown := Lib.hid hown; have HB := Lib.hid hb; have HK := Lib.hid hkb
    clear hown hb
    by_cases hkn : k < n'
    · have hkn' : (k : Int) < n' := by omega
      obtain ⟨b0, o0, s, hA0, had0, hs, x0⟩ := HA.out _ HB.out k hkn
      obtain ⟨b1, o1, x, hA1, had1, hx, y0⟩ := HC.out _ HB.out k hkn
      subst hA0; subst hA1
      have q3 := hkb.cell 3
      have hz : (ser.zip ch)[k]? = some (s, x) := by rw [List.getElem?_zip_eq_some]; exact ⟨hs, hx⟩
      have Hz := Lib.hid hz
      have h1 := Hsl.out s (List.mem_of_getElem? hs)
      have h2 := (Hcl.out x (List.mem_of_getElem? hx)).1
      have Hhx := Lib.hid (chex_any (x.map UInt8.ofNat) (by rw [List.length_map]; omega) wr)
      rw [show B8 (x.map UInt8.ofNat) = bytesOf x from rfl] at Hhx
      have Hline := Lib.hid (show B8 s ++ (⟨#[32]⟩ : ByteArray) ++ B8 (hexS (x.map UInt8.ofNat)) = B8 (lineB (s, x)) by
        show B8 s ++ B8 [32] ++ B8 (hexS (x.map UInt8.ofNat)) = _
        rw [B8_append, B8_append]
        unfold lineB
        rw [List.append_assoc]; rfl)
      have z1 : (B8 s).size ≤ 100000 := by rw [B8_size]; exact h1
      have z2 : (B8 (hexS (x.map UInt8.ofNat))).size ≤ 200000 := by rw [B8_size, hexS_len, List.length_map]; omega
      generalize bytesOf x = xb at y0 Hhx
      generalize B8 (hexS (x.map UInt8.ofNat)) = hx2 at Hhx Hline z2
      generalize B8 s = sn at x0 Hline z1
      clear hkb hs hx hz h1 h2
      go_wp2_with fail
      refine Hhx.out.mono ?_
      rintro e w7 ⟨rfl, hb⟩
      have HB7 := Lib.hid (Below.call HB.out hb HB.out.size)
      have HO7 := Lib.hid (own_below Hown.out hb (Nat.le_refl _))
      have HK7 := Lib.hid (HK.out.below hb HK.out.lt)
      have n1 : ¬ 9223372036854775807 < sn.size + 1 := by omega
      have n2 : ¬ 9223372036854775807 < sn.size + 1 + hx2.size := by omega
      have HoA := Lib.hid (show (w7.alloc (.cells #[.string (sn ++ ⟨#[32]⟩ ++ hx2)] 9)).ownsRow w.heap.size 9 1 (.slice Ao (k + 1) co) (k + 1) (strL (hd :: ((ser.zip ch).take k).map lineB)) from HO7.out.alloc _)
      have HrA := Lib.hid (rd_one1 w7 9 (.string (sn ++ ⟨#[32]⟩ ++ hx2)))
      have HbA := Lib.hid (show Below w.heap.size w (w7.alloc (.cells #[.string (sn ++ ⟨#[32]⟩ ++ hx2)] 9)) from Below.alloc HB7.out HB7.out.size _)
      have HkA := Lib.hid (HK7.out.alloc (.cells #[.string (sn ++ ⟨#[32]⟩ ++ hx2)] 9))
      have HzA := Lib.hid (show w.heap.size ≤ (w7.alloc (.cells #[.string (sn ++ ⟨#[32]⟩ ++ hx2)] 9)).heap.size from HbA.out.size)
      have hk63 : k + 1 + 1 ≤ maxLen := by unfold maxLen; omega
      have hk8 : (k + 1 + 1) * 16 ≤ 140737488355328 := by omega
      clear hb
      go_wp2_with (at_builtin; refine wpList_append_rd _ rfl (.tmp 37) (.tmp 47) _ rfl w.heap.size 9 i0 (.string ⟨#[]⟩) 1 16 Tryz.underlying22 Hi.out Hz0.out Hz1.out Hz2.out rfl (by decide) (.slice Ao (k + 1) co) (k + 1) _ rfl HoA.out _ _ 1 1 [.string (sn ++ ⟨#[32]⟩ ++ hx2)] rfl HrA.out (by intro u hu; simp at hu; subst hu; rfl) hk63 hk8 HzA.out ?_; intro v' wa hown' hgr hat; have Hv := Lib.hid hown'; have HBb := Lib.hid (Below.grown HbA.out hgr HzA.out (fun g hg => (own_lt HoA.out g hg).1)); have HKb := Lib.hid (HkA.out.grown hgr (own_ne_blk HoA.out HkA.out (by decide))); clear hown' hgr hat)
      clear n1 n2 z1 z2
      go_roundw
      case rel =>
        refine ⟨k + 1, by omega, by go_num, ?_, HBb.out, HKb.out⟩
        have := Hv.out
        rw [Hline.out] at this
        rw [take_snoc Hz.out, List.map_append]
        unfold strL at this ⊢
        rw [← List.cons_append, List.map_append]
        exact this
      case measure => simp [intOf]; omega
    · obtain rfl : k = n' := by omega
      have hkn' : ¬ (k : Int) < k := by omega
      have htk : (ser.zip ch).take k = ser.zip ch := List.take_of_length_le (by rw [HKl.out]; exact Nat.le_refl _)
      have hown := Hown.out
      rw [htk] at hown
      obtain ⟨xs, hxs⟩ : ∃ xs, xs = hd :: (ser.zip ch).map lineB := ⟨_, rfl⟩
      rw [← hxs] at hown
      have hrd := Rd.of_own hown
      obtain ⟨bk, o, hAo, hbk, hcell⟩ := hrd.2 (by omega)
      subst hAo
      have hxl : (xs.map B8).length = k + 1 := by rw [List.length_map, hxs, List.length_cons, List.length_map, HKl.out]
      have hdl : ((xs.map B8).map (·.data.toList)) = xs := by rw [List.map_map, show ((fun b : ByteArray => b.data.toList) ∘ B8) = id from rfl, List.map_id]
      have hjl : (Lib.join xs [10]).length ≤ 20000000 := by
        rw [hxs, Lib.join_cons, List.length_append]
        have h1 := joinT_len 300001 ((ser.zip ch).map lineB) (fun y hy => by
          obtain ⟨r, hr, rfl⟩ := List.mem_map.1 hy
          obtain ⟨e1, e2⟩ := List.of_mem_zip hr
          exact lineB_len (Hsl.out _ e1) (Hcl.out _ e2).1)
        rw [List.length_map, HKl.out] at h1
        omega
      have hJ := Tryz.strings_Join bk o co (xs.map B8) ⟨#[10]⟩ wr (fun j x hx => by
        rw [List.getElem?_map] at hx
        obtain ⟨y, hy, rfl⟩ := Option.map_eq_some_iff.1 hx
        exact hcell j _ (by unfold strL; rw [List.getElem?_map, hy]; rfl)) hbk (by rw [hxl]; omega) (by rw [hxl]; exact hcn) (by rw [hdl]; exact Nat.le_trans hjl (by decide))
      rw [hxl, hdl] at hJ
      have HJ := Lib.hid hJ
      have Hfin := Lib.hid (show (⟨(Lib.join xs [10]).toArray⟩ : ByteArray) ++ ⟨#[10]⟩ = B8 (textB fr sp (ser.zip ch)) by
        unfold textB
        rw [HKl.out, ← Hhd.out, ← hxs]
        exact B8_append (Lib.join xs [10]) [10])
      have hsj : (⟨(Lib.join xs [10]).toArray⟩ : ByteArray).size ≤ 20000000 := by show (Lib.join xs [10]).toArray.size ≤ _; simpa using hjl
      generalize (⟨(Lib.join xs [10]).toArray⟩ : ByteArray) = jb at HJ Hfin hsj
      have n1 : ¬ 9223372036854775807 < jb.size + 1 := by omega
      clear hJ hxl hdl hjl hcell hrd hown htk hxs hkb
      go_wp2_with fail
      refine HJ.out.mono ?_
      rintro e w7 ⟨rfl, hb⟩
      have HB7 := Lib.hid (Below.call HB.out hb HB.out.size)
      clear hb
      go_wp2
      go_ret2
      exact ⟨.nilIface, _, rfl, EV_nil0 H0.out (HE2.out), fun _ => Hfin.out, HB7.out⟩
end Go.Proofs.YtpbgonpmpjpljaaGreatDoor

namespace Go.Proofs.YtpbgonpmpjpljaaGreatDoor
open Go.RowKit
set_option linter.unusedVariables false

/-- The pieces of a text that a byte parts. -/
def pcs (c : UInt8) : Bs → List Bs
  | [] => [[]]
  | x :: r => if x = c then [] :: pcs c r else match pcs c r with
    | [] => [[x]]
    | p :: l => (x :: p) :: l
/-- The cell that strings.Split reads holds some number. -/
def MaxAt (W : World) : Prop := ∃ m, W.cell? ⟨13, 0, none⟩ = some (.int .i64 m)
theorem MaxAt.below {B : Nat} {a w : World} (h : MaxAt a) (hb : Below B a w) (hB : 13 < B) : MaxAt w := by
  obtain ⟨m, hm⟩ := h
  exact ⟨m, (hb.cell (p := ⟨13, 0, none⟩) hB).trans hm⟩
end Go.Proofs.YtpbgonpmpjpljaaGreatDoor

namespace Go.Proofs.YtpbgonpmpjpljaaGreatDoor
open Go.RowKit
set_option linter.unusedVariables false

/-- The number that a word is, if it is one. -/
def numB (s : Bs) : Option Int := match atoiO s with
  | some n => if s.length ≤ 15 ∧ Lib.itoa n = s then some n else none
  | none => none
def NumPost (s : Bs) (w : World) (e : Ending) (w' : World) : Prop := ∃ v b, e = .returned (.tuple #[.int .i64 v, .bool b]) ∧ (b = true → numB s = some v) ∧ (b = false → numB s = none) ∧ i64B v ∧ Below w.heap.size w w'
theorem NumPost.yes {s : Bs} {w w' : World} {v : Int} (h : numB s = some v) (hv : i64B v) (hb : Below w.heap.size w w') : NumPost s w (.returned (.tuple #[.int .i64 v, .bool true])) w' := ⟨v, true, rfl, fun _ => h, fun h => (by cases h), hv, hb⟩
theorem NumPost.no {s : Bs} {w w' : World} {v : Int} (h : numB s = none) (hv : i64B v) (hb : Below w.heap.size w w') : NumPost s w (.returned (.tuple #[.int .i64 v, .bool false])) w' := ⟨v, false, rfl, fun h => (by cases h), fun _ => h, hv, hb⟩
end Go.Proofs.YtpbgonpmpjpljaaGreatDoor
