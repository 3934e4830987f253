/- BlockBack by its contract: it returns true. -/
import Derived.Test.YtfkklcmepcocoaaGreatDoorMknX
import Derived.Deep.RegionHeld3
import Derived.Deep.Light
import Derived.Test.YtfkklcmepcocoaaGreatDoorRMakeQX
import Derived.Test.YtfkklcmepcocoaaGreatDoorMksX
import Derived.Test.YtfkklcmepcocoaaGreatDoorRSetQX
import Derived.Test.YtfkklcmepcocoaaGreatDoorMkpX
import Derived.Test.YtfkklcmepcocoaaGreatDoorReadQX
import Derived.Deep.DeepCutAuto
import Derived.Test.YtfkklcmepcocoaaGreatDoorBaseX
import Derived.ProofKit
import Derived.SizedLaws
import Derived.Deep.Slices
import Derived.Test.YtfkklcmepcocoaaGreatDoorMkgX
namespace Go.Proofs.YtfkklcmepcocoaaGreatDoor
open Go.RowKit
set_option linter.unusedVariables false

theorem RowsRd.of_own {w' : World} {base : Nat} {Au : Option Addr} {m cu : Nat} {ls : List RowV} (hown : w'.ownsRow base 37 2 (.slice Au m cu) m (rowC ls)) (hro : RowsOwn base w' ls) : RowsRd w' w'.heap.size Au m ls :=
  ⟨Rd.of_own hown, fun r hr => by
    obtain ⟨A', c', e, _, _, hrd⟩ := own_form (hro r hr)
    exact ⟨A', c', e, hrd⟩⟩
theorem encR_len (rows : List Rw) : (encR rows).length = rows.length := List.length_map _
theorem encR_names {rows : List Rw} {q : Nat} (h : ∀ r ∈ rows, r.1.length ≤ q) : ∀ s ∈ nmsOf (encR rows), s.length ≤ q := by
  intro s hs
  unfold nmsOf encR at hs
  rw [List.map_map] at hs
  obtain ⟨r, hr, rfl⟩ := List.mem_map.1 hs
  exact h r hr
theorem browP_len (l : List (Int × Int)) (hn : l.length ≤ 120) (hl : ∀ p ∈ l, 0 ≤ p.2 ∧ p.2 < 18446744073709551616) : 8 ≤ (rowP l).length ∧ (rowP l).length ≤ 39000 := by
  have h := ticksBits_le (tsOf l)
  have h2 : (tsOf l).length = l.length := List.length_map _
  have h3 := sumN_mP (vsOf l) (vsOf l).length (vsOf_lt hl) (Nat.le_refl _)
  have h4 : (vsOf l).length = l.length := List.length_map _
  have h5 : (maskB (vsOf l)).length ≤ 256 * (vsOf l).length := h3
  rw [h2] at h
  rw [h4] at h5
  unfold rowP
  rw [List.length_append, List.length_append, bitsN_len]
  omega
theorem bchunk_len (l : List (Int × Int)) (hn : l.length ≤ 120) (hl : ∀ p ∈ l, 0 ≤ p.2 ∧ p.2 < 18446744073709551616) : (chunkL l).length ≤ 100000 := by
  have h := browP_len l hn hl
  unfold chunkL
  rw [seal_len, packN_len]
  omega
/-- What Make's rows give. -/
structure Back (fr sp : Int) (L : List Rw) : Prop where
  bd : bndB fr sp = true
  n60 : L.length ≤ 60
  mke : makeR fr sp L = ((0, -1), encR L)
  rd : rowsR fr sp (nmsOf (encR L)) (chsOf (encR L)) = ((0, -1), L)
  ok : RowsOk fr (fr + sp) L
  ne : ∀ r ∈ L, r.2 ≠ []
  nm : ∀ r ∈ L, r.1.length ≤ 200
  vl : ∀ r ∈ L, ∀ p ∈ r.2, 0 ≤ p.2 ∧ p.2 < 18446744073709551616
theorem Back.of {fr sp : Int} {L : List Rw} (h : (makeR fr sp L).1.1 = 0) (hn : ∀ r ∈ L, r.1.length ≤ 200) (hv : ∀ r ∈ L, ∀ p ∈ r.2, 0 ≤ p.2 ∧ p.2 < 18446744073709551616) : Back fr sp (keepR L) ∧ makeR fr sp L = ((0, -1), encR (keepR L)) := by
  obtain ⟨h1, h2, h3, h4⟩ := makeR_inv h
  have hl : (keepR L).length ≤ 60 := Nat.le_trans (keep_len L) h2
  have hne : ∀ r ∈ keepR L, r.2 ≠ [] := fun r hr => by simpa using (List.mem_filter.1 hr).2
  have hv' : ∀ r ∈ keepR L, ∀ p ∈ r.2, 0 ≤ p.2 ∧ p.2 < 18446744073709551616 := fun r hr => hv r (List.mem_filter.1 hr).1
  exact ⟨⟨h1, hl, by rw [makeR_ok h1 hl h3.keep, keep_keep], rowsR_enc h1 hl h3.keep hne hv', h3.keep, hne, fun r hr => hn r (List.mem_filter.1 hr).1, hv'⟩, h4⟩
theorem Back.row {fr sp : Int} {L : List Rw} (h : Back fr sp L) {r : Rw} (hr : r ∈ L) : r.2.length ≤ 120 ∧ 1 ≤ r.2.length :=
  ⟨(ptF_zero.1 (h.ok.1 r hr).2.1).1, List.length_pos_iff.2 (h.ne r hr)⟩
theorem Back.names {fr sp : Int} {L : List Rw} (h : Back fr sp L) : ∀ s ∈ nmsOf (encR L), s.length ≤ 100000 := encR_names fun r hr => Nat.le_trans (h.nm r hr) (by decide)
theorem Back.chunks {fr sp : Int} {L : List Rw} (h : Back fr sp L) : ∀ x ∈ chsOf (encR L), x.length ≤ 100000 ∧ ∀ b ∈ x, b < 256 := by
  intro x hx
  unfold chsOf encR at hx
  rw [List.map_map] at hx
  obtain ⟨r, hr, rfl⟩ := List.mem_map.1 hx
  exact ⟨bchunk_len r.2 (h.row hr).1 (h.vl r hr), chunkL_256 r.2⟩
theorem Back.at {fr sp : Int} {L : List Rw} (h : Back fr sp L) {k : Nat} {r : Rw} (hr : L[k]? = some r) : betL fr (fr + sp - 1) (ptsOf L r.1) = r.2 := by
  rw [ptsOf_at h.ok.2 hr]
  exact bet_all (h.ok.1 r (List.mem_of_getElem? hr)).2.2
end Go.Proofs.YtfkklcmepcocoaaGreatDoor

namespace Go.Proofs.YtfkklcmepcocoaaGreatDoor
open Go.RowKit
set_option linter.unusedVariables false

theorem bm_zip {α β : Type} : ∀ l : List (α × β), (l.map Prod.fst).zip (l.map Prod.snd) = l
  | [] => rfl
  | (a, b) :: l => by rw [List.map_cons, List.map_cons, List.zip_cons_cons, bm_zip l]
theorem bm_chunk (l : List (Int × Int)) (hn : l.length ≤ 120) (hl : ∀ p ∈ l, 0 ≤ p.2 ∧ p.2 < 18446744073709551616) : (chunkL l).length ≤ 4880 := by
  have h := browP_len l hn hl
  unfold chunkL
  rw [seal_len, packN_len]
  omega
theorem bm_flat (q : Nat) : ∀ (l : List Bs), (∀ r ∈ l, r.length ≤ q) → (l.flatMap (· ++ [10])).length ≤ (q + 1) * l.length
  | [], _ => by simp
  | r :: l, h => by
    have h1 := h r List.mem_cons_self
    have h2 := bm_flat q l (fun x hx => h x (List.mem_cons_of_mem _ hx))
    rw [List.flatMap_cons, List.length_append, List.length_append]
    simp only [List.length_cons, List.length_nil]
    rw [Nat.mul_add]
    omega
/-- What a block that Make made holds: bounds for what is done with it. -/
structure MkIs (fr sp : Int) (K : List (Bs × List Nat)) (rows : List Rw) : Prop where
  rd : rowsR fr sp (K.map Prod.fst) (K.map Prod.snd) = ((0, -1), rows)
  bd : bndB fr sp = true
  n60 : K.length ≤ 60
  ok : ∀ x ∈ K, (rdF x.1).1 = 0 ∧ x.1.length ≤ 200 ∧ x.2.length ≤ 4880 ∧ ∀ b ∈ x.2, b < 256
theorem MkIs.of {fr sp : Int} {L : List Rw} (h : Back fr sp L) : MkIs fr sp (encR L) L := by
  refine ⟨h.rd, h.bd, by rw [encR_len]; exact h.n60, fun x hx => ?_⟩
  unfold encR at hx
  obtain ⟨r, hr, rfl⟩ := List.mem_map.1 hx
  exact ⟨(h.ok.1 r hr).1, h.nm r hr, bm_chunk r.2 (h.row hr).1 (h.vl r hr), chunkL_256 r.2⟩
theorem MkIs.names {fr sp : Int} {K : List (Bs × List Nat)} {rows : List Rw} (h : MkIs fr sp K rows) : ∀ s ∈ K.map Prod.fst, s.length ≤ 100000 := fun s hs => by
  obtain ⟨x, hx, rfl⟩ := List.mem_map.1 hs
  exact Nat.le_trans (h.ok x hx).2.1 (by decide)
theorem MkIs.chunks {fr sp : Int} {K : List (Bs × List Nat)} {rows : List Rw} (h : MkIs fr sp K rows) : ∀ s ∈ K.map Prod.snd, s.length ≤ 100000 ∧ ∀ b ∈ s, b < 256 := fun s hs => by
  obtain ⟨x, hx, rfl⟩ := List.mem_map.1 hs
  exact ⟨Nat.le_trans (h.ok x hx).2.2.1 (by decide), (h.ok x hx).2.2.2⟩
theorem MkIs.bnds {fr sp : Int} {K : List (Bs × List Nat)} {rows : List Rw} (h : MkIs fr sp K rows) : fr.natAbs < 10 ^ 14 ∧ sp.natAbs < 10 ^ 14 := by
  have hbs : 1 ≤ sp ∧ sp ≤ 100000 ∧ -1099511627776 ≤ fr ∧ fr ≤ 1099511627776 := by simpa [bndB] using h.bd
  omega
theorem MkIs.len {fr sp : Int} {K : List (Bs × List Nat)} {rows : List Rw} (h : MkIs fr sp K rows) : (textB fr sp K).length ≤ 1000000 := by
  obtain ⟨hf, hs⟩ := h.bnds
  have h1 := bm_flat 9961 (K.map lineB) (fun t ht => by
    obtain ⟨x, hx, rfl⟩ := List.mem_map.1 ht
    obtain ⟨_, a, b, _⟩ := h.ok x hx
    unfold lineB
    rw [List.length_append, List.length_cons, hexS_len, List.length_map]
    omega)
  have h3 : (bhdB fr sp K.length).length ≤ 100 := by
    have a := itoa_len (n := fr) (by decide) hf
    have b := itoa_len (n := sp) (by decide) hs
    have c := itoa_len (n := (K.length : Int)) (k := 14) (by decide) (by have := h.n60; omega)
    unfold bhdB blkW_
    simp only [List.length_append, List.length_cons, List.length_nil]
    omega
  rw [List.length_map] at h1
  have h2 := h.n60
  have h4 : 9962 * K.length ≤ 9962 * 60 := Nat.mul_le_mul_left _ h2
  unfold textB
  rw [join_end, List.flatMap_cons, List.length_append, List.length_append]
  simp only [List.length_cons, List.length_nil]
  omega
theorem MkIs.read {fr sp : Int} {K : List (Bs × List Nat)} {rows : List Rw} (h : MkIs fr sp K rows) (hl : (textB fr sp K).length ≤ 20000) : readB (textB fr sp K) = ((0, -1), (fr, sp), K) :=
  readB_of h.bd h.n60 (by rw [h.rd]) (fun x hx => ⟨(h.ok x hx).1, (h.ok x hx).2.2.2⟩) hl
theorem rmR_is {fr sp : Int} {L : List Rw} (hn : ∀ r ∈ L, r.1.length ≤ 200) (hv : ∀ r ∈ L, ∀ p ∈ r.2, 0 ≤ p.2 ∧ p.2 < 18446744073709551616) {R : RdB} (hR : R = rmR fr sp L) :
    R.1 = (makeR fr sp L).1 ∧ R.2.2 = (makeR fr sp L).2 ∧ (R.1.1 ≠ 0 → R.2.1 = (0, 0) ∧ R.2.2 = []) ∧ (R.1.1 = 0 → R.2.1 = (fr, sp) ∧ R.1.2 = -1 ∧ ∃ rows, MkIs fr sp R.2.2 rows) := by
  subst hR
  refine ⟨rfl, rfl, fun h => ⟨if_neg h, makeR_err h⟩, fun h => ?_⟩
  obtain ⟨hb, hm⟩ := Back.of h hn hv
  refine ⟨if_pos h, ?_, keepR L, ?_⟩
  · show (makeR fr sp L).1.2 = -1
    rw [hm]
  · show MkIs fr sp (makeR fr sp L).2 _
    rw [hm]
    exact MkIs.of hb
theorem bm_txB (K : List (Bs × List Nat)) : txS K = (K.map fun r => B8 r.1).map Value.string := by unfold txS; rw [List.map_map]; rfl
theorem bm_chB (K : List (Bs × List Nat)) : chS K = (K.map fun r => bytesOf r.2).map Value.string := by unfold chS; rw [List.map_map]; rfl
end Go.Proofs.YtfkklcmepcocoaaGreatDoor

namespace Go.Proofs.YtfkklcmepcocoaaGreatDoor
open Go.RowKit
set_option linter.unusedVariables false

set_option maxHeartbeats 60000000 in
set_option maxRecDepth 100000 in
theorem blockMakes_law {es : Nat → Addr} {B : Nat} (fr sp : Int) (A : Option Addr) (n c : Nat) (rows : List RowV) (sx : Bs) (lo hi : Int) (w : World) (hS : Sents es B w) (hW : BlkW es B w) (hWl : WalW es B w) (hm : MaxAt w) (hmB : 12 < B)
    (hA : RowsRd w w.heap.size A n rows) (hn : n ≤ 140737488351232) (hp : ∀ r ∈ rows, r.pts.length ≤ 140737488351232) (hv : ∀ r ∈ rows, ∀ p ∈ r.pts, 0 ≤ p.2 ∧ p.2 < 18446744073709551616) :
    Calls Tryz.prog 7 #[.int .i64 fr, .int .i64 sp, .slice A n c, .string (B8 sx), .int .i64 lo, .int .i64 hi] w fun e w' => e = .returned (.bool true) ∧ Below w.heap.size w w' := by
  have HW := Lib.hid (fun W (hb : Below w.heap.size w W) => hW.below hb hW.b0)
  have HS := Lib.hid (fun W (hb : Below w.heap.size w W) => hS.below hb hW.b0)
  have HWl := Lib.hid (fun W (hb : Below w.heap.size w W) => hWl.below hb hW.b0)
  have HM := Lib.hid (fun W (hb : Below w.heap.size w W) => hm.below hb (Nat.lt_of_lt_of_le hmB hW.b0))
  have HmB := Lib.hid hmB
  have HA := Lib.hid (fun W (hb : Below w.heap.size w W) => (hA.below hb (Nat.le_refl _)).more hb.size)
  have Hbl := Lib.hid (blocked_any w hW)
  have Hv := Lib.hid hv; have Hp := Lib.hid hp
  have Hlen := Lib.hid hA.len
  obtain ⟨L0, hL0⟩ : ∃ L0, L0 = rows.map rowP2 := ⟨_, rfl⟩
  have HL0 := Lib.hid hL0
  obtain ⟨st, hst⟩ : ∃ st, B8 sx = st := ⟨_, rfl⟩
  rw [hst]
  have Hst := Lib.hid hst
  clear hW hA hv hp hL0 hS hWl hm hmB hst
  go_enter Tryz.func7, Tryz.ntmps7
  go_wp2_with fail
  refine Hbl.out.mono ?_
  rintro e w1 ⟨rfl, hb⟩
  have HB1 := Lib.hid hb
  clear hb
  go_wp2_with fail
  refine (long_any A n c rows _ (HA.out _ HB1.out) hn Hp.out).mono ?_
  rintro e w2 ⟨b, rfl, hlong, hb⟩
  have HB2 := Lib.hid (Below.call HB1.out hb HB1.out.size)
  clear hb
  cases b
  case true =>
    clear hlong
    go_wp2
    go_ret
    exact ⟨rfl, HB2.out⟩
  obtain ⟨hn70, hrow⟩ := hlong rfl
  have Hrow := Lib.hid hrow
  clear hlong hrow
  by_cases h200 : 200 < st.size
  · have h200' : (200 : Int) < (st.size : Int) := by omega
    clear h200
    go_wp2
    go_ret
    exact ⟨rfl, HB2.out⟩
  have h200' : ¬ (200 : Int) < (st.size : Int) := by omega
  clear h200
  go_wp2_with fail
  refine (ownRows_any A n c rows _ (HA.out _ HB2.out) hn70 (fun r hr => (Hrow.out r hr).2)).mono ?_
  rintro e w3 ⟨u, ls, rfl, hown, hro, hmap, hb⟩
  obtain ⟨Au, cu, rfl, _, _, _⟩ := own_form hown
  have HB3 := Lib.hid (Below.call HB2.out hb HB2.out.size)
  have hm70 : ls.length ≤ 70 := by
    have e := congrArg List.length hmap
    rw [List.length_map, List.length_map, Hlen.out] at e
    omega
  have hmap' : ls.map rowP2 = L0 := by rw [HL0.out]; exact hmap
  have Hin := Lib.hid (show (∀ r ∈ L0, r.1.length ≤ 200) ∧ ∀ r ∈ L0, ∀ p ∈ r.2, 0 ≤ p.2 ∧ p.2 < 18446744073709551616 by
    rw [HL0.out]
    refine ⟨fun r hr => ?_, fun r hr => ?_⟩
    · obtain ⟨q, hq, rfl⟩ := List.mem_map.1 hr
      exact (Hrow.out q hq).1
    · obtain ⟨q, hq, rfl⟩ := List.mem_map.1 hr
      exact Hv.out q hq)
  have Hl70 := Lib.hid (show L0.length ≤ 100000 by rw [HL0.out, List.length_map, Hlen.out]; omega)
  have Hmk := Lib.hid (make_any fr sp Au ls.length cu ls w3 (HW.out _ HB3.out).s (HW.out _ HB3.out).t (HW.out _ HB3.out).b0 (RowsRd.of_own hown hro) (by omega) (fun r hr => by
    have hr' : rowP2 r ∈ L0 := by rw [← hmap']; exact List.mem_map.2 ⟨r, hr, rfl⟩
    exact ⟨Nat.le_trans (Hin.out.1 _ hr') (by decide), Hin.out.2 _ hr'⟩))
  rw [hmap'] at Hmk
  obtain ⟨⟨⟨c1, c2⟩, ⟨F, P⟩, K⟩, hR⟩ : ∃ R, R = rmR fr sp L0 := ⟨_, rfl⟩
  obtain ⟨g1, g2, h3, h4⟩ := rmR_is Hin.out.1 Hin.out.2 hR
  have h1 : (makeR fr sp L0).1 = (c1, c2) := g1.symm
  have h2 : (makeR fr sp L0).2 = K := g2.symm
  have HK := Lib.hid (show K.length ≤ 100000 by
    by_cases h : c1 = 0
    · obtain ⟨_, _, rw', h5⟩ := h4 h
      exact Nat.le_trans h5.n60 (by decide)
    · rw [show K = [] from (h3 h).2]; exact Nat.zero_le _)
  have H3 := Lib.hid (show c1 ≠ 0 → F = 0 ∧ P = 0 from fun h => by
    have := (h3 h).1
    injection this with a b
    exact ⟨a, b⟩)
  have H4 := Lib.hid (show c1 = 0 → (F = fr ∧ P = sp) ∧ c2 = -1 ∧ ∃ rows, MkIs fr sp K rows from fun h => by
    obtain ⟨a, b, d⟩ := h4 h
    injection a with a a'
    exact ⟨⟨a, a'⟩, b, d⟩)
  rw [show makeR fr sp L0 = ((c1, c2), K) from Prod.ext h1 h2] at Hmk
  have HR := Lib.hid hR
  obtain ⟨lm, hlm⟩ : ∃ lm, lm = ls.length := ⟨_, rfl⟩
  rw [← hlm] at Hmk
  simp only [← hlm]
  clear hown hro hmap hmap' hb hm70 hlm g1 g2 h1 h2 h3 h4 hR
  go_wp2_with fail
  refine Hmk.out.mono ?_
  rintro e w4 ⟨v, f', s', u1, u2, rfl, hev, hbad, hgood, hpr, hb⟩
  obtain ⟨rfl, rfl⟩ : F = f' ∧ P = s' := by
    by_cases h : c1 = 0
    · obtain ⟨⟨a, b⟩, _⟩ := H4.out h
      obtain ⟨a', b'⟩ := hgood h
      exact ⟨a.trans a'.symm, b.trans b'.symm⟩
    · obtain ⟨a, b⟩ := H3.out h
      obtain ⟨a', b'⟩ := hbad h
      exact ⟨a.trans a'.symm, b.trans b'.symm⟩
  dsimp only at hev hpr
  obtain ⟨A1, a1, rfl, _, _, _⟩ := own_form hpr.l
  obtain ⟨A2, a2, rfl, _, _, _⟩ := own_form hpr.r
  dsimp only
  have HB4 := Lib.hid (Below.call HB3.out hb HB3.out.size)
  have HE4 := Lib.hid hev
  have HP4 := Lib.hid hpr
  have HK4 := Lib.hid (Blk.new w4 27 #[.int .i64 F, .int .i64 P, .slice A1 K.length a1, .slice A2 K.length a2])
  have HB4a := Lib.hid (Below.alloc HB4.out HB4.out.size (.cells #[.int .i64 F, .int .i64 P, .slice A1 K.length a1, .slice A2 K.length a2] 27))
  have Hsr := Lib.hid (setRows_any A n c rows _ (HA.out _ HB4a.out) (by omega))
  rw [← HL0.out] at Hsr
  clear hev hpr hb hbad hgood Hmk H3
  go_wp2_with fail
  obtain ⟨wa, hwa⟩ : ∃ wa, wa = w4.alloc (.cells #[.int .i64 F, .int .i64 P, .slice A1 K.length a1, .slice A2 K.length a2] 27) := ⟨_, rfl⟩
  have HEa := Lib.hid (show EV es w3.heap.size wa v (c1, c2) by rw [hwa]; exact HE4.out.below (Below.alloc (Below.refl w4.heap.size w4) (Nat.le_refl _) _) (Nat.le_refl _))
  have HPa := Lib.hid (show Pair wa w3.heap.size 9 (.slice A1 K.length a1) K.length (txS K) (.slice A2 K.length a2) K.length (chS K) by rw [hwa]; exact HP4.out.fr ((Fr.refl _ w4).alloc _))
  rw [← hwa] at HB4a HK4 Hsr ⊢
  obtain ⟨g1, hg1⟩ : ∃ g1, g1 = w4.heap.size := ⟨_, rfl⟩
  rw [← hg1] at HK4 ⊢
  clear hwa hg1 HE4 HP4 HB4
  refine Hsr.out.mono ?_
  rintro e w5 ⟨q, rfl, hset, hb⟩
  have Hba5 := Lib.hid hb
  have Hmb := Lib.hid (makeBlock_any fr sp q L0 w5 hset Hl70.out (fun r hr => ⟨Nat.le_trans (Hin.out.1 r hr) (by decide), Hin.out.2 r hr⟩))
  rw [← HR.out] at Hmb
  clear hset hb Hsr
  go_wp2_with fail
  refine Hmb.out.mono ?_
  rintro e w6 ⟨u3, u4, rfl, hpr, hb⟩
  rw [show fV ((c1, c2), (F, P), K).1 = .agg #[.int .i64 (c1 : Int), .int .i64 c2] from rfl]
  obtain ⟨A3, a3, rfl, _, _, _⟩ := own_form hpr.l
  obtain ⟨A4, a4, rfl, _, _, _⟩ := own_form hpr.r
  dsimp only
  have Hba6 := Lib.hid (Below.call Hba5.out hb Hba5.out.size)
  have HP6 := Lib.hid hpr
  have HB6 := Lib.hid (Below.call HB4a.out Hba6.out HB4a.out.size)
  have HG6 := Lib.hid (HK4.out.below Hba6.out HK4.out.lt)
  have HE6 := Lib.hid (HEa.out.below Hba6.out (Nat.le_refl _))
  have HPA6 := Lib.hid (HPa.out.fr (Fr.ofBel Hba6.out))
  have Hb67 := Lib.hid (Below.alloc (Below.alloc (Below.refl w6.heap.size w6) (Nat.le_refl _) (.cells #[.int .i64 F, .int .i64 P, .slice A3 K.length a3, .slice A4 K.length a4] 39)) (by simp) (.cells #[.int .i64 (c1 : Int), .int .i64 c2] 57))
  have hk7 := (Blk.new w6 39 #[.int .i64 F, .int .i64 P, .slice A3 K.length a3, .slice A4 K.length a4]).alloc (.cells #[.int .i64 (c1 : Int), .int .i64 c2] 57)
  have hf7 := Blk.new (w6.alloc (.cells #[.int .i64 F, .int .i64 P, .slice A3 K.length a3, .slice A4 K.length a4] 39)) 57 #[.int .i64 (c1 : Int), .int .i64 c2]
  rw [World.size_alloc] at hf7
  obtain ⟨w7, hw7⟩ : ∃ w7, w7 = (w6.alloc (.cells #[.int .i64 F, .int .i64 P, .slice A3 K.length a3, .slice A4 K.length a4] 39)).alloc (.cells #[.int .i64 (c1 : Int), .int .i64 c2] 57) := ⟨_, rfl⟩
  have Hw7 := Lib.hid hw7
  have Hb7 := Lib.hid (show Below w6.heap.size w6 w7 by rw [hw7]; exact Hb67.out)
  have HQ7 := Lib.hid (show Blk w7 w6.heap.size 39 #[.int .i64 F, .int .i64 P, .slice A3 K.length a3, .slice A4 K.length a4] by rw [hw7]; exact hk7)
  have HF7 := Lib.hid (show Blk w7 (w6.heap.size + 1) 57 #[.int .i64 (c1 : Int), .int .i64 c2] by rw [hw7]; exact hf7)
  have HG7 := Lib.hid (HG6.out.below Hb7.out HG6.out.lt)
  have HB7 := Lib.hid (Below.call HB6.out Hb7.out HB6.out.size)
  have HE7 := Lib.hid (HE6.out.below Hb7.out (Nat.le_refl _))
  have HPA7 := Lib.hid (HPA6.out.fr (Fr.ofBel Hb7.out))
  have HPB7 := Lib.hid (HP6.out.fr (Fr.ofBel Hb7.out))
  have HC := Lib.hid (fun W (hb : Below w7.heap.size w7 W) => show (W.cell? ⟨g1, 0, none⟩ = some (.int .i64 F) ∧ W.cell? ⟨g1, 1, none⟩ = some (.int .i64 P) ∧ W.cell? ⟨g1, 2, none⟩ = some (.slice A1 K.length a1) ∧ W.cell? ⟨g1, 3, none⟩ = some (.slice A2 K.length a2)) ∧ (W.cell? ⟨w6.heap.size, 0, none⟩ = some (.int .i64 F) ∧ W.cell? ⟨w6.heap.size, 1, none⟩ = some (.int .i64 P) ∧ W.cell? ⟨w6.heap.size, 2, none⟩ = some (.slice A3 K.length a3) ∧ W.cell? ⟨w6.heap.size, 3, none⟩ = some (.slice A4 K.length a4)) ∧ (W.cell? ⟨w6.heap.size + 1, 0, none⟩ = some (.int .i64 (c1 : Int)) ∧ W.cell? ⟨w6.heap.size + 1, 1, none⟩ = some (.int .i64 c2)) from
    ⟨(cells4 (HG7.out.below hb HG7.out.lt)).1, (cells4 (HQ7.out.below hb HQ7.out.lt)).1, (HF7.out.below hb HF7.out.lt).duo2⟩)
  have HC7 := Lib.hid (HC.out w7.drew (Below.drew (Below.refl _ _)))
  clear hpr hb hk7 hf7 hw7 Hba5 Hmb HEa HPa HG6 HE6 HPA6 HP6 Hb67 HB1 HB2 HB3 Hrow Hl70 Hv Hp Hlen
  have HB7d := Lib.hid HB7.out.drew
  have HE7d := Lib.hid (HE7.out.below (Below.drew (Below.refl w7.heap.size w7)) (Nat.le_refl _))
  have Hfa := Lib.hid (faulted2_any v (c1 : Int) c2 (c1 : Int) c2 w7.drew (HS.out _ HB7d.out) (HW.out _ HB7d.out).b0 (HE7d.out.is (HS.out _ HB7d.out)) rfl (.inr rfl))
  have Ham := Lib.hid (fun A1 A2 a1 a2 W => asModel_any F P A1 A2 K.length a1 K.length a2 W)
  have Hsb := Lib.hid (fun W (B1 B2 B3 B4 : Option Addr) (b1 b2 b3 b4 : Nat) (h1 : Rd W W.heap.size 1 B1 K.length (txS K)) (h2 : Rd W W.heap.size 1 B2 K.length (chS K)) (h3 : Rd W W.heap.size 1 B3 K.length (txS K)) (h4 : Rd W W.heap.size 1 B4 K.length (chS K)) => sameBlock_eq F P B1 B2 B3 B4 K.length b1 b2 K.length b3 b4 (K.map fun r => B8 r.1) (K.map fun r => bytesOf r.2) W
    (by rw [← bm_txB]; exact h1) (by rw [← bm_chB]; exact h2) (by rw [← bm_txB]; exact h3) (by rw [← bm_chB]; exact h4) HK.out HK.out)
  have HPl := Lib.hid (fun W (hb : Below w7.heap.size w7 W) => show (Rd W W.heap.size 1 A1 K.length (txS K) ∧ Rd W W.heap.size 1 A2 K.length (chS K)) ∧ (Rd W W.heap.size 1 A3 K.length (txS K) ∧ Rd W W.heap.size 1 A4 K.length (chS K)) from
    ⟨⟨((Rd.of_own HPA7.out.l).below hb).more hb.size, ((Rd.of_own HPA7.out.r).below hb).more hb.size⟩, ⟨((Rd.of_own HPB7.out.l).below hb).more hb.size, ((Rd.of_own HPB7.out.r).below hb).more hb.size⟩⟩)
  have hrd := Lib.hid (Below.drew (Below.refl w7.heap.size w7))
  go_wp2_with fail
  rw [← Hw7.out]
  go_region_held3 (fun w' => (w'.cell? ⟨g1, 0, none⟩ = some (.int .i64 F) ∧ w'.cell? ⟨g1, 1, none⟩ = some (.int .i64 P) ∧ w'.cell? ⟨g1, 2, none⟩ = some (.slice A1 K.length a1) ∧ w'.cell? ⟨g1, 3, none⟩ = some (.slice A2 K.length a2)) ∧ (w'.cell? ⟨w6.heap.size, 0, none⟩ = some (.int .i64 F) ∧ w'.cell? ⟨w6.heap.size, 1, none⟩ = some (.int .i64 P) ∧ w'.cell? ⟨w6.heap.size, 2, none⟩ = some (.slice A3 K.length a3) ∧ w'.cell? ⟨w6.heap.size, 3, none⟩ = some (.slice A4 K.length a4)) ∧ (w'.cell? ⟨w6.heap.size + 1, 0, none⟩ = some (.int .i64 (c1 : Int)) ∧ w'.cell? ⟨w6.heap.size + 1, 1, none⟩ = some (.int .i64 c2)))
    (first | with_reducible exact HC7.out | with_reducible exact HCa.out | with_reducible exact HCb.out | with_reducible exact HCc.out)
    (first
      | (go_at_call 18; refine Hfa.out.mono ?_; rintro e6 x1 ⟨rfl, hb6⟩; have Hx1 := Lib.hid (Below.call hrd.out hb6 hrd.out.size); have HCa := Lib.hid (HC.out _ Hx1.out); clear hb6)
      | (go_at_call 15; refine (Ham.out _ _ _ _ _).mono ?_; rintro e7 x2 ⟨rfl, hb7⟩; have Hx2 := Lib.hid (Below.call Hx1.out hb7 Hx1.out.size); have HCb := Lib.hid (HC.out _ Hx2.out); clear hb7)
      | (go_at_call 14; refine (Hsb.out _ _ _ _ _ _ _ _ _ (HPl.out _ Hx2.out).1.1 (HPl.out _ Hx2.out).1.2 (HPl.out _ Hx2.out).2.1 (HPl.out _ Hx2.out).2.2).mono ?_; rintro e8 x3 ⟨rfl, hb8⟩; have Hx3 := Lib.hid (Below.call Hx2.out hb8 Hx2.out.size); have HCc := Lib.hid (HC.out _ Hx3.out); clear hb8))
  have HBx := Lib.hid (Below.call HB7.out Hx3.out HB7.out.size)
  by_cases h0 : c1 = 0
  case neg =>
    have h0' : (0 : Int) < (c1 : Int) := by omega
    obtain ⟨⟨p0, p1, p2, p3⟩, ⟨q0, q1, q2, q3⟩, ⟨r0, r1⟩⟩ := HCc.out
    clear h0
    go_wp2
    go_ret
    exact ⟨rfl, HBx.out⟩
  obtain ⟨⟨hF, hP⟩, hc2, rws, hmk⟩ := H4.out h0
  subst hF
  subst hP
  subst h0
  subst hc2
  obtain ⟨tx, htx⟩ : ∃ tx, tx = textB F P K := ⟨_, rfl⟩
  obtain ⟨hnf, hns⟩ := hmk.bnds
  have Hmk := Lib.hid hmk
  have Hlt := Lib.hid (show tx.length ≤ 1000000 by rw [htx]; exact hmk.len)
  have Hrd := Lib.hid (show tx.length ≤ 20000 → readB tx = ((0, -1), (F, P), K) from fun h => by rw [htx] at h ⊢; exact hmk.read h)
  have Hpt := Lib.hid (bpts_any F P A1 A2 K.length a1 K.length a2 (K.map Prod.fst) (K.map Prod.snd) sx lo hi x3 (HW.out _ HBx.out).s (HW.out _ HBx.out).t (HW.out _ HBx.out).tb (HW.out _ HBx.out).b0
    (by rw [← txS_fst]; exact (HPl.out _ Hx3.out).1.1) (by rw [← chS_snd]; exact (HPl.out _ Hx3.out).1.2) hmk.names hmk.chunks)
  rw [hmk.rd, Hst.out] at Hpt
  have Hso := Lib.hid (fun W (hb : Below w7.heap.size w7 W) => setOf_any F P A3 A4 K.length a3 K.length a4 (K.map Prod.fst) (K.map Prod.snd) W
    (by rw [← txS_fst]; exact (HPl.out _ hb).2.1) (by rw [← chS_snd]; exact (HPl.out _ hb).2.2) Hmk.out.names Hmk.out.chunks)
  rw [hmk.rd] at Hso
  obtain ⟨⟨p0, p1, p2, p3⟩, ⟨q0, q1, q2, q3⟩, ⟨r0, r1⟩⟩ := HCc.out
  clear hmk
  go_wp2_with fail
  refine Hpt.out.mono ?_
  rintro e x4 ⟨v4, u5, rfl, hev, _, hown, hb⟩
  obtain rfl := hev.zero rfl
  have hown := hown rfl
  obtain ⟨L, hL⟩ : ∃ L, L = betL lo hi (ptsOf rws sx) := ⟨_, rfl⟩
  rw [← hL] at hown
  have HL := Lib.hid hL
  obtain ⟨A7, a7, rfl, _, _, hr7⟩ := own_form hown
  have Hx4 := Lib.hid (Below.call Hx3.out hb Hx3.out.size)
  have HR7 := Lib.hid (fun W (hb : Below x4.heap.size x4 W) => show Rd W W.heap.size 2 A7 L.length (ptsC L) from (hr7.below hb).more hb.size)
  have Hso4 := Lib.hid (Hso.out x4 Hx4.out)
  obtain ⟨_, ⟨q0, q1, q2, q3⟩, _⟩ := HC.out _ Hx4.out
  have H60 := Lib.hid (show rws.length ≤ 1000 ∧ (ptsOf rws sx).length ≤ 100000 from by
    have h60 := rowsR_60 (fr := F) (sp := P) (ser := K.map Prod.fst) (ch := K.map Prod.snd)
    have hle := rowsR_le (fr := F) (sp := P) (ser := K.map Prod.fst) (ch := K.map Prod.snd)
    rw [Hmk.out.rd] at h60 hle
    refine ⟨Nat.le_trans h60 (by decide), ?_⟩
    unfold ptsOf
    split
    · rename_i r hr
      exact Nat.le_trans (hle r (List.mem_of_find?_eq_some hr)) (by decide)
    · exact Nat.zero_le _)
  clear hev hown hb hL hr7 Hpt p0 p1 p2 p3 r0 r1 Hso
  go_wp2_with fail
  refine Hso4.out.mono ?_
  rintro e x5 ⟨u, rfl, _, hug, hb⟩
  obtain ⟨qs, sv, lv, N, Q, rfl, hat, his⟩ := hug rfl
  have Hx5 := Lib.hid (Below.call Hx4.out hb Hx4.out.size)
  have hsd := hat.rd his
  rw [show fV ((0, -1), rws).1 = .agg #[.int .i64 0, .int .i64 (-1)] from rfl]
  have Hal := Lib.hid (Below.alloc (Below.refl x5.heap.size x5) (Nat.le_refl _) (.cells #[.int .i64 0, .int .i64 (-1)] 57))
  obtain ⟨x6, hx6⟩ : ∃ x6, x6 = x5.alloc (.cells #[.int .i64 0, .int .i64 (-1)] 57) := ⟨_, rfl⟩
  have HX6 := Lib.hid hx6
  have Hb56 := Lib.hid (show Below x5.heap.size x5 x6 by rw [hx6]; exact Hal.out)
  have Hx6 := Lib.hid (Below.call Hx5.out Hb56.out Hx5.out.size)
  have Hy6 := Lib.hid (Below.call hb Hb56.out hb.size)
  have Hget := Lib.hid (setGet_any qs rws sx x6 (hsd.call Hb56.out) H60.out.1)
  rw [Hst.out] at Hget
  clear hug hat his hsd hb hx6 Hal q0 q1 q2 q3
  go_wp2_with fail
  rw [← HX6.out]
  refine Hget.out.mono ?_
  rintro e x7 ⟨Ag, ag, rfl, hrg, hb⟩
  have Hx7 := Lib.hid (Below.call Hx6.out hb Hx6.out.size)
  have Hy7 := Lib.hid (Below.call Hy6.out hb Hy6.out.size)
  have Hbw := Lib.hid (betweenOf_any Ag (ptsOf rws sx).length ag (ptsOf rws sx) lo hi x7 (hrg.more hb.size) H60.out.2)
  rw [← HL.out] at Hbw
  clear hrg hb Hget
  go_wp2_with fail
  refine Hbw.out.mono ?_
  rintro e x8 ⟨ub, rfl, hown, hb⟩
  obtain ⟨A8, a8, rfl, _, _, hr8⟩ := own_form hown
  have Hx8 := Lib.hid (Below.call Hx7.out hb Hx7.out.size)
  have Hy8 := Lib.hid (Below.call Hy7.out hb Hy7.out.size)
  have Hsp := Lib.hid (samePoints_eq A7 L.length a7 A8 a8 L x8 (HR7.out _ Hy8.out) hr8 (by rw [HL.out]; exact Nat.le_trans (betL_le _ _ _) H60.out.2))
  clear hown hr8 hb Hbw
  go_wp2_with fail
  refine Hsp.out.mono ?_
  rintro e x9 ⟨rfl, hb⟩
  have Hx9 := Lib.hid (Below.call Hx8.out hb Hx8.out.size)
  have HBy := Lib.hid (Below.call HB7.out Hx9.out HB7.out.size)
  have Htx := Lib.hid (btext_any F P A1 A2 K.length a1 K.length a2 (K.map Prod.fst) (K.map Prod.snd) x9 (HW.out _ HBy.out).s (HW.out _ HBy.out).t (HW.out _ HBy.out).tb (HW.out _ HBy.out).b0 ⟨(HWl.out _ HBy.out).p10, (HWl.out _ HBy.out).p10lt⟩
      (by rw [← txS_fst]; exact (HPl.out _ Hx9.out).1.1) (by rw [← chS_snd]; exact (HPl.out _ Hx9.out).1.2) Hmk.out.names Hmk.out.chunks)
  rw [bm_zip, ← htx, Hmk.out.rd] at Htx
  obtain ⟨⟨p0, p1, p2, p3⟩, _⟩ := HC.out _ Hx9.out
  clear hb Hsp Hy6 Hy7 Hy8 HR7 Hx4 Hx5 Hx6 Hx7 Hx8 Hso4
  go_wp2_with fail
  refine Htx.out.mono ?_
  rintro e x10 ⟨v9, s9, rfl, hev9, hs9, hb⟩
  obtain rfl := hev9.zero rfl
  obtain rfl := hs9 rfl
  have Hx10 := Lib.hid (Below.call Hx9.out hb Hx9.out.size)
  have Hbt := Lib.hid (blockText_any F P A3 A4 K.length a3 a4 K x10 (HPl.out _ Hx10.out).2.1 (HPl.out _ Hx10.out).2.2 (Nat.le_trans Hmk.out.n60 (by decide)) hnf hns (fun x hx => ⟨Nat.le_trans (Hmk.out.ok x hx).2.1 (by decide), Nat.le_trans (Hmk.out.ok x hx).2.2.1 (by decide)⟩))
  rw [← htx] at Hbt
  obtain ⟨_, ⟨q0, q1, q2, q3⟩, _⟩ := HC.out _ Hx10.out
  clear hev9 hs9 hb Htx p0 p1 p2 p3 htx
  have htl : (B8 tx).size = tx.length := B8_size tx
  obtain ⟨tt, htt⟩ : ∃ tt, B8 tx = tt := ⟨_, rfl⟩
  rw [htt] at htl Hbt
  simp only [htt]
  have Htt := Lib.hid htt
  have Htl := Lib.hid htl
  have e1 : (tt.toList == tt.toList) = true := beq_self_eq_true _
  have e2 : (tt.toList != tt.toList) = false := by rw [bne, e1]; rfl
  clear htt htl
  go_wp2_with fail
  refine Hbt.out.mono ?_
  rintro e x11 ⟨rfl, hb⟩
  have Hx11 := Lib.hid (Below.call Hx10.out hb Hx10.out.size)
  have HBz := Lib.hid (Below.call HB7.out Hx11.out HB7.out.size)
  have Hre := Lib.hid (bread_any tx Hlt.out x11 (HW.out _ HBz.out).s (HWl.out _ HBz.out) (HW.out _ HBz.out).t (HW.out _ HBz.out).tb (HW.out _ HBz.out).b0 (HM.out _ HBz.out) HmB.out)
  rw [Htt.out] at Hre
  clear hb Hbt q0 q1 q2 q3
  by_cases h2 : 20000 < tx.length
  · have h2' : (20000 : Int) < (tt.size : Int) := by rw [Htl.out]; omega
    rw [readB_long h2] at Hre
    clear h2
    go_wp2_with fail
    refine Hre.out.mono ?_
    rintro e x12 ⟨v12, u7, u8, rfl, hev, hpr, hb⟩
    have HBq := Lib.hid (Below.call HBz.out hb HBz.out.size)
    obtain ⟨A5, a5, rfl, _, _, _⟩ := own_form hpr.l
    obtain ⟨A6, a6, rfl, _, _, _⟩ := own_form hpr.r
    simp only [List.length_nil]
    have HBr := Lib.hid (Below.alloc HBq.out HBq.out.size (.cells #[.int .i64 0, .int .i64 0, .slice A5 0 a5, .slice A6 0 a6] 27))
    have Hc2 := Lib.hid (coded2_any v12 2 (-1) 2 _ (HS.out _ HBr.out) (HW.out _ HBr.out).b0 ((hev.below (Below.alloc (Below.refl x12.heap.size x12) (Nat.le_refl _) (.cells #[.int .i64 0, .int .i64 0, .slice A5 0 a5, .slice A6 0 a6] 27)) (Nat.le_refl _)).is (HS.out _ HBr.out)))
    clear hev hpr hb Hre
    go_wp2_with fail
    refine Hc2.out.mono ?_
    rintro e x13 ⟨rfl, hb⟩
    have HBs := Lib.hid (Below.call HBr.out hb HBr.out.size)
    clear hb
    go_wp2
    go_ret
    exact ⟨rfl, HBs.out⟩
  have h2' : ¬ (20000 : Int) < (tt.size : Int) := by rw [Htl.out]; omega
  rw [Hrd.out (by omega)] at Hre
  clear h2
  go_wp2_with fail
  refine Hre.out.mono ?_
  rintro e x12 ⟨v12, u7, u8, rfl, hev, hpr, hb⟩
  obtain rfl := hev.zero rfl
  dsimp only at hpr
  obtain ⟨A5, a5, rfl, _, _, _⟩ := own_form hpr.l
  obtain ⟨A6, a6, rfl, _, _, _⟩ := own_form hpr.r
  dsimp only
  have Hx12 := Lib.hid (Below.call Hx11.out hb Hx11.out.size)
  have Ha13 := Lib.hid (Below.alloc (Below.refl x12.heap.size x12) (Nat.le_refl _) (.cells #[.int .i64 F, .int .i64 P, .slice A5 K.length a5, .slice A6 K.length a6] 27))
  have HN := Lib.hid (Blk.new x12 27 #[.int .i64 F, .int .i64 P, .slice A5 K.length a5, .slice A6 K.length a6])
  have HPc := Lib.hid (hpr.fr ((Fr.refl _ x12).alloc (.cells #[.int .i64 F, .int .i64 P, .slice A5 K.length a5, .slice A6 K.length a6] 27)))
  clear hev hpr hb Hre
  go_wp2
  obtain ⟨g3, hg3⟩ : ∃ g3, g3 = x12.heap.size := ⟨_, rfl⟩
  rw [← hg3] at HN ⊢
  have Hx13 := Lib.hid (Below.call Hx12.out Ha13.out Hx12.out.size)
  generalize x12.alloc (.cells #[.int .i64 F, .int .i64 P, .slice A5 K.length a5, .slice A6 K.length a6] 27) = x13 at HN HPc Hx13 ⊢
  clear hg3 Ha13
  have HD := Lib.hid (fun W (hb : Below x13.heap.size x13 W) => show (W.cell? ⟨w6.heap.size, 0, none⟩ = some (.int .i64 F) ∧ W.cell? ⟨w6.heap.size, 1, none⟩ = some (.int .i64 P) ∧ W.cell? ⟨w6.heap.size, 2, none⟩ = some (.slice A3 K.length a3) ∧ W.cell? ⟨w6.heap.size, 3, none⟩ = some (.slice A4 K.length a4)) ∧ (W.cell? ⟨g3, 0, none⟩ = some (.int .i64 F) ∧ W.cell? ⟨g3, 1, none⟩ = some (.int .i64 P) ∧ W.cell? ⟨g3, 2, none⟩ = some (.slice A5 K.length a5) ∧ W.cell? ⟨g3, 3, none⟩ = some (.slice A6 K.length a6)) from
    ⟨(HC.out _ (Below.call Hx13.out hb Hx13.out.size)).2.1, (cells4 (HN.out.below hb HN.out.lt)).1⟩)
  have HPm := Lib.hid (fun W (hb : Below x13.heap.size x13 W) => show (Rd W W.heap.size 1 A5 K.length (txS K) ∧ Rd W W.heap.size 1 A6 K.length (chS K)) from
    ⟨((Rd.of_own HPc.out.l).below hb).more hb.size, ((Rd.of_own HPc.out.r).below hb).more hb.size⟩)
  have HD0 := Lib.hid (HD.out x13.drew (Below.drew (Below.refl _ _)))
  have hrd3 := Lib.hid (Below.drew (Below.refl x13.heap.size x13))
  go_region_held3 (fun w' => (w'.cell? ⟨w6.heap.size, 0, none⟩ = some (.int .i64 F) ∧ w'.cell? ⟨w6.heap.size, 1, none⟩ = some (.int .i64 P) ∧ w'.cell? ⟨w6.heap.size, 2, none⟩ = some (.slice A3 K.length a3) ∧ w'.cell? ⟨w6.heap.size, 3, none⟩ = some (.slice A4 K.length a4)) ∧ (w'.cell? ⟨g3, 0, none⟩ = some (.int .i64 F) ∧ w'.cell? ⟨g3, 1, none⟩ = some (.int .i64 P) ∧ w'.cell? ⟨g3, 2, none⟩ = some (.slice A5 K.length a5) ∧ w'.cell? ⟨g3, 3, none⟩ = some (.slice A6 K.length a6)))
    (first | with_reducible exact HD0.out | with_reducible exact HDa.out | with_reducible exact HDb.out)
    (first
      | (go_at_call 15; refine (Ham.out _ _ _ _ _).mono ?_; rintro e7 y2 ⟨rfl, hb7⟩; have Hz2 := Lib.hid (Below.call hrd3.out hb7 hrd3.out.size); have HDa := Lib.hid (HD.out _ Hz2.out); clear hb7)
      | (go_at_call 14; refine (Hsb.out _ _ _ _ _ _ _ _ _ (HPm.out _ Hz2.out).1 (HPm.out _ Hz2.out).2 (HPl.out _ (Below.call Hx13.out Hz2.out Hx13.out.size)).2.1 (HPl.out _ (Below.call Hx13.out Hz2.out Hx13.out.size)).2.2).mono ?_; rintro e8 y3 ⟨rfl, hb8⟩; have Hz3 := Lib.hid (Below.call Hz2.out hb8 Hz2.out.size); have HDb := Lib.hid (HD.out _ Hz3.out); clear hb8))
  have HBw := Lib.hid (Below.call HB7.out (Below.call Hx13.out Hz3.out Hx13.out.size) HB7.out.size)
  go_wp2
  go_ret
  exact ⟨rfl, HBw.out⟩
end Go.Proofs.YtfkklcmepcocoaaGreatDoor

namespace Go.Proofs.YtfkklcmepcocoaaGreatDoor
open Go.RowKit Go.ChangeShapes Go.WideShapes Go.Deep

section
variable {H : Type} {enc : TypeId × Value → H} {P : Program} {w : World} {base : Nat} {spare : Nat → Bool} {held : Bool}

/-- A slice, opened: its elements' cells lie one behind the other; each element has a reading of its own. -/
theorem open_rd {t e k fuel : Nat} {cs : List Value} {x : DataW H × List MemPlace} (ht : P.underlying t = some (.slice e)) (hC : P.cellsOf e = k) (hk : 0 < k) (h : DataW.trod enc P w base spare held fuel t cs = some x) :
    ∃ (A : Option Addr) (cap : Nat) (ys : List (List Value × DataW H)), cs = [.slice A ys.length cap] ∧ ys.length ≤ cap ∧ cap ≤ maxLen ∧
      (∀ y ∈ ys, y.1.length = k ∧ ∃ m ps, DataW.trod enc P w base spare held m e y.1 = some (y.2, ps)) ∧ Rd w w.heap.size k A ys.length (ys.flatMap (·.1)) ∧
      ((x.1 = .nil ∧ ys = []) ∨ ∃ sp, x.1 = .slice (ys.map (·.2)) sp) := by
  rcases open_slice ht h with ⟨rfl, rfl⟩ | ⟨a, len, cap, m, n, D, Pl, rfl, hb, hl, hm, hmm, rfl, hx⟩
  · exact ⟨none, 0, [], rfl, Nat.le_refl _, Nat.zero_le _, by simp, Rd.nil, .inl ⟨rfl, rfl⟩⟩
  · have hlm : len ≤ m := by rw [hmm]; split <;> omega
    obtain ⟨C, hCs⟩ := choose_lt (α := List Value) (p := fun i c => w.cells? base (a.add (i * P.cellsOf e)) (P.cellsOf e) = some c ∧ DataW.trod enc P w base spare held n e c = some (D i, Pl i)) (fun i hi => hx i (Nat.lt_of_lt_of_le hi hlm))
    have hlen : ((List.range len).map fun i => (C i, D i)).length = len := by simp
    refine ⟨some a, cap, (List.range len).map fun i => (C i, D i), by rw [hlen], by rw [hlen]; exact hl, hm, ?_, ?_, .inr ⟨_, by rw [List.map_map]; rfl⟩⟩
    · intro y hy
      obtain ⟨i, hi, rfl⟩ := List.mem_map.1 hy
      obtain ⟨h1, h2⟩ := hCs i (List.mem_range.1 hi)
      exact ⟨(World.cells?_some h1).2.1.trans hC, n, Pl i, h2⟩
    · have hf : ∀ i < len, (C i).length = k := fun i hi => (World.cells?_some (hCs i hi).1).2.1.trans hC
      rw [hlen]
      have key : ∀ i j, i < len → j < k → w.cell? (a.add (i * k + j)) = (C i)[j]? := by
        intro i j hi hj
        have := (World.cells?_some (hCs i hi).1).2.2 j (by rw [hC]; exact hj)
        rw [add_add, hC] at this
        exact this
      -- the j-th cell of the flat list
      have flat : ∀ (L : List Nat) (s : Nat), (∀ i, L[i]? = if i < L.length then some (s + i) else none) → s + L.length ≤ len → ∀ j u, (L.flatMap fun i => C i)[j]? = some u → w.cell? (a.add (s * k + j)) = some u := by
        intro L
        induction L with
        | nil => intro s _ _ j u hu; simp at hu
        | cons i L ih =>
          intro s hL hs j u hu
          have h0 := hL 0
          simp at h0
          subst h0
          simp only [List.length_cons] at hs
          have hik := hf i (by omega)
          by_cases hj : j < k
          · rw [List.flatMap_cons, List.getElem?_append_left (by omega)] at hu
            rw [key i j (by omega) hj]; exact hu
          · rw [List.flatMap_cons, List.getElem?_append_right (by omega), hik] at hu
            have := ih (i + 1) (fun q => by have := hL (q + 1); simpa [Nat.add_assoc, Nat.add_comm 1 q] using this) (by omega) (j - k) u hu
            rw [Nat.add_mul, Nat.one_mul] at this
            rw [← this]
            congr 2
            omega
      have hfl : ((List.range len).flatMap fun i => C i).length = len * k := by
        have : ∀ L : List Nat, (∀ i ∈ L, i < len) → (L.flatMap fun i => C i).length = L.length * k := by
          intro L
          induction L with
          | nil => intro _; simp
          | cons i L ih =>
            intro hL
            rw [List.flatMap_cons, List.length_append, hf i (hL i (by simp)), ih (fun q hq => hL q (by simp [hq])), List.length_cons, Nat.succ_mul]
            omega
        rw [this _ (fun i hi => List.mem_range.1 hi), List.length_range]
      have hmap : ((List.range len).map fun i => (C i, D i)).flatMap (·.1) = (List.range len).flatMap fun i => C i := by rw [List.flatMap_map]
      rw [hmap]
      refine ⟨hfl, fun hpos => ?_⟩
      have hr := flat (List.range len) 0 (fun i => by by_cases hi : i < len <;> simp [hi]) (by simp)
      have hc0 : ∃ u, w.cell? a = some u := by
        have h1 := key 0 0 hpos hk
        have h2 := hf 0 hpos
        rw [List.getElem?_eq_getElem (by omega)] at h1
        exact ⟨_, by simpa [Addr.add] using h1⟩
      obtain ⟨u0, hu0⟩ := hc0
      obtain ⟨b, o, spot⟩ := a
      have hspot : spot = none := by simpa using World.cell?_spot hu0
      subst hspot
      refine ⟨b, o, rfl, World.block_lt_of_cell? w _ hu0, fun j u hu => ?_⟩
      have := hr j u hu
      rw [Nat.zero_mul, Nat.zero_add, add_at] at this
      exact this
end

/-! ### The form's own bound -/
theorem all_append {p : Nat → Bool} {a b : List Nat} (h : (a ++ b).all p = true) : a.all p = true ∧ b.all p = true := by
  rw [List.all_append, Bool.and_eq_true] at h; exact h
theorem weights_slice {H : Type} {P : Program} {t e : TypeId} {es sp : List (DataW H)} (ht : P.underlying t = some (.slice e)) (h : (DataW.weights P t (.slice es sp)).all (· ≤ reachBytes) = true) :
    (es.length + sp.length) * P.bytesOf e ≤ reachBytes ∧ ∀ d ∈ es, (d.weights P e).all (· ≤ reachBytes) = true := by
  simp only [DataW.weights, ht, List.all_cons, Bool.and_eq_true] at h
  obtain ⟨h1, h2⟩ := h
  refine ⟨by simpa using h1, ?_⟩
  obtain ⟨h3, _⟩ := all_append h2
  clear h1 h2
  induction es with
  | nil => intro d hd; cases hd
  | cons d0 es ih =>
    simp only [DataW.weightsAll] at h3
    obtain ⟨h4, h5⟩ := all_append h3
    intro d hd
    rcases List.mem_cons.1 hd with rfl | hd
    · exact h4
    · exact ih h5 d hd
theorem weights_first {H : Type} {P : Program} {t : TypeId} {ts : List TypeId} {d : DataW H} {ds : List (DataW H)} (h : (DataW.weightsEach P (t :: ts) (d :: ds)).all (· ≤ reachBytes) = true) :
    (d.weights P t).all (· ≤ reachBytes) = true ∧ (DataW.weightsEach P ts ds).all (· ≤ reachBytes) = true := by
  simp only [DataW.weightsEach] at h
  exact all_append h
end Go.Proofs.YtfkklcmepcocoaaGreatDoor

namespace Go.Proofs.YtfkklcmepcocoaaGreatDoor
open Go.RowKit Go.ChangeShapes Go.WideShapes Go.ChangeAt
set_option linter.unusedVariables false

def WordV (b : Int) : Prop := 0 ≤ b ∧ b < 18446744073709551616
/-- A row as it lies in memory: its text, its slice, and the points that this reads as. -/
structure RowD where
  s : ByteArray
  A : Option Addr
  n : Nat
  c : Nat
  ps : List (Int × Int)

def RowsIn (w : World) (B : Nat) (A : Option Addr) (n : Nat) (rs : List RowD) : Prop :=
  Rd w B 2 A n (rs.flatMap fun r => [.string r.s, .slice r.A r.n r.c]) ∧ ∀ r ∈ rs, Rd w B 2 r.A r.n (r.ps.flatMap fun p => [.int .i64 p.1, .int .u64 p.2])
theorem RowsIn.len {w : World} {B n : Nat} {A : Option Addr} {rs : List RowD} (h : RowsIn w B A n rs) : rs.length = n := by
  have := h.1.1; rw [flat_len _ 2 (fun _ => rfl)] at this; omega
theorem RowsIn.plen {w : World} {B n : Nat} {A : Option Addr} {rs : List RowD} (h : RowsIn w B A n rs) {r : RowD} (hr : r ∈ rs) : r.ps.length = r.n := by
  have := (h.2 r hr).1; rw [flat_len _ 2 (fun _ => rfl)] at this; omega

theorem cellsPoint : Tryz.prog.cellsOf 51 = 2 := by kernel_rfl
theorem cellsRow : Tryz.prog.cellsOf 37 = 2 := by kernel_rfl
theorem cellsPs : Tryz.prog.cellsOf 33 = 1 := by kernel_rfl
theorem cellsStr : Tryz.prog.cellsOf 9 = 1 := by kernel_rfl
theorem cellsInt : Tryz.prog.cellsOf 3 = 1 := by kernel_rfl
theorem cellsU64 : Tryz.prog.cellsOf 49 = 1 := by kernel_rfl
theorem bytesPoint : Tryz.prog.bytesOf 51 = 16 := by kernel_rfl
theorem bytesRow : 16 ≤ Tryz.prog.bytesOf 37 := by
  have : Tryz.prog.bytesOf 37 = 40 := by kernel_rfl
  omega

section
variable {H : Type} {enc : TypeId × Value → H} {w : World} {base : Nat} {spare : Nat → Bool} {held : Bool}
set_option maxRecDepth 100000 in
/-- A point's two cells. -/
theorem open_point {fuel : Nat} {cs : List Value} {x : DataW H × List MemPlace} (h : DataW.trod enc Tryz.prog w base spare held fuel 51 cs = some x) :
    ∃ p : Int × Int, cs = [.int .i64 p.1, .int .u64 p.2] ∧ WordV p.2 := by
  obtain ⟨y0, y1, n, rfl, hl, h0, h1⟩ := trod_struct2 Tryz.underlying51 h
  rw [cellsPoint] at hl
  match cs, hl with
  | [c0, c1], _ =>
    simp only [cellsInt, cellsU64, List.drop_zero, List.take_succ_cons, List.take_zero, List.drop_succ_cons] at h0 h1
    obtain ⟨a, e0, _, _⟩ := DataW.trod_int Tryz.underlying3 h0
    obtain ⟨b, e1, _, wb⟩ := DataW.trod_int Tryz.underlying49 h1
    simp only [List.cons.injEq, and_true] at e0 e1
    subst e0; subst e1
    refine ⟨(a, b), rfl, ?_⟩
    have : 0 ≤ b ∧ b ≤ 18446744073709551615 := by simpa [Lit.wf, IntKind.min, IntKind.max, IntKind.signed, IntKind.bits] using wb
    exact ⟨this.1, by dsimp only; omega⟩
set_option maxRecDepth 100000 in
/-- A slice of points, opened. -/
theorem open_points {fuel : Nat} {cs : List Value} {x : DataW H × List MemPlace} (h : DataW.trod enc Tryz.prog w base spare held fuel 33 cs = some x)
    (hw : (x.1.weights Tryz.prog 33).all (· ≤ reachBytes) = true) :
    ∃ (A : Option Addr) (n c : Nat) (ps : List (Int × Int)), cs = [.slice A n c] ∧ n ≤ 140737488351232 ∧ n ≤ c ∧ c ≤ maxLen ∧ Rd w w.heap.size 2 A n (ps.flatMap fun p => [.int .i64 p.1, .int .u64 p.2]) ∧ ∀ p ∈ ps, WordV p.2 := by
  obtain ⟨A, cap, ys, rfl, hc, hm, hys, hrd, hx⟩ := open_rd Tryz.underlying33 cellsPoint (by omega) h
  have hpts : ∃ ps : List (Int × Int), ys.map (·.1) = ps.map (fun p => [Value.int .i64 p.1, Value.int .u64 p.2]) ∧ ∀ p ∈ ps, WordV p.2 := by
    clear hx hrd hc h hw
    induction ys with
    | nil => exact ⟨[], rfl, by simp⟩
    | cons y ys ih =>
      obtain ⟨ps, e, hps⟩ := ih (fun z hz => hys z (by simp [hz]))
      obtain ⟨_, m, q, hq⟩ := hys y (by simp)
      obtain ⟨p, hp, hpw⟩ := open_point hq
      exact ⟨p :: ps, by simp [hp, e], by intro z hz; rcases List.mem_cons.1 hz with rfl | hz; exact hpw; exact hps z hz⟩
  obtain ⟨ps, e, hps⟩ := hpts
  refine ⟨A, ys.length, cap, ps, rfl, ?_, hc, hm, ?_, hps⟩
  · rcases hx with ⟨_, rfl⟩ | ⟨sp, hx⟩
    · simp
    · rw [hx] at hw
      have := (weights_slice Tryz.underlying33 hw).1
      rw [bytesPoint] at this
      simp only [List.length_map, reachBytes] at this
      omega
  · have : ys.flatMap (·.1) = ps.flatMap (fun p => [Value.int .i64 p.1, Value.int .u64 p.2]) := by
      rw [List.flatMap_def, List.flatMap_def, e]
    rw [← this]; exact hrd
set_option maxRecDepth 100000 in
/-- A slice of rows, opened. -/
theorem open_rows {fuel : Nat} {cs : List Value} {x : DataW H × List MemPlace} (h : DataW.trod enc Tryz.prog w base spare held fuel 22 cs = some x)
    (hw : (x.1.weights Tryz.prog 22).all (· ≤ reachBytes) = true) :
    ∃ (A : Option Addr) (n c : Nat) (rs : List RowD), cs = [.slice A n c] ∧ n ≤ 140737488351232 ∧ RowsIn w w.heap.size A n rs ∧ (∀ r ∈ rs, r.n ≤ 140737488351232) ∧ ∀ r ∈ rs, ∀ p ∈ r.ps, WordV p.2 := by
  obtain ⟨A, cap, ys, rfl, hc, hm, hys, hrd, hx⟩ := open_rd Tryz.underlying22 cellsRow (by omega) h
  have hyw : ∀ y ∈ ys, (y.2.weights Tryz.prog 37).all (· ≤ reachBytes) = true := by
    rcases hx with ⟨_, rfl⟩ | ⟨sp, hx⟩
    · simp
    · rw [hx] at hw
      intro y hy
      exact (weights_slice Tryz.underlying22 hw).2 y.2 (List.mem_map_of_mem hy)
  have hrows : ∃ rs : List RowD, ys.map (·.1) = rs.map (fun r => [Value.string r.s, Value.slice r.A r.n r.c]) ∧ (∀ r ∈ rs, Rd w w.heap.size 2 r.A r.n (r.ps.flatMap fun p => [.int .i64 p.1, .int .u64 p.2])) ∧ (∀ r ∈ rs, r.n ≤ 140737488351232) ∧ ∀ r ∈ rs, ∀ p ∈ r.ps, WordV p.2 := by
    clear hx hrd hc hw h
    induction ys with
    | nil => exact ⟨[], rfl, by simp, by simp, by simp⟩
    | cons y ys ih =>
      obtain ⟨rs, e, i1, i2, i3⟩ := ih (fun z hz => hys z (by simp [hz])) (fun z hz => hyw z (by simp [hz]))
      obtain ⟨hl, m, q, hq⟩ := hys y (by simp)
      have hyw0 := hyw y (by simp)
      obtain ⟨yc, yd⟩ := y
      dsimp only at hl hq hyw0
      obtain ⟨y0, y1, k, hd, hl', h0, h1⟩ := trod_struct2 Tryz.underlying37 hq
      simp only [Prod.mk.injEq] at hd
      obtain ⟨rfl, _⟩ := hd
      match yc, hl with
      | [c0, c1], _ =>
        simp only [cellsStr, cellsPs, List.drop_zero, List.take_succ_cons, List.take_zero, List.drop_succ_cons] at h0 h1
        obtain ⟨s, e0, _, _⟩ := DataW.trod_string Tryz.underlying9 h0
        have hw1 : (y1.1.weights Tryz.prog 33).all (· ≤ reachBytes) = true := by
          have h2 : (DataW.weightsEach Tryz.prog [9, 33] [y0.1, y1.1]).all (· ≤ reachBytes) = true := by
            simpa [DataW.weights, Tryz.underlying37] using hyw0
          exact (weights_first (weights_first h2).2).1
        obtain ⟨A', n', c', ps, e1, hn', _, _, hr', hp'⟩ := open_points h1 hw1
        simp only [List.cons.injEq, and_true] at e0 e1
        subst e0; subst e1
        refine ⟨⟨s, A', n', c', ps⟩ :: rs, by simp [e], ?_, ?_, ?_⟩
        · intro r hr; rcases List.mem_cons.1 hr with rfl | hr; exact hr'; exact i1 r hr
        · intro r hr; rcases List.mem_cons.1 hr with rfl | hr; exact hn'; exact i2 r hr
        · intro r hr; rcases List.mem_cons.1 hr with rfl | hr; exact hp'; exact i3 r hr
  obtain ⟨rs, e, i1, i2, i3⟩ := hrows
  refine ⟨A, ys.length, cap, rs, rfl, ?_, ⟨?_, i1⟩, i2, i3⟩
  · rcases hx with ⟨_, rfl⟩ | ⟨sp, hx⟩
    · simp
    · rw [hx] at hw
      have h1 := (weights_slice Tryz.underlying22 hw).1
      have h2 := Nat.mul_le_mul_left ((ys.map (·.2)).length + sp.length) bytesRow
      simp only [List.length_map, reachBytes] at h1 h2
      omega
  · have : ys.flatMap (·.1) = rs.flatMap (fun r => [Value.string r.s, Value.slice r.A r.n r.c]) := by
      rw [List.flatMap_def, List.flatMap_def, e]
    rw [← this]; exact hrd
end
/-- Rows, opened: names and points. -/
theorem open_rowsV {H : Type} {enc : TypeId × Value → H} {w : World} {base : Nat} {spare : Nat → Bool} {held : Bool} {fuel : Nat} {cs : List Value} {x : DataW H × List MemPlace} (h : DataW.trod enc Tryz.prog w base spare held fuel 22 cs = some x)
    (hw : (x.1.weights Tryz.prog 22).all (· ≤ reachBytes) = true) :
    ∃ (A : Option Addr) (n c : Nat) (rows : List RowV), cs = [.slice A n c] ∧ n ≤ 140737488351232 ∧ (∀ r ∈ rows, r.pts.length ≤ 140737488351232) ∧ True ∧ RowsRd w w.heap.size A n rows ∧ ∀ r ∈ rows, ∀ p ∈ r.pts, WordV p.2 := by
  obtain ⟨A, n, c, rs, e, hn, hin, hl, hp⟩ := open_rows h hw
  refine ⟨A, n, c, rs.map fun r => ⟨r.s.data.toList, r.ps, .slice r.A r.n r.c⟩, e, hn, ?_, trivial, ⟨?_, ?_⟩, ?_⟩
  · intro r hr
    obtain ⟨d, hd, rfl⟩ := List.mem_map.1 hr
    show d.ps.length ≤ _
    rw [hin.plen hd]; exact hl d hd
  · have : rowC (rs.map fun r => ⟨r.s.data.toList, r.ps, .slice r.A r.n r.c⟩) = rs.flatMap fun r => [.string r.s, .slice r.A r.n r.c] := by
      unfold rowC
      rw [List.flatMap_map]
      rfl
    rw [this]
    exact hin.1
  · intro r hr
    obtain ⟨d, hd, rfl⟩ := List.mem_map.1 hr
    have := hin.plen hd
    exact ⟨d.A, d.c, by show Value.slice d.A d.n d.c = .slice d.A d.ps.length d.c; rw [this], by show Rd w w.heap.size 2 d.A d.ps.length _; rw [this]; exact hin.2 d hd⟩
  · intro r hr
    obtain ⟨d, hd, rfl⟩ := List.mem_map.1 hr
    exact hp d hd
end Go.Proofs.YtfkklcmepcocoaaGreatDoor
