/- tidegaugelaw2.blocked: the closed fact of a block of one point. -/
import Derived.Test.YtfkklcmepcocoaaGreatDoorMkg
import Derived.Test.YtfkklcmepcocoaaGreatDoorBlkMakeQ
import Derived.Test.YtfkklcmepcocoaaGreatDoorMkh
import Derived.Deep.RegionHeld3
import Derived.Deep.Light
namespace Go.Proofs.YtfkklcmepcocoaaGreatDoor
open Go.RowKit
set_option linter.unusedVariables false

/-- What block.Make and block.Check ask of the world. -/
structure BlkW (es : Nat → Addr) (B : Nat) (w : World) : Prop where
  s : SBk es B w
  t : TabAt w
  tb : 18 < B
  b0 : B ≤ w.heap.size
theorem BlkW.below {es : Nat → Addr} {B C : Nat} {w w' : World} (h : BlkW es B w) (hb : Below C w w') (hC : B ≤ C) : BlkW es B w' :=
  ⟨h.s.below hb hC, h.t.below hb (Nat.lt_of_lt_of_le h.tb hC), h.tb, Nat.le_trans h.b0 hb.size⟩
def oneRow (v : Value) : RowV := ⟨[110, 61, 97], [(3, 7)], v⟩
theorem one_make : makeR 0 10 [([110, 61, 97], [(3, 7)])] = ((0, -1), [([110, 61, 97], chunkL [(3, 7)])]) := by decide +kernel
theorem one_rows : rowsR 0 10 [[110, 61, 97]] [chunkL [(3, 7)]] = ((0, -1), [([110, 61, 97], [(3, 7)])]) := by decide +kernel
theorem one_len : (chunkL [(3, 7)]).length ≤ 100000 ∧ ∀ b ∈ chunkL [(3, 7)], b < 256 := by decide +kernel
set_option maxHeartbeats 4000000 in
set_option maxRecDepth 100000 in
theorem blocked_any {es : Nat → Addr} {B : Nat} (w : World) (hW : BlkW es B w) :
    Calls Tryz.prog 9 #[] w fun e w' => e = .returned (.bool true) ∧ Below w.heap.size w w' := by
  have HW := Lib.hid (fun W (hb : Below w.heap.size w W) => hW.below hb hW.b0)
  have hb1 : Below w.heap.size w (w.alloc (.cells #[.int .i64 3, .int .u64 7] 51)) := Below.alloc (Below.refl _ _) (Nat.le_refl _) _
  have hb2 : Below w.heap.size w ((w.alloc (.cells #[.int .i64 3, .int .u64 7] 51)).alloc (.cells #[.string (B8 [110, 61, 97]), .slice (some ⟨w.heap.size, 0, none⟩) 1 1] 37)) := Below.alloc hb1 hb1.size _
  have hr1 := rd_new2 w 51 (.int .i64 3) (.int .u64 7)
  have hr2 := rd_new2 (w.alloc (.cells #[.int .i64 3, .int .u64 7] 51)) 37 (.string (B8 [110, 61, 97])) (.slice (some ⟨w.heap.size, 0, none⟩) 1 1)
  have hrr : RowsRd ((w.alloc (.cells #[.int .i64 3, .int .u64 7] 51)).alloc (.cells #[.string (B8 [110, 61, 97]), .slice (some ⟨w.heap.size, 0, none⟩) 1 1] 37)) ((w.alloc (.cells #[.int .i64 3, .int .u64 7] 51)).alloc (.cells #[.string (B8 [110, 61, 97]), .slice (some ⟨w.heap.size, 0, none⟩) 1 1] 37)).heap.size (some ⟨w.heap.size + 1, 0, none⟩) 1 [oneRow (.slice (some ⟨w.heap.size, 0, none⟩) 1 1)] := by
    refine ⟨by rw [← World.size_alloc w (.cells #[.int .i64 3, .int .u64 7] 51)]; exact hr2, fun r hr => ?_⟩
    obtain rfl := List.mem_singleton.1 hr
    exact ⟨_, _, rfl, (hr1.alloc (Nat.le_refl _) _).more (by simp)⟩
  have Hmk := Lib.hid (make_any 0 10 (some ⟨w.heap.size + 1, 0, none⟩) 1 1 [oneRow (.slice (some ⟨w.heap.size, 0, none⟩) 1 1)] _ (hW.below hb2 hW.b0).s (hW.below hb2 hW.b0).t (hW.below hb2 hW.b0).b0 hrr (by decide) (fun r hr => by
    obtain rfl := List.mem_singleton.1 hr
    exact ⟨by show 3 ≤ 100000; decide, fun p hp => by obtain rfl : p = (3, 7) := List.mem_singleton.1 hp; decide⟩))
  rw [show [oneRow (.slice (some ⟨w.heap.size, 0, none⟩) 1 1)].map rowP2 = [([110, 61, 97], [(3, 7)])] from rfl, one_make] at Hmk
  have HB2 := Lib.hid hb2
  clear hW hb1 hb2 hr1 hr2 hrr
  go_enter Tryz.func9, Tryz.ntmps9
  go_wp2_with fail
  refine Hmk.out.mono ?_
  rintro e w3 ⟨v, f', s', u1, u2, rfl, hev, _, h0, hp, hb3⟩
  obtain ⟨rfl, rfl⟩ := h0 rfl
  obtain rfl := hev.zero rfl
  obtain ⟨A1, c1, rfl, _, _, hr1⟩ := own_form hp.l
  obtain ⟨A2, c2, rfl, _, _, hr2⟩ := own_form hp.r
  have HB3 := Lib.hid (Below.call HB2.out hb3 HB2.out.size)
  have hba : Below w.heap.size w (w3.alloc (.cells #[.int .i64 0, .int .i64 10, .slice A1 1 c1, .slice A2 1 c2] 27)) := Below.alloc HB3.out HB3.out.size _
  have Hck := Lib.hid (bcheck_any 0 10 A1 A2 1 c1 1 c2 [[110, 61, 97]] [chunkL [(3, 7)]] _ (HW.out _ hba).s (HW.out _ hba).t (HW.out _ hba).tb (HW.out _ hba).b0 ((hr1.alloc (Nat.le_refl _) _).more (by simp)) ((hr2.alloc (Nat.le_refl _) _).more (by simp)) (fun s hs => by obtain rfl := List.mem_singleton.1 hs; decide) (fun x hx => by obtain rfl := List.mem_singleton.1 hx; exact one_len))
  rw [one_rows] at Hck
  have HBa := Lib.hid hba
  have hk := Blk.new w3 27 #[.int .i64 0, .int .i64 10, .slice A1 1 c1, .slice A2 1 c2]
  have e0 := hk.cell 0; have e1 := hk.cell 1; have e2 := hk.cell 2; have e3 := hk.cell 3
  clear hev h0 hp hb3 hr1 hr2 hba hk
  simp only [List.length_singleton]
  go_wp2_with fail
  refine Hck.out.mono ?_
  rintro e w4 ⟨v, rfl, hev, hb4⟩
  obtain rfl := hev.zero rfl
  have HB4 := Lib.hid (Below.call HBa.out hb4 HBa.out.size)
  clear hev hb4
  go_wp2
  go_ret
  exact ⟨rfl, HB4.out⟩
end Go.Proofs.YtfkklcmepcocoaaGreatDoor

namespace Go.Proofs.YtfkklcmepcocoaaGreatDoor
open Go.RowKit
set_option linter.unusedVariables false

theorem RowsRd.of_own {w' : World} {base : Nat} {Au : Option Addr} {m cu : Nat} {ls : List RowV} (hown : w'.ownsRow base 37 2 (.slice Au m cu) m (rowC ls)) (hro : RowsOwn base w' ls) : RowsRd w' w'.heap.size Au m ls :=
  ⟨Rd.of_own hown, fun r hr => by
    obtain ⟨A', c', e, _, _, hrd⟩ := own_form (hro r hr)
    exact ⟨A', c', e, hrd⟩⟩
theorem txS_nms (K : List (Bs × List Nat)) : txS K = (nmsOf K).map fun s => .string (B8 s) := by unfold txS nmsOf; rw [List.map_map]; rfl
theorem chS_chs (K : List (Bs × List Nat)) : chS K = (chsOf K).map fun x => .string (bytesOf x) := by unfold chS chsOf; rw [List.map_map]; rfl
theorem txS_str (K : List (Bs × List Nat)) : txS K = ((nmsOf K).map B8).map Value.string := by rw [txS_nms, List.map_map]; rfl
theorem chS_str (K : List (Bs × List Nat)) : chS K = ((chsOf K).map bytesOf).map Value.string := by rw [chS_chs, List.map_map]; rfl
theorem encR_len (rows : List Rw) : (encR rows).length = rows.length := List.length_map _
theorem encR_names {rows : List Rw} {q : Nat} (h : ∀ r ∈ rows, r.1.length ≤ q) : ∀ s ∈ nmsOf (encR rows), s.length ≤ q := by
  intro s hs
  unfold nmsOf encR at hs
  rw [List.map_map] at hs
  obtain ⟨r, hr, rfl⟩ := List.mem_map.1 hs
  exact h r hr
theorem browP_len (l : List (Int × Int)) (hn : l.length ≤ 120) (hl : ∀ p ∈ l, 0 ≤ p.2 ∧ p.2 < 18446744073709551616) : 8 ≤ (rowP l).length ∧ (rowP l).length ≤ 39000 := by
  have h := ticksBits_le (tsOf l)
  have h2 : (tsOf l).length = l.length := List.length_map _
  have h3 := sumN_mP (vsOf l) (vsOf l).length (vsOf_lt hl) (Nat.le_refl _)
  have h4 : (vsOf l).length = l.length := List.length_map _
  have h5 : (maskB (vsOf l)).length ≤ 256 * (vsOf l).length := h3
  rw [h2] at h
  rw [h4] at h5
  unfold rowP
  rw [List.length_append, List.length_append, bitsN_len]
  omega
theorem bchunk_len (l : List (Int × Int)) (hn : l.length ≤ 120) (hl : ∀ p ∈ l, 0 ≤ p.2 ∧ p.2 < 18446744073709551616) : (chunkL l).length ≤ 100000 := by
  have h := browP_len l hn hl
  unfold chunkL
  rw [seal_len, packN_len]
  omega
/-- What Make's rows give. -/
structure Back (fr sp : Int) (L : List Rw) : Prop where
  bd : bndB fr sp = true
  n60 : L.length ≤ 60
  mke : makeR fr sp L = ((0, -1), encR L)
  rd : rowsR fr sp (nmsOf (encR L)) (chsOf (encR L)) = ((0, -1), L)
  ok : RowsOk fr (fr + sp) L
  ne : ∀ r ∈ L, r.2 ≠ []
  nm : ∀ r ∈ L, r.1.length ≤ 200
  vl : ∀ r ∈ L, ∀ p ∈ r.2, 0 ≤ p.2 ∧ p.2 < 18446744073709551616
theorem Back.of {fr sp : Int} {L : List Rw} (h : (makeR fr sp L).1.1 = 0) (hn : ∀ r ∈ L, r.1.length ≤ 200) (hv : ∀ r ∈ L, ∀ p ∈ r.2, 0 ≤ p.2 ∧ p.2 < 18446744073709551616) : Back fr sp (keepR L) ∧ makeR fr sp L = ((0, -1), encR (keepR L)) := by
  obtain ⟨h1, h2, h3, h4⟩ := makeR_inv h
  have hl : (keepR L).length ≤ 60 := Nat.le_trans (keep_len L) h2
  have hne : ∀ r ∈ keepR L, r.2 ≠ [] := fun r hr => by simpa using (List.mem_filter.1 hr).2
  have hv' : ∀ r ∈ keepR L, ∀ p ∈ r.2, 0 ≤ p.2 ∧ p.2 < 18446744073709551616 := fun r hr => hv r (List.mem_filter.1 hr).1
  exact ⟨⟨h1, hl, by rw [makeR_ok h1 hl h3.keep, keep_keep], rowsR_enc h1 hl h3.keep hne hv', h3.keep, hne, fun r hr => hn r (List.mem_filter.1 hr).1, hv'⟩, h4⟩
theorem Back.row {fr sp : Int} {L : List Rw} (h : Back fr sp L) {r : Rw} (hr : r ∈ L) : r.2.length ≤ 120 ∧ 1 ≤ r.2.length :=
  ⟨(ptF_zero.1 (h.ok.1 r hr).2.1).1, List.length_pos_iff.2 (h.ne r hr)⟩
theorem Back.names {fr sp : Int} {L : List Rw} (h : Back fr sp L) : ∀ s ∈ nmsOf (encR L), s.length ≤ 100000 := encR_names fun r hr => Nat.le_trans (h.nm r hr) (by decide)
theorem Back.chunks {fr sp : Int} {L : List Rw} (h : Back fr sp L) : ∀ x ∈ chsOf (encR L), x.length ≤ 100000 ∧ ∀ b ∈ x, b < 256 := by
  intro x hx
  unfold chsOf encR at hx
  rw [List.map_map] at hx
  obtain ⟨r, hr, rfl⟩ := List.mem_map.1 hx
  exact ⟨bchunk_len r.2 (h.row hr).1 (h.vl r hr), chunkL_256 r.2⟩
theorem Back.at {fr sp : Int} {L : List Rw} (h : Back fr sp L) {k : Nat} {r : Rw} (hr : L[k]? = some r) : betL fr (fr + sp - 1) (ptsOf L r.1) = r.2 := by
  rw [ptsOf_at h.ok.2 hr]
  exact bet_all (h.ok.1 r (List.mem_of_getElem? hr)).2.2
set_option maxHeartbeats 8000000 in
set_option maxRecDepth 100000 in
theorem blockBack_law {es : Nat → Addr} {B : Nat} (A : Option Addr) (n c : Nat) (rows : List RowV) (fr sp : Int) (w : World) (hW : BlkW es B w) (hA : RowsRd w w.heap.size A n rows) (hn : n ≤ 140737488351232) (hp : ∀ r ∈ rows, r.pts.length ≤ 140737488351232) (hv : ∀ r ∈ rows, ∀ p ∈ r.pts, 0 ≤ p.2 ∧ p.2 < 18446744073709551616) :
    Calls Tryz.prog 3 #[.slice A n c, .int .i64 fr, .int .i64 sp] w fun e w' => e = .returned (.bool true) ∧ Below w.heap.size w w' := by
  have HW := Lib.hid (fun W (hb : Below w.heap.size w W) => hW.below hb hW.b0)
  have HA := Lib.hid (fun W (hb : Below w.heap.size w W) => (hA.below hb (Nat.le_refl _)).more hb.size)
  have Hbl := Lib.hid (blocked_any w hW)
  have Hv := Lib.hid hv; have Hp := Lib.hid hp
  obtain ⟨L0, hL0⟩ : ∃ L0, L0 = rows.map rowP2 := ⟨_, rfl⟩
  have HL0 := Lib.hid hL0
  obtain ⟨i0, hi, hz0, hz1, hz2⟩ := info_parts infoRow
  have Hi := Lib.hid hi; have Hz0 := Lib.hid hz0; have Hz1 := Lib.hid hz1; have Hz2 := Lib.hid hz2
  clear hi hz0 hz1 hz2 hW hA hv hp hL0
  go_enter Tryz.func3, Tryz.ntmps3
  go_wp2_with fail
  refine Hbl.out.mono ?_
  rintro e w1 ⟨rfl, hb⟩
  have HB1 := Lib.hid hb
  clear hb
  go_wp2_with fail
  refine (long_any A n c rows _ (HA.out _ HB1.out) hn Hp.out).mono ?_
  rintro e w2 ⟨b, rfl, hlong, hb⟩
  have HB2 := Lib.hid (Below.call HB1.out hb HB1.out.size)
  clear hb
  cases b
  case true =>
    clear hlong
    go_wp2
    go_ret
    exact ⟨rfl, HB2.out⟩
  obtain ⟨hn70, hrow⟩ := hlong rfl
  have Hrow := Lib.hid hrow
  clear hlong hrow
  go_wp2_with fail
  refine (ownRows_any A n c rows _ (HA.out _ HB2.out) hn70 (fun r hr => (Hrow.out r hr).2)).mono ?_
  rintro e w3 ⟨u, ls, rfl, hown, hro, hmap, hb⟩
  obtain ⟨Au, cu, rfl, _, _, _⟩ := own_form hown
  have HB3 := Lib.hid (Below.call HB2.out hb HB2.out.size)
  have hm70 : ls.length ≤ 70 := by
    have e := congrArg List.length hmap
    rw [List.length_map, List.length_map, (HA.out _ HB1.out).len] at e
    omega
  have hmap' : ls.map rowP2 = L0 := by rw [HL0.out]; exact hmap
  have Hin := Lib.hid (show (∀ r ∈ L0, r.1.length ≤ 200) ∧ ∀ r ∈ L0, ∀ p ∈ r.2, 0 ≤ p.2 ∧ p.2 < 18446744073709551616 by
    rw [HL0.out]
    refine ⟨fun r hr => ?_, fun r hr => ?_⟩
    · obtain ⟨q, hq, rfl⟩ := List.mem_map.1 hr
      exact (Hrow.out q hq).1
    · obtain ⟨q, hq, rfl⟩ := List.mem_map.1 hr
      exact Hv.out q hq)
  have Hmk := Lib.hid (make_any fr sp Au ls.length cu ls w3 (HW.out _ HB3.out).s (HW.out _ HB3.out).t (HW.out _ HB3.out).b0 (RowsRd.of_own hown hro) (by omega) (fun r hr => by
    have hr' : rowP2 r ∈ L0 := by rw [← hmap']; exact List.mem_map.2 ⟨r, hr, rfl⟩
    exact ⟨Nat.le_trans (Hin.out.1 _ hr') (by decide), Hin.out.2 _ hr'⟩))
  rw [hmap'] at Hmk
  obtain ⟨lm, hlm⟩ : ∃ lm, lm = ls.length := ⟨_, rfl⟩
  rw [← hlm] at Hmk
  simp only [← hlm]
  clear hown hro hmap hmap' hb hm70 hlm
  go_wp2_with fail
  refine Hmk.out.mono ?_
  rintro e w4 ⟨v, f', s', u1, u2, rfl, hev, hbad, hgood, hpr, hb⟩
  obtain ⟨A1, c1, rfl, _, _, _⟩ := own_form hpr.l
  obtain ⟨A2, c2, rfl, _, _, _⟩ := own_form hpr.r
  have HB4 := Lib.hid (Below.call HB3.out hb HB3.out.size)
  clear hb Hmk
  by_cases h0 : (makeR fr sp L0).1.1 = 0
  case neg =>
    obtain ⟨t, p, rfl⟩ := hev.pos h0
    obtain ⟨rfl, rfl⟩ := hbad h0
    have hR := makeR_err h0
    rw [hR]
    have hk := Blk.new w4 27 #[.int .i64 0, .int .i64 0, .slice A1 0 c1, .slice A2 0 c2]
    have e2 := hk.cell 2
    have HBa := Lib.hid (Below.alloc HB4.out HB4.out.size (.cells #[.int .i64 0, .int .i64 0, .slice A1 0 c1, .slice A2 0 c2] 27))
    clear hev hbad hgood hpr h0 hR hk
    simp only [List.length_nil]
    go_wp2
    go_ret
    exact ⟨rfl, HBa.out⟩
  obtain ⟨hbk, hmk⟩ := Back.of h0 Hin.out.1 Hin.out.2
  obtain ⟨hf1, hf2⟩ := hgood h0
  have hf1 := hf1.symm
  have hf2 := hf2.symm
  subst hf1
  subst hf2
  rw [hmk] at hev hpr ⊢
  obtain rfl := hev.zero rfl
  dsimp only at hpr ⊢
  obtain ⟨L, hL⟩ : ∃ L, L = keepR L0 := ⟨_, rfl⟩
  rw [← hL] at hbk hpr ⊢
  obtain ⟨m, hm⟩ : ∃ m, m = (encR L).length := ⟨_, rfl⟩
  rw [← hm] at hpr ⊢
  have hm60 : m ≤ 60 := by rw [hm, encR_len]; exact hbk.n60
  have Hm := Lib.hid (hm.trans (encR_len L))
  have Hbk := Lib.hid hbk
  clear hev hbad hgood h0 hmk hbk hm hL Hin HL0 Hp Hrow
  have HBa := Lib.hid (Below.alloc HB4.out HB4.out.size (.cells #[.int .i64 fr, .int .i64 sp, .slice A1 m c1, .slice A2 m c2] 27))
  have HKa := Lib.hid (Blk.new w4 27 #[.int .i64 fr, .int .i64 sp, .slice A1 m c1, .slice A2 m c2])
  have HPa := Lib.hid (hpr.fr ((Fr.refl _ w4).alloc (.cells #[.int .i64 fr, .int .i64 sp, .slice A1 m c1, .slice A2 m c2] 27)))
  clear hpr
  go_wp2
  obtain ⟨g, hg⟩ : ∃ g, g = w4.heap.size := ⟨_, rfl⟩
  rw [← hg] at HKa ⊢
  have Hg := Lib.hid (show w.heap.size ≤ g by rw [hg]; exact HB4.out.size)
  generalize w4.alloc (.cells #[.int .i64 fr, .int .i64 sp, .slice A1 m c1, .slice A2 m c2] 27) = wa at HBa HKa HPa ⊢
  clear hg
  go_loopw [10, 11] (fun ov iv wr => ∃ (k : Nat) (ls : List RowV), k ≤ m ∧ iv = .int .i64 k ∧ wr.ownsRow w.heap.size 37 2 ov k (rowC ls) ∧ ls.length = k ∧ RowsOwn w.heap.size wr ls ∧ ls.map rowP2 = L.take k ∧ Below w.heap.size w wr ∧ Blk wr g 27 #[.int .i64 fr, .int .i64 sp, .slice A1 m c1, .slice A2 m c2] ∧
    Pair wr w3.heap.size 9 (.slice A1 m c1) m (txS (encR L)) (.slice A2 m c2) m (chS (encR L))) (fun _ iv _ => m - (intOf iv).toNat)
  case atStart => exact ⟨0, [], Nat.zero_le _, rfl, World.ownsRow_nil _ _ _ _, rfl, RowsOwn.nil _ _, rfl, HBa.out, HKa.out, HPa.out⟩
  case round =>
    obtain ⟨k, ls, hk, rfl, hown, hll, hro, hmap, hb, hkb, hpp⟩ := hrel
    obtain ⟨Ao, co, rfl, _, _, _⟩ := own_form hown
    have Hown := Lib.hid hown; have Hro := Lib.hid hro; have Hmap := Lib.hid hmap; have HB := Lib.hid hb; have HK := Lib.hid hkb; have HP := Lib.hid hpp; have Hll := Lib.hid hll
    clear hown hro hmap hb hpp hll
    have q0 := hkb.cell 0; have q1 := hkb.cell 1; have q2 := hkb.cell 2; have q3 := hkb.cell 3
    clear hkb
    by_cases hkm : k < m
    · have hkm' : (k : Int) < m := by omega
      obtain ⟨b1, o1, s, hA1, had1, hs, x0⟩ := (show Rd wr wr.heap.size 1 A1 m ((nmsOf (encR L)).map fun s => Value.string (B8 s)) by rw [← txS_nms]; exact Rd.of_own HP.out.l).at1 hkm
      subst hA1
      obtain ⟨r, hr⟩ : ∃ r, L[k]? = some r := ⟨_, List.getElem?_eq_getElem (by rw [← Hm.out]; exact hkm)⟩
      have hsr : s = r.1 := by
        have e := hs
        unfold nmsOf encR at e
        rw [List.map_map, List.getElem?_map, hr] at e
        exact (Option.some.inj e).symm
      subst hsr
      have Hr := Lib.hid hr
      have hr120 := (Hbk.out.row (List.mem_of_getElem? hr))
      have Hat := Lib.hid (Hbk.out.at hr)
      have hbs : 1 ≤ sp ∧ sp ≤ 100000 ∧ -1099511627776 ≤ fr ∧ fr ≤ 1099511627776 := by simpa [bndB] using Hbk.out.bd
      have hw1 : IntKind.i64.wrap (fr + sp) = fr + sp := by rw [IntKind.wrap_i64]; omega
      have hw2 : IntKind.i64.wrap (fr + sp - 1) = fr + sp - 1 := by rw [IntKind.wrap_i64]; omega
      have Hpc := Lib.hid (fun W (hb : Below w.heap.size w W) (hP : Pair W w3.heap.size 9 (.slice (some ⟨b1, o1, none⟩) m c1) m (txS (encR L)) (.slice A2 m c2) m (chS (encR L))) =>
        bpts_any fr sp (some ⟨b1, o1, none⟩) A2 m c1 m c2 (nmsOf (encR L)) (chsOf (encR L)) r.1 fr (fr + sp - 1) W (HW.out _ hb).s (HW.out _ hb).t (HW.out _ hb).tb (HW.out _ hb).b0 (by rw [← txS_nms]; exact Rd.of_own hP.l) (by rw [← chS_chs]; exact Rd.of_own hP.r) Hbk.out.names Hbk.out.chunks)
      rw [Hbk.out.rd] at Hpc
      dsimp only at Hpc
      rw [Hat.out] at Hpc
      have HPd := Lib.hid (HP.out.fr (Fr.refl _ wr).drew)
      have HBd := Lib.hid (show Below w.heap.size w wr.drew from HB.out.drew)
      have Hkd := Lib.hid (show (fun w' : World => w'.cell? ⟨g, 0, none⟩ = some (.int .i64 fr) ∧ w'.cell? ⟨g, 1, none⟩ = some (.int .i64 sp) ∧ w'.cell? ⟨g, 2, none⟩ = some (.slice (some ⟨b1, o1, none⟩) m c1) ∧ w'.cell? ⟨g, 3, none⟩ = some (.slice A2 m c2) ∧ w'.cell? ⟨b1, o1 + k, none⟩ = some (.string (B8 r.1))) wr.drew from ⟨q0, q1, q2, q3, x0⟩)
      have hgl := HK.out.lt
      have Hkb := Lib.hid (fun w6 (hb : Below wr.drew.heap.size wr.drew w6) => show (fun w' : World => w'.cell? ⟨g, 0, none⟩ = some (.int .i64 fr) ∧ w'.cell? ⟨g, 1, none⟩ = some (.int .i64 sp) ∧ w'.cell? ⟨g, 2, none⟩ = some (.slice (some ⟨b1, o1, none⟩) m c1) ∧ w'.cell? ⟨g, 3, none⟩ = some (.slice A2 m c2) ∧ w'.cell? ⟨b1, o1 + k, none⟩ = some (.string (B8 r.1))) w6 from
        ⟨(hb.cell (p := ⟨g, 0, none⟩) hgl).trans q0, (hb.cell (p := ⟨g, 1, none⟩) hgl).trans q1, (hb.cell (p := ⟨g, 2, none⟩) hgl).trans q2, (hb.cell (p := ⟨g, 3, none⟩) hgl).trans q3, (hb.cell (p := ⟨b1, o1 + k, none⟩) had1).trans x0⟩)
      obtain ⟨ps, hps⟩ : ∃ ps, r.2 = ps := ⟨_, rfl⟩
      rw [hps] at Hpc hr120
      have Hps := Lib.hid hps
      generalize hsn : B8 r.1 = sn at x0 Hpc Hkd Hkb
      have Hsn := Lib.hid hsn
      obtain ⟨pn, hpn⟩ : ∃ pn, pn = ps.length := ⟨_, rfl⟩
      clear hr hs hbs hps hsn Hat
      go_wp2
      go_region_held3 (fun w' => w'.cell? ⟨g, 0, none⟩ = some (.int .i64 fr) ∧ w'.cell? ⟨g, 1, none⟩ = some (.int .i64 sp) ∧ w'.cell? ⟨g, 2, none⟩ = some (.slice (some ⟨b1, o1, none⟩) m c1) ∧ w'.cell? ⟨g, 3, none⟩ = some (.slice A2 m c2) ∧ w'.cell? ⟨b1, o1 + k, none⟩ = some (.string sn))
        (first | with_reducible exact Hkd.out | with_reducible exact Hkb.out _ B6.out)
        (first | (go_at_call 13; refine (Hpc.out _ HBd.out HPd.out).mono ?_; rintro e6 w6 ⟨v6, u6, rfl, hev6, _, hown6, hb6⟩; obtain rfl := hev6.zero rfl; have B6 := Lib.hid hb6; have O6 := Lib.hid (hown6 rfl); obtain ⟨A6, c6, rfl, _, _, _⟩ := own_form O6.out; clear hb6 hev6 hown6))
      all_goals
        have HB6 := Lib.hid (HBd.out.trans (B6.out.mono (show w.heap.size ≤ wr.drew.heap.size from HB.out.size)))
        have HK6 := Lib.hid ((HK.out.drew).below B6.out (show g < wr.drew.heap.size from hgl))
        have HP6 := Lib.hid (HPd.out.fr (Fr.ofBel B6.out))
        have HO6 := Lib.hid (own_below (own_drew Hown.out) B6.out (Nat.le_refl _))
        have HR6 := Lib.hid ((Hro.out.below (Below.drew (Below.refl wr.heap.size wr)) (Nat.le_refl _)).below B6.out (Nat.le_refl _))
        have HRs := Lib.hid (HR6.out.snoc (r := ⟨r.1, ps, .slice A6 ps.length c6⟩) (own_base O6.out (show w.heap.size ≤ wr.drew.heap.size from HB.out.size)))
        have hne : ((ps.length : Int) == 0) = false := by rw [beq_eq_false_iff_ne]; omega
        obtain ⟨x0, q0, q1, q2, q3⟩ : w6.cell? ⟨b1, o1 + k, none⟩ = some (.string sn) ∧ w6.cell? ⟨g, 0, none⟩ = some (.int .i64 fr) ∧ w6.cell? ⟨g, 1, none⟩ = some (.int .i64 sp) ∧ w6.cell? ⟨g, 2, none⟩ = some (.slice (some ⟨b1, o1, none⟩) m c1) ∧ w6.cell? ⟨g, 3, none⟩ = some (.slice A2 m c2) := by
          obtain ⟨a1, a2, a3, a4, a5⟩ := Hkb.out _ B6.out
          exact ⟨a5, a1, a2, a3, a4⟩
        have HoA := Lib.hid (show (w6.alloc (.cells #[.string sn, .slice A6 ps.length c6] 37)).ownsRow w.heap.size 37 2 (.slice Ao k co) k (rowC ls) from HO6.out.alloc _)
        have HrA := Lib.hid (rd_new2 w6 37 (.string sn) (.slice A6 ps.length c6))
        have HzA := Lib.hid (show w.heap.size ≤ (w6.alloc (.cells #[.string sn, .slice A6 ps.length c6] 37)).heap.size by have := HB6.out.size; simp; omega)
        have HbA := Lib.hid (show Below w.heap.size w (w6.alloc (.cells #[.string sn, .slice A6 ps.length c6] 37)) from Below.alloc HB6.out HB6.out.size _)
        have HkA := Lib.hid (HK6.out.alloc (.cells #[.string sn, .slice A6 ps.length c6] 37))
        have HpA := Lib.hid (HRs.out.below (Below.alloc (Below.refl w6.heap.size w6) (Nat.le_refl _) (.cells #[.string sn, .slice A6 ps.length c6] 37)) (Nat.le_refl _))
        have HqA := Lib.hid (HP6.out.fr ((Fr.refl _ w6).alloc (.cells #[.string sn, .slice A6 ps.length c6] 37)))
        have hk63 : k + 1 ≤ maxLen := by unfold maxLen; omega
        have hk8 : (k + 1) * 40 ≤ 140737488355328 := by omega
        have Hone := Lib.hid (show ∀ u ∈ [Value.string sn, .slice A6 ps.length c6], u.oneCell' = true by rw [← Hsn.out]; exact row_one r.1 A6 ps.length c6)
        clear hpn hr120
        go_wp2_with (at_builtin; refine wpList_append_rd _ rfl (.tmp 66) (.tmp 74) _ rfl w.heap.size 37 i0 (.agg #[.string ⟨#[]⟩, .slice none 0 0]) 2 40 Tryz.underlying22 Hi.out Hz0.out Hz1.out Hz2.out rfl (by decide) (.slice Ao k co) k _ rfl HoA.out _ _ 1 1 [.string sn, .slice A6 ps.length c6] rfl HrA.out Hone.out hk63 hk8 HzA.out ?_; intro v' wb hown' hgr hat; have Hv' := Lib.hid hown'; have HBb := Lib.hid (Below.grown HbA.out hgr HzA.out (fun g hg => (own_lt HoA.out g hg).1)); have HPb := Lib.hid (HpA.out.after HoA.out hgr); have HKb := Lib.hid (HkA.out.grown hgr (own_ne_blk HoA.out HkA.out (by decide))); have HQb := Lib.hid (show Pair wb w3.heap.size 9 (.slice (some ⟨b1, o1, none⟩) m c1) m (txS (encR L)) (.slice A2 m c2) m (chS (encR L)) from ⟨own_after HqA.out.l HoA.out (by decide) hgr, own_after HqA.out.r HoA.out (by decide) hgr, HqA.out.ap⟩); clear hown' hgr hat)
        go_roundw
        case rel =>
          refine ⟨k + 1, ls ++ [⟨r.1, ps, .slice A6 ps.length c6⟩], by omega, by go_num, ?_, by rw [List.length_append, Hll.out]; rfl, HPb.out, ?_, HBb.out, HKb.out, HQb.out⟩
          · rw [rowC_snoc]
            have := Hv'.out
            rw [← Hsn.out] at this
            exact this
          · rw [List.map_append, Hmap.out, take_snoc Hr.out, ← Hps.out]; rfl
        case measure => simp [intOf]; omega
    · obtain rfl : k = m := by omega
      have hkm' : ¬ (k : Int) < k := by omega
      have hmap := Hmap.out
      rw [List.take_of_length_le (by rw [← Hm.out]; exact Nat.le_refl _)] at hmap
      have Hmk := Lib.hid (make_any fr sp Ao k co ls wr (HW.out _ HB.out).s (HW.out _ HB.out).t (HW.out _ HB.out).b0 (RowsRd.of_own Hown.out Hro.out) (by omega) (fun r hr => by
        have hr' : rowP2 r ∈ L := by rw [← hmap]; exact List.mem_map.2 ⟨r, hr, rfl⟩
        exact ⟨Nat.le_trans (Hbk.out.nm _ hr') (by decide), Hbk.out.vl _ hr'⟩))
      rw [hmap, Hbk.out.mke] at Hmk
      have hgl := HK.out.lt
      clear hmap
      go_wp2_with fail
      refine Hmk.out.mono ?_
      rintro e w5 ⟨v, f', s', u1, u2, rfl, hev, _, hgood, hpr, hb⟩
      obtain ⟨hf1, hf2⟩ := hgood rfl
      have hf1 := hf1.symm
      have hf2 := hf2.symm
      subst hf1
      subst hf2
      obtain rfl := hev.zero rfl
      dsimp only at hpr ⊢
      rw [encR_len, ← Hm.out] at hpr
      obtain ⟨A3, c3, rfl, _, _, _⟩ := own_form hpr.l
      obtain ⟨A4, c4, rfl, _, _, _⟩ := own_form hpr.r
      have HB5 := Lib.hid (Below.call HB.out hb HB.out.size)
      have HP5 := Lib.hid (HP.out.fr (Fr.ofBel hb))
      have HK5 := Lib.hid (HK.out.below hb hgl)
      have HPc := Lib.hid hpr
      clear hev hgood hpr hb Hmk
      have HBa5 := Lib.hid (Below.alloc HB5.out HB5.out.size (.cells #[.int .i64 fr, .int .i64 sp, .slice A3 k c3, .slice A4 k c4] 27))
      have HKa5 := Lib.hid (HK5.out.alloc (.cells #[.int .i64 fr, .int .i64 sp, .slice A3 k c3, .slice A4 k c4] 27))
      have HKc5 := Lib.hid (Blk.new w5 27 #[.int .i64 fr, .int .i64 sp, .slice A3 k c3, .slice A4 k c4])
      have HPa5 := Lib.hid (HP5.out.fr ((Fr.refl _ w5).alloc (.cells #[.int .i64 fr, .int .i64 sp, .slice A3 k c3, .slice A4 k c4] 27)))
      have HPc5 := Lib.hid (HPc.out.fr ((Fr.refl _ w5).alloc (.cells #[.int .i64 fr, .int .i64 sp, .slice A3 k c3, .slice A4 k c4] 27)))
      go_wp2
      obtain ⟨g2, hg2⟩ : ∃ g2, g2 = w5.heap.size := ⟨_, rfl⟩
      rw [← hg2] at HKc5 ⊢
      generalize w5.alloc (.cells #[.int .i64 fr, .int .i64 sp, .slice A3 k c3, .slice A4 k c4] 27) = wf at HBa5 HKa5 HKc5 HPa5 HPc5 ⊢
      clear hg2 q0 q1 q2 q3
      have hgf := HKa5.out.lt
      have hg2f := HKc5.out.lt
      have Hkb := Lib.hid (fun w6 (hb : Below wf.drew.heap.size wf.drew w6) => show (fun w' : World => w'.cell? ⟨g, 0, none⟩ = some (.int .i64 fr) ∧ w'.cell? ⟨g, 1, none⟩ = some (.int .i64 sp) ∧ w'.cell? ⟨g, 2, none⟩ = some (.slice A1 k c1) ∧ w'.cell? ⟨g, 3, none⟩ = some (.slice A2 k c2) ∧ w'.cell? ⟨g2, 0, none⟩ = some (.int .i64 fr) ∧ w'.cell? ⟨g2, 1, none⟩ = some (.int .i64 sp) ∧ w'.cell? ⟨g2, 2, none⟩ = some (.slice A3 k c3) ∧ w'.cell? ⟨g2, 3, none⟩ = some (.slice A4 k c4)) w6 from
        ⟨(hb.cell (p := ⟨g, 0, none⟩) hgf).trans (HKa5.out.cell 0), (hb.cell (p := ⟨g, 1, none⟩) hgf).trans (HKa5.out.cell 1), (hb.cell (p := ⟨g, 2, none⟩) hgf).trans (HKa5.out.cell 2), (hb.cell (p := ⟨g, 3, none⟩) hgf).trans (HKa5.out.cell 3),
          (hb.cell (p := ⟨g2, 0, none⟩) hg2f).trans (HKc5.out.cell 0), (hb.cell (p := ⟨g2, 1, none⟩) hg2f).trans (HKc5.out.cell 1), (hb.cell (p := ⟨g2, 2, none⟩) hg2f).trans (HKc5.out.cell 2), (hb.cell (p := ⟨g2, 3, none⟩) hg2f).trans (HKc5.out.cell 3)⟩)
      have Bd := Lib.hid (Below.refl wf.drew.heap.size wf.drew)
      have Hsb := Lib.hid (fun W (hb : Below wf.drew.heap.size wf.drew W) => sameBlock_eq fr sp A1 A2 A3 A4 k c1 c2 k c3 c4 ((nmsOf (encR L)).map B8) ((chsOf (encR L)).map bytesOf) W
        (by rw [← txS_str]; exact Rd.of_own (own_below (own_drew HPa5.out.l) hb (Nat.le_refl _))) (by rw [← chS_str]; exact Rd.of_own (own_below (own_drew HPa5.out.r) hb (Nat.le_refl _)))
        (by rw [← txS_str]; exact Rd.of_own (own_below (own_drew HPc5.out.l) hb (Nat.le_refl _))) (by rw [← chS_str]; exact Rd.of_own (own_below (own_drew HPc5.out.r) hb (Nat.le_refl _))) (by omega) (by omega))
      go_region_held3 (fun w' => w'.cell? ⟨g, 0, none⟩ = some (.int .i64 fr) ∧ w'.cell? ⟨g, 1, none⟩ = some (.int .i64 sp) ∧ w'.cell? ⟨g, 2, none⟩ = some (.slice A1 k c1) ∧ w'.cell? ⟨g, 3, none⟩ = some (.slice A2 k c2) ∧ w'.cell? ⟨g2, 0, none⟩ = some (.int .i64 fr) ∧ w'.cell? ⟨g2, 1, none⟩ = some (.int .i64 sp) ∧ w'.cell? ⟨g2, 2, none⟩ = some (.slice A3 k c3) ∧ w'.cell? ⟨g2, 3, none⟩ = some (.slice A4 k c4))
        (first | with_reducible exact Hkb.out _ Bd.out | with_reducible exact Hkb.out _ B6.out | with_reducible exact Hkb.out _ B7.out | with_reducible exact Hkb.out _ B8.out)
        (first | (go_at_call 15; refine (asModel_any _ _ _ _ _ _ _ _ _).mono ?_; rintro e6 w6 ⟨rfl, hb6⟩; have B6 := Lib.hid (Below.call Bd.out hb6 Bd.out.size); clear hb6) | (go_at_call 15; refine (asModel_any _ _ _ _ _ _ _ _ _).mono ?_; rintro e7 w7 ⟨rfl, hb7⟩; have B7 := Lib.hid (Below.call B6.out hb7 B6.out.size); clear hb7) | (go_at_call 14; refine (Hsb.out _ B7.out).mono ?_; rintro e8 w8 ⟨rfl, hb8⟩; have B8 := Lib.hid (Below.call B7.out hb8 B7.out.size); clear hb8))
      all_goals
        have HBz := Lib.hid (HBa5.out.drew.trans (B8.out.mono (show w.heap.size ≤ wf.drew.heap.size from HBa5.out.size)))
        go_wp2
        go_ret
        exact ⟨rfl, HBz.out⟩
end Go.Proofs.YtfkklcmepcocoaaGreatDoor
