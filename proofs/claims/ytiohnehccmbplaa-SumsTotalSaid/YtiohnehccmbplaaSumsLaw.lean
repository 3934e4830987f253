/- The walk of the law SumsTotal: it returns true, whatever rows are handed over, and nothing that was there is turned. -/
import Derived.Test.YtiohnehccmbplaaSumsTot
import Derived.Deep.RegionHeld3
namespace Go.Proofs.Ytiohnehccmbplaa
open Go.RowKit
set_option linter.unusedVariables false

theorem infoPoint : (Try.prog.info? 38).map (fun i => (i.zero, i.size, i.bytes)) = some (some (.agg #[.int .i64 0, .int .u64 0]), 2, 16) := by kernel_rfl

theorem ofS_53 : ofS [5, 3] = ⟨2, 3, 5, 3, 8⟩ := rfl
theorem pcells_one (ps : List (Int × Int)) : ∀ u ∈ ps.flatMap (fun p => [Value.int .i64 p.1, Value.int .u64 p.2]), u.oneCell' = true := by
  intro u hu
  obtain ⟨p, _, hp⟩ := List.mem_flatMap.1 hu
  simp at hp
  rcases hp with rfl | rfl <;> rfl
set_option maxHeartbeats 400000 in
theorem summed_any (w : World) : Calls Try.prog 4 #[] w fun e w' => e = .returned (.bool true) ∧ Below w.heap.size w w' := by
  go_enter Try.func4, Try.ntmps4
  go_wp2_with fail
  have hA : Rd (w.alloc (.cells #[.int .i64 1, .int .u64 5, .int .i64 2, .int .u64 3] 38)) (w.alloc (.cells #[.int .i64 1, .int .u64 5, .int .i64 2, .int .u64 3] 38)).heap.size 2 (some ⟨w.heap.size, 0, none⟩) 2 ([((1 : Int), (5 : Int)), (2, 3)].flatMap fun p => [.int .i64 p.1, .int .u64 p.2]) :=
    ⟨rfl, fun _ => ⟨_, _, rfl, by simp, fun j u hj => by
      have := (Blk.new w 38 #[.int .i64 1, .int .u64 5, .int .i64 2, .int .u64 3]).cell j
      rw [Nat.zero_add, this]
      simpa using hj⟩⟩
  refine (of_any _ 2 2 [(1, 5), (2, 3)] _ hA (by omega)).mono ?_
  have e0 : bitsOf [((1 : Int), (5 : Int)), (2, 3)] = [5, 3] := rfl
  rw [e0, ofS_53]
  rintro e w1 ⟨rfl, hb⟩
  have hb := Lib.hid hb
  clear hA e0
  go_wp2
  go_ret
  exact ⟨rfl, Below.alloc (Below.call (Below.alloc (Below.refl _ _) (Nat.le_refl _) _) hb.out (by simp)) (by have := hb.out.size; simp at this; omega) _⟩
theorem keep5 {B : Nat} {w w' : World} {a1 a2 a3 a4 a5 : Addr} {v1 v2 v3 v4 v5 : Value} (hb : Below B w w') (h1 : a1.block < B) (h2 : a2.block < B) (h3 : a3.block < B) (h4 : a4.block < B) (h5 : a5.block < B)
    (h : w.cell? a1 = some v1 ∧ w.cell? a2 = some v2 ∧ w.cell? a3 = some v3 ∧ w.cell? a4 = some v4 ∧ w.cell? a5 = some v5) :
    w'.cell? a1 = some v1 ∧ w'.cell? a2 = some v2 ∧ w'.cell? a3 = some v3 ∧ w'.cell? a4 = some v4 ∧ w'.cell? a5 = some v5 := by
  rw [hb.cell h1, hb.cell h2, hb.cell h3, hb.cell h4, hb.cell h5]; exact h

set_option maxHeartbeats 4000000 in
theorem law_any (A : Option Addr) (n c : Nat) (rs : List RowD) (w : World) (hA : RowsIn w w.heap.size A n rs) (hn : n ≤ 140737488351232) (hrs : ∀ r ∈ rs, r.n ≤ 140737488351232) (hws : ∀ r ∈ rs, ∀ p ∈ r.ps, Word p.2) :
    Calls Try.prog 3 #[.slice A n c] w fun e w' => e = .returned (.bool true) ∧ Below w.heap.size w w' := by
  obtain ⟨i0, hi, hz0, hz1, hz2⟩ := info_parts infoPoint
  have hlen := hA.len
  by_cases h30 : 30 < n
  · clear hA hrs hws hlen
    have h30' : (30 : Int) < n := by omega
    go_enter Try.func3, Try.ntmps3
    go_wp2_with fail
    refine (summed_any _).mono ?_
    rintro e w1 ⟨rfl, hb1⟩
    have hb1 := Lib.hid hb1
    go_wp2
    go_ret
    exact ⟨rfl, hb1.out⟩
  have HA := Lib.hid hA; have Hrs := Lib.hid hrs; have Hws := Lib.hid hws; have Hlen := Lib.hid hlen
  have Hi := Lib.hid hi; have Hz0 := Lib.hid hz0; have Hz1 := Lib.hid hz1; have Hz2 := Lib.hid hz2
  clear hA hrs hws hlen hi hz0 hz1 hz2
  have h30' : (n : Int) ≤ 30 := by omega
  go_enter Try.func3, Try.ntmps3
  go_wp2_with fail
  refine (summed_any _).mono ?_
  rintro e w1 ⟨rfl, hb1⟩
  have Hb1 := Lib.hid hb1; clear hb1
  go_wp2_with fail
  refine (of_any none 0 0 [] w1 Rd.nil (by omega)).mono ?_
  have e0 : ofS (bitsOf []) = Sm.zero := rfl
  rw [e0]
  rintro e w2 ⟨rfl, hb2⟩
  have Hb2 := Lib.hid hb2; clear hb2 e0
  have hw2 : w.heap.size ≤ w2.heap.size := Nat.le_trans Hb1.out.size Hb2.out.size
  go_wp2
  go_loopw [4, 6] (fun v i wr => ∃ (k m : Nat) (s : Sm), k ≤ n ∧ i = .int .i64 k ∧ m ≤ 200 ∧ m = (allOf (rs.take k)).length ∧ s = ofS (bitsOf (allOf (rs.take k))) ∧ (∀ r ∈ rs.take k, r.n ≤ 200) ∧
      wr.ownsRow w.heap.size 38 2 v m ((allOf (rs.take k)).flatMap fun p => [.int .i64 p.1, .int .u64 p.2]) ∧ Blk wr w2.heap.size 27 (smArr s) ∧ Below w.heap.size w wr) (fun _ i _ => n - (intOf i).toNat)
  case atStart =>
    refine ⟨0, 0, Sm.zero, Nat.zero_le _, rfl, Nat.zero_le _, rfl, rfl, by simp, World.ownsRow_nil _ _ _ _, Blk.new _ _ _, ?_⟩
    exact Below.alloc (Below.call Hb1.out Hb2.out Hb1.out.size) hw2 _
  case round =>
    obtain ⟨k, m, s, hk, rfl, hm, hml, hs, hall, hown, hB, hbel⟩ := hrel
    obtain ⟨va, ca, rfl, hca, _, hrdv⟩ := own_form hown
    obtain ⟨⟨h0, h1, h2, h3, h4⟩, _⟩ := hB.sums
    have hz := hB.lt
    have hc0 : 0 ≤ s.c := by rw [hs, ofS_c]; omega
    have hc1 : s.c ≤ 1000000 := by rw [hs, ofS_c, bitsOf_length]; omega
    have Hs := Lib.hid hs; have Hml := Lib.hid hml; have Hall := Lib.hid hall; have Hown := Lib.hid hown; have HB := Lib.hid hB; have Hbel := Lib.hid hbel; have Hrdv := Lib.hid hrdv
    clear hs hml hall hown hB hbel hrdv
    by_cases hkn : k < n
    · obtain ⟨bb, off, r, rfl, had, hy, e0, e1⟩ := HA.out.1.at2 hkn
      have hr : r ∈ rs := List.mem_of_getElem? hy
      have hrn := Hrs.out r hr
      have hpl := HA.out.plen hr
      have e1' := (Hbel.out.cell (p := ⟨bb, off + k * 2 + 1, none⟩) had).trans e1
      have Hy := Lib.hid hy; have Hr := Lib.hid hr; have Hpl := Lib.hid hpl
      clear e0 e1 hy hr hpl
      by_cases h200 : 200 < m + r.n
      · have h200' : (200 : Int) < (m : Int) + r.n := by omega
        clear h0 h1 h2 h3 h4
        go_wp2
        go_ret
        exact ⟨rfl, Hbel.out⟩
      have h200' : (m : Int) + r.n ≤ 200 := by omega
      have hrp := HA.out.2 r Hr.out
      have Hrp := Lib.hid hrp; clear hrp
      have hrn' : r.n ≤ 100000 := by omega
      have hrc : (ofS (bitsOf r.ps)).c = r.n := by rw [ofS_c, bitsOf_length, Hpl.out]
      have q0 : 0 ≤ (ofS (bitsOf r.ps)).c := by omega
      have q1 : (ofS (bitsOf r.ps)).c ≤ 1000000 := by omega
      clear hrc
      generalize hofs : ofS (bitsOf r.ps) = t at q0 q1
      have Hofs := Lib.hid hofs; clear hofs
      go_wp2_with (at_builtin; refine wpList_append_rd _ rfl (.tmp 33) (.tmp 38) _ rfl w.heap.size 38 i0 (.agg #[.int .i64 0, .int .u64 0]) 2 16 Try.underlying24 Hi.out Hz0.out Hz1.out Hz2.out rfl (by decide) (.slice va m ca) m _ rfl Hown.out w.heap.size r.A r.n r.c _ rfl (Hrp.out.below Hbel.out) (pcells_one _) (by unfold maxLen; omega) (by omega) Hbel.out.size ?_; intro v' wa hown' hgr hat; have Hown' := Lib.hid hown'; have Hgr := Lib.hid hgr; clear hown' hgr hat h0 h1 h2 h3 h4)
      have hneq : some w2.heap.size ≠ (Value.slice va m ca).ownBlock := own_ne_blk Hown.out HB.out (by decide)
      have hBa : Blk wa w2.heap.size 27 (smArr s) := HB.out.grown Hgr.out hneq
      have hba : Below w.heap.size w wa := Below.grown Hbel.out Hgr.out Hbel.out.size (fun g hg => (own_lt Hown.out g hg).1)
      have hza := hBa.lt
      obtain ⟨⟨h0, h1, h2, h3, h4⟩, _⟩ := hBa.sums
      have hrq : Rd wa.drew wa.drew.heap.size 2 r.A r.n (r.ps.flatMap fun p => [.int .i64 p.1, .int .u64 p.2]) := (Hrp.out.below hba).drew.more hba.size
      have hca : wa.cell? ⟨bb, off + k * 2 + 1, none⟩ = some (.slice r.A r.n r.c) := (hba.cell (p := ⟨bb, off + k * 2 + 1, none⟩) had).trans ((Hbel.out.cell (p := ⟨bb, off + k * 2 + 1, none⟩) had).symm.trans e1')
      have mkA : ∀ w3 : World, Below wa.drew.heap.size wa.drew w3 → Blk w3 w2.heap.size 27 (smArr s) := fun w3 hb3 => hBa.drew.below hb3 hza
      have mkA' : ∀ w3 : World, Below wa.drew.heap.size wa.drew w3 → (w3.cell? ⟨w2.heap.size, 0, none⟩ = some (.int .i64 s.c) ∧ w3.cell? ⟨w2.heap.size, 1, none⟩ = some (.int .u64 s.lo) ∧ w3.cell? ⟨w2.heap.size, 2, none⟩ = some (.int .u64 s.hi) ∧ w3.cell? ⟨w2.heap.size, 3, none⟩ = some (.int .u64 s.la) ∧ w3.cell? ⟨w2.heap.size, 4, none⟩ = some (.int .u64 s.to)) := fun w3 hb3 => (mkA w3 hb3).sums.1
      have mkB : ∀ w3 w4 : World, Below wa.drew.heap.size wa.drew w3 → Below w3.heap.size w3 w4 → Blk w4 w2.heap.size 27 (smArr s) := fun w3 w4 hb3 hb4 => (mkA w3 hb3).below hb4 (mkA w3 hb3).lt
      have mkB' : ∀ w3 w4 : World, Below wa.drew.heap.size wa.drew w3 → Below w3.heap.size w3 w4 → (w4.frozen? ⟨w2.heap.size, 0, none⟩ = false ∧ w4.frozen? ⟨w2.heap.size, 1, none⟩ = false ∧ w4.frozen? ⟨w2.heap.size, 2, none⟩ = false ∧ w4.frozen? ⟨w2.heap.size, 3, none⟩ = false ∧ w4.frozen? ⟨w2.heap.size, 4, none⟩ = false) ∧
          (w4.cell? ⟨w2.heap.size, 0, none⟩ = some (.int .i64 s.c) ∧ w4.cell? ⟨w2.heap.size, 1, none⟩ = some (.int .u64 s.lo) ∧ w4.cell? ⟨w2.heap.size, 2, none⟩ = some (.int .u64 s.hi) ∧ w4.cell? ⟨w2.heap.size, 3, none⟩ = some (.int .u64 s.la) ∧ w4.cell? ⟨w2.heap.size, 4, none⟩ = some (.int .u64 s.to)) := fun w3 w4 hb3 hb4 => ⟨(mkB w3 w4 hb3 hb4).sums.2, (mkB w3 w4 hb3 hb4).sums.1⟩
      have HBa := Lib.hid hBa; have Hba := Lib.hid hba; have Hrq := Lib.hid hrq; have HmkA := Lib.hid mkA; have HmkA' := Lib.hid mkA'; have HmkB := Lib.hid mkB; have HmkB' := Lib.hid mkB'
      have Hneq := Lib.hid hneq
      clear hBa hba hrq mkA mkA' mkB mkB' hneq
      go_region_with (first
          | (go_at_call 5; refine (of_any r.A r.n r.c r.ps _ Hrq.out hrn').mono ?_; rintro e w3 ⟨rfl, hb3⟩; rw [Hofs.out]; obtain ⟨g0, g1, g2, g3, g4⟩ := HmkA'.out w3 hb3; have hb3 := Lib.hid hb3)
          | (go_at_call 6; refine (add_any s t _ hc0 hc1 q0 q1).mono ?_; rintro e w4 ⟨rfl, hb4⟩; obtain ⟨⟨f0, f1, f2, f3, f4⟩, g0, g1, g2, g3, g4⟩ := HmkB'.out w3 w4 hb3.out hb4; have hb4 := Lib.hid hb4))
      all_goals
        clear g0 g1 g2 g3 g4 f0 f1 f2 f3 f4 h0 h1 h2 h3 h4
        go_wp2
        go_roundw
        case rel =>
          have z3 := HmkA.out w3 hb3.out
          have z4 := HmkB.out w3 w4 hb3.out hb4.out
          have y3 := own_below (own_drew Hown'.out) hb3.out (Nat.le_refl _)
          have y4 := own_below y3 hb4.out (Nat.le_refl _)
          have b3 : Below w.heap.size w w3 := Below.call Hba.out.drew hb3.out Hba.out.size
          have b4 : Below w.heap.size w w4 := Below.call b3 hb4.out b3.size
          have hmn : m + r.n = (allOf (rs.take (k + 1))).length := by rw [allOf_next Hy.out, List.length_append, ← Hml.out, Hpl.out]
          have yn := own_ne_blk y4 z4 (by decide)
          refine ⟨k + 1, m + r.n, addS s t, by omega, by go_num, by omega, hmn, ?_, ?_, ?_, ?_, ?_⟩
          · rw [allOf_next Hy.out, bitsOf_append, ofS_append, ← Hs.out, Hofs.out]
          · rw [take_snoc Hy.out]
            intro q hq
            rcases List.mem_append.1 hq with h | h
            · exact Hall.out q h
            · simp at h; subst h; omega
          · rw [allOf_next Hy.out, List.flatMap_append]
            exact own_set (own_set (own_set (own_set (own_set y4 yn _) yn _) yn _) yn _) yn _
          · exact ((((z4.set_ 0 (.int .i64 (addS s t).c)).set_ 1 (.int .u64 (addS s t).lo)).set_ 2 (.int .u64 (addS s t).hi)).set_ 3 (.int .u64 (addS s t).la)).set_ 4 (.int .u64 (addS s t).to)
          · exact ((((b4.setCell (by simpa using hw2) _).setCell (by simpa using hw2) _).setCell (by simpa using hw2) _).setCell (by simpa using hw2) _).setCell (by simpa using hw2) _
        case measure => simp [intOf]; omega
    · obtain rfl : k = n := by omega
      have htk : rs.take k = rs := List.take_of_length_le (by rw [Hlen.out]; exact Nat.le_refl _)
      have hsT : ofS (bitsOf (allOf rs)) = s := by rw [Hs.out, htk]
      have hall' : ∀ r ∈ rs, r.n ≤ 100000 := by
        intro r hr
        have := Hall.out r (by rw [htk]; exact hr)
        omega
      have hml' : m = (allOf rs).length := by rw [Hml.out, htk]
      have hps : ∀ p ∈ allOf rs, Word p.2 := by
        intro p hp
        obtain ⟨r, hr, hpr⟩ := List.mem_flatMap.1 hp
        exact Hws.out r hr p hpr
      have hown2 : wr.ownsRow w.heap.size 38 2 (.slice va m ca) m ((allOf rs).flatMap fun p => [.int .i64 p.1, .int .u64 p.2]) := by
        have := Hown.out
        rwa [htk] at this
      have hrows : ∀ W : World, Below w.heap.size w W → RowsIn W W.heap.size A k rs := fun W hW =>
        ⟨(HA.out.1.below hW).more hW.size, fun r hr => ((HA.out.2 r hr).below hW).more hW.size⟩
      have hal : (allOf rs).length ≤ 1000000 := by omega
      have hk1 : k ≤ 100000 := by omega
      have hm1 : m ≤ 100000 := by omega
      have hrd0 : Rd wr.drew wr.heap.size 2 va m ((allOf rs).flatMap fun p => [.int .i64 p.1, .int .u64 p.2]) := Rd.of_own (own_drew hown2)
      have hrd : ∀ W : World, Below wr.drew.heap.size wr.drew W → Rd W W.heap.size 2 va m ((allOf rs).flatMap fun p => [.int .i64 p.1, .int .u64 p.2]) := fun W hW => (hrd0.below hW).more hW.size
      have hS0 : (wr.drew.cell? ⟨w2.heap.size, 0, none⟩ = some (.int .i64 s.c) ∧ wr.drew.cell? ⟨w2.heap.size, 1, none⟩ = some (.int .u64 s.lo) ∧ wr.drew.cell? ⟨w2.heap.size, 2, none⟩ = some (.int .u64 s.hi) ∧ wr.drew.cell? ⟨w2.heap.size, 3, none⟩ = some (.int .u64 s.la) ∧ wr.drew.cell? ⟨w2.heap.size, 4, none⟩ = some (.int .u64 s.to)) := HB.out.drew.sums.1
      have HsT := Lib.hid hsT; have Hall' := Lib.hid hall'; have Hps := Lib.hid hps; have Hrows := Lib.hid hrows; have Hrd := Lib.hid hrd; have HS0 := Lib.hid hS0
      have hbd : Below w.heap.size w wr.drew := Hbel.out.drew
      have Hbd := Lib.hid hbd
      clear htk hsT hall' hml' hps hown2 hrows hrd0 hrd hS0 hbd
      go_wp2_with fail
      go_region_held3 (fun w' => w'.cell? ⟨w2.heap.size, 0, none⟩ = some (.int .i64 s.c) ∧ w'.cell? ⟨w2.heap.size, 1, none⟩ = some (.int .u64 s.lo) ∧ w'.cell? ⟨w2.heap.size, 2, none⟩ = some (.int .u64 s.hi) ∧ w'.cell? ⟨w2.heap.size, 3, none⟩ = some (.int .u64 s.la) ∧ w'.cell? ⟨w2.heap.size, 4, none⟩ = some (.int .u64 s.to))
        (first
          | with_reducible exact HS0.out
          | (with_reducible refine keep5 hb6.out ?_ ?_ ?_ ?_ ?_ (by assumption) <;> first | (simp; done) | (simp; omega))
          | (with_reducible refine keep5 hb5.out ?_ ?_ ?_ ?_ ?_ (by assumption) <;> first | (simp; done) | (simp; omega))
          | (with_reducible refine keep5 hb4.out ?_ ?_ ?_ ?_ ?_ (by assumption) <;> first | (simp; done) | (simp; omega))
          | (with_reducible refine keep5 hb3.out ?_ ?_ ?_ ?_ ?_ (by assumption) <;> first | (simp; done) | (simp; omega)))
        (first
          | (go_at_call 8; refine (total_any A k c rs _ (Hrows.out _ hb5b.out) hk1 Hall'.out hal).mono ?_; rintro e w6 ⟨rfl, hb6⟩; rw [HsT.out]; have hb6b := Lib.hid (Below.call hb5b.out hb6 hb5b.out.size); have hb6 := Lib.hid hb6)
          | (go_at_call 8; refine (total_any A k c rs _ (Hrows.out _ Hbd.out) hk1 Hall'.out hal).mono ?_; rintro e w3 ⟨rfl, hb3⟩; rw [HsT.out]; have hz3 := hb3.size; simp only [World.size_drew] at hz3; have hb3b := Lib.hid (Below.call Hbd.out hb3 Hbd.out.size); have hb3 := Lib.hid hb3)
          | (go_at_call 9; refine (sumOf_any va m ca (allOf rs) _ (Hrd.out _ hb3.out) hm1 Hps.out).mono ?_; rintro e w4 ⟨rfl, hb4⟩; rw [HsT.out]; have hz4 := hb4.size; have hb4b := Lib.hid (Below.call hb3b.out hb4 hb3b.out.size); have hb4 := Lib.hid hb4)
          | (go_at_call 7; refine (same_any s _).mono ?_; rintro e w5 ⟨rfl, hb5⟩; have hz5 := hb5.size; have hb5b := Lib.hid (Below.call hb4b.out hb5 hb4b.out.size); have hb5 := Lib.hid hb5))
      clear h0 h1 h2 h3 h4
      go_wp2
      go_ret
      exact ⟨rfl, hb6b.out⟩
end Go.Proofs.Ytiohnehccmbplaa
