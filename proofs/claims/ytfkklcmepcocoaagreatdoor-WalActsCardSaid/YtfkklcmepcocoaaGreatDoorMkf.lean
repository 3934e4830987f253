/- A disk and its reference side by side, in plain Lean. -/
import Derived.Test.YtfkklcmepcocoaaGreatDoorMkc
import Derived.Test.YtfkklcmepcocoaaGreatDoorRLogQ
import Derived.Test.YtfkklcmepcocoaaGreatDoorLabOf
import Derived.Test.YtfkklcmepcocoaaGreatDoorPtsRef
import Derived.Test.YtfkklcmepcocoaaGreatDoorMke
namespace Go.Proofs.YtfkklcmepcocoaaGreatDoor
open Go.RowKit
set_option linter.unusedVariables false

/-- They are alike: what power's failing would leave counts only while there is power. -/
structure Same (d m : Dk) : Prop where
  b : d.b = m.b
  off : d.off = m.off
  cut : d.off = false → d.cut = m.cut
/-- What the reference's append leaves. -/
def rapD (m : Dk) (e : En) : Dk :=
  if (rdF e.nm).1 ≠ 0 then m else if tickB e.tick = false then m else if 65536 < m.b.length + (recL e).length then m else
    if m.off = true then m else if 0 ≤ m.cut ∧ m.cut < (recL e).length then ⟨m.b ++ (recL e).take m.cut.toNat, true, m.cut⟩ else ⟨m.b ++ recL e, false, if 0 ≤ m.cut then m.cut - (recL e).length else m.cut⟩
theorem Same.append {d m : Dk} (h : Same d m) (hc : CutOk d.cut) (e : En) : apF d e = apF m e ∧ Same (apD d e) (rapD m e) := by
  obtain ⟨hb, ho, hcut⟩ := h
  have key : apF d e = apF m e := by
    unfold apF
    rw [hb]
    by_cases h1 : (rdF e.nm).1 ≠ 0
    · rw [if_pos h1, if_pos h1]
    rw [if_neg h1, if_neg h1]
    by_cases h2 : tickB e.tick = false
    · rw [if_pos h2, if_pos h2]
    rw [if_neg h2, if_neg h2]
    by_cases h3 : 65536 < m.b.length + (recL e).length
    · rw [if_pos h3, if_pos h3]
    rw [if_neg h3, if_neg h3]
    have : (wrD d (recL e)).2 = (wrD m (recL e)).2 := by
      unfold wrD
      by_cases h4 : d.off = true
      · have h4m : m.off = true := by rw [← ho]; exact h4
        rw [if_pos h4, if_pos h4m]
      · have h5 : d.off = false := by simpa using h4
        have h4m : ¬ m.off = true := by rw [← ho]; exact h4
        rw [if_neg h4, if_neg h4m, hcut h5]
        split <;> rfl
    rw [this]
  refine ⟨key, ?_⟩
  unfold apD rapD
  by_cases h1 : (rdF e.nm).1 ≠ 0
  · rw [if_pos h1, if_pos h1]; exact ⟨hb, ho, hcut⟩
  rw [if_neg h1, if_neg h1]
  by_cases h2 : tickB e.tick = false
  · rw [if_pos h2, if_pos h2]; exact ⟨hb, ho, hcut⟩
  rw [if_neg h2, if_neg h2, hb]
  by_cases h3 : 65536 < m.b.length + (recL e).length
  · rw [if_pos h3, if_pos h3]; exact ⟨hb, ho, hcut⟩
  rw [if_neg h3, if_neg h3]
  by_cases h4 : m.off = true
  · rw [if_pos h4, wrD_off (by rw [ho]; exact h4)]; exact ⟨hb, ho, hcut⟩
  · have h5 : d.off = false := by rw [ho]; simpa using h4
    have hce := hcut h5
    unfold CutOk at hc
    rw [if_neg h4]
    by_cases h6 : 0 ≤ m.cut ∧ m.cut < (recL e).length
    · rw [if_pos h6, wrD_cut h5 (by rw [hce]; exact h6.1) (by rw [hce]; exact h6.2), hb, hce]
      exact ⟨rfl, rfl, fun h => (by cases h)⟩
    · rw [if_neg h6, wrD_all h5 (by rw [hce]; exact h6), hb, hce]
      refine ⟨rfl, rfl, fun _ => ?_⟩
      dsimp only
      by_cases h7 : m.cut < 0
      · rw [if_pos h7, if_neg (by omega)]; omega
      · rw [if_neg h7, if_pos (by omega)]
theorem rapD_len {m : Dk} (h : m.b.length ≤ 65536) (e : En) : (rapD m e).b.length ≤ 65536 := by
  unfold rapD
  split
  · exact h
  · split
    · exact h
    · split
      · exact h
      · split
        · exact h
        · split
          · dsimp only; rw [List.length_append, List.length_take]; omega
          · dsimp only; rw [List.length_append]; omega
end Go.Proofs.YtfkklcmepcocoaaGreatDoor

namespace Go.Proofs.YtfkklcmepcocoaaGreatDoor
open Go.RowKit
set_option linter.unusedVariables false

/-- The reference's disk at block rb. -/
def RDAt (w : World) (rb : Nat) (m : Dk) : Prop := Blk w rb 48 #[.string (B8 m.b), .bool m.off, .int .i64 m.cut]
/-- It has turned, nothing else that was there. -/
structure RStep (w w' : World) (rb : Nat) (m' : Dk) : Prop where
  at_ : RDAt w' rb m'
  fr : Fr (fun k => k = rb) w w'
theorem RStep.below {w w1 w' : World} {rb : Nat} {m m' : Dk} (h0 : RDAt w rb m) (hb : Below w.heap.size w w1) (h : RStep w1 w' rb m') : RStep w w' rb m' :=
  ⟨h.at_, Fr.trans ((Fr.ofB hb (Nat.le_refl _)).mono (fun _ _ h => h.elim)) h.fr (fun _ _ h => h)⟩
theorem rsc_neg (rb : Nat) (n : Int) (hn : n < 0) (w : World) : Calls Tryz.prog 23 #[.pointer (some ⟨rb, 0, none⟩), .int .i64 n] w fun e w' => e = .returned (.int .i64 2) ∧ w = w' := by
  go_enter Tryz.func23, Tryz.ntmps23
  go_wp2
  go_ret
  exact ⟨rfl, rfl⟩
theorem rsc_off (rb : Nat) (m : Dk) (n : Int) (hn : 0 ≤ n) (w : World) (h : RDAt w rb m) (ho : m.off = true) : Calls Tryz.prog 23 #[.pointer (some ⟨rb, 0, none⟩), .int .i64 n] w fun e w' => e = .returned (.int .i64 10) ∧ w = w' := by
  have c1 : w.cell? ⟨rb, 1, none⟩ = some (.bool true) := by rw [← ho]; exact Blk.cell h 1
  have hn2 : ¬ n < 0 := by omega
  clear h ho
  go_enter Tryz.func23, Tryz.ntmps23
  go_wp2
  go_ret
  exact ⟨rfl, rfl⟩
theorem rsc_ok (rb : Nat) (m : Dk) (n : Int) (hn : 0 ≤ n) (w : World) (h : RDAt w rb m) (ho : m.off = false) : Calls Tryz.prog 23 #[.pointer (some ⟨rb, 0, none⟩), .int .i64 n] w fun e w' => e = .returned (.int .i64 0) ∧ RStep w w' rb ⟨m.b, false, n⟩ := by
  have c1 : w.cell? ⟨rb, 1, none⟩ = some (.bool false) := by rw [← ho]; exact Blk.cell h 1
  have c2 : w.cell? ⟨rb, 2, none⟩ = some (.int .i64 m.cut) := Blk.cell h 2
  have f2 := Blk.frozen h 2
  have hn2 : ¬ n < 0 := by omega
  have Hst := Lib.hid (show RStep w (w.setCell ⟨rb, 2, none⟩ (.int .i64 n)) rb ⟨m.b, false, n⟩ from ⟨by have := Blk.set_ h 2 (.int .i64 n); rw [ho] at this; exact this, fr_set w rb 2 _⟩)
  clear h ho
  go_enter Tryz.func23, Tryz.ntmps23
  go_wp2
  go_ret
  exact ⟨rfl, Hst.out⟩
theorem rrecover_any (rb : Nat) (m : Dk) (w : World) (h : RDAt w rb m) (hl : m.b.length ≤ 65536) :
    Calls Tryz.prog 27 #[.pointer (some ⟨rb, 0, none⟩)] w fun e w' => ∃ l k u, e = .returned u ∧ IsRead m.b l k ∧ w'.ownsRow w.heap.size 125 3 u l.length (enC l) ∧ RStep w w' rb ⟨m.b.take k, false, -1⟩ := by
  have c0 : w.cell? ⟨rb, 0, none⟩ = some (.string (B8 m.b)) := Blk.cell h 0
  have hsz : (B8 m.b).size = m.b.length := B8_size _
  have Hrd := Lib.hid (rreadlog_any m.b (by omega) w)
  have Hex := Lib.hid (fun k => show (B8 m.b).extract 0 k = B8 (m.b.take k) by rw [B8_extract]; rfl)
  have H0 := Lib.hid h
  obtain ⟨n, hn⟩ : ∃ n, n = m.b.length := ⟨_, rfl⟩
  rw [← hn] at hsz hl
  have Hn := Lib.hid hn
  clear h hn
  generalize hsb : B8 m.b = sb at c0 hsz Hrd Hex
  have Hsb := Lib.hid hsb
  clear hsb
  go_enter Tryz.func27, Tryz.ntmps27
  go_wp2_with fail
  refine Hrd.out.mono ?_
  rintro e w1 ⟨l, k, u, rfl, hir, hown, hb⟩
  have hk1 : Blk w1 rb 48 #[.string sb, .bool m.off, .int .i64 m.cut] := by rw [← Hsb.out]; exact Blk.below H0.out hb (Blk.lt H0.out)
  have hkn : k ≤ sb.size := by have := hir.le; have := Hn.out; omega
  have HK := Lib.hid hk1; have HI := Lib.hid hir; have HO := Lib.hid hown; have HB := Lib.hid hb
  have c0 := hk1.cell 0; have c1 := hk1.cell 1; have c2 := hk1.cell 2
  have f0 := hk1.frozen 0; have f1 := hk1.frozen 1; have f2 := hk1.frozen 2
  simp only [List.getElem?_toArray, List.getElem?_cons_zero, List.getElem?_cons_succ] at c0 c1 c2
  have hexk := Hex.out k
  obtain ⟨Au, cu, rfl, _, _, _⟩ := own_form hown
  generalize hsk : B8 (m.b.take k) = sk at hexk
  have Hsk := Lib.hid hsk
  clear hk1 hir hown hb hsk
  go_wp2
  go_ret
  refine ⟨l, k, _, rfl, HI.out, ?_, ?_, ?_⟩
  · exact own_set (own_set (own_set HO.out (own_ne_blk HO.out HK.out (by decide)) _) (own_ne_blk HO.out HK.out (by decide)) _) (own_ne_blk HO.out HK.out (by decide)) _
  · show Blk _ rb 48 #[.string (B8 (m.b.take k)), .bool false, .int .i64 (-1)]
    rw [Hsk.out]
    exact ((HK.out.set_ 0 _).set_ 1 _).set_ 2 _
  · refine Fr.trans ((Fr.ofB HB.out (Nat.le_refl _)).mono (fun _ _ h => h.elim)) ?_ (fun _ _ h => h)
    exact ((fr_set w1 rb 0 _).trans (fr_set _ rb 1 _) (fun _ _ h => h)).trans (fr_set _ rb 2 _) (fun _ _ h => h)
end Go.Proofs.YtfkklcmepcocoaaGreatDoor
