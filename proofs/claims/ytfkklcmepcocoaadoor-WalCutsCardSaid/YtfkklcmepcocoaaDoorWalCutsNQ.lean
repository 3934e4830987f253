/- Whatever is appended while power may fail: what has been appended with no error is what is recovered; in plain Lean. -/
import Derived.Test.YtfkklcmepcocoaaDoorDiskNQ
namespace Go.Proofs.YtfkklcmepcocoaaDoor
open Go.RowKit
set_option linter.unusedVariables false

structure CutInv (d : Dk) (done : List En) : Prop where
  ok : ∀ e ∈ done, EnOk e
  on : d.off = false → d.b = done.flatMap recL
  off : d.off = true → ∃ r, d.b = done.flatMap recL ++ r ∧ ∀ f, EnOk f → ¬ recL f <+: r
  len : d.b.length ≤ 65536
theorem CutInv.start (c : Int) : CutInv ⟨[], false, c⟩ [] := ⟨fun e h => (by cases h), fun _ => rfl, fun h => (by cases h), by simp⟩
theorem apF_z {d : Dk} {e : En} (h : (apF d e).1 = 0) : (rdF e.nm).1 = 0 ∧ tickB e.tick = true ∧ d.b.length + (recL e).length ≤ 65536 ∧ (wrD d (recL e)).2 = true := by
  unfold apF at h
  by_cases h1 : (rdF e.nm).1 ≠ 0
  · rw [if_pos h1] at h; exact absurd h h1
  rw [if_neg h1] at h
  by_cases h2 : tickB e.tick = false
  · rw [if_pos h2] at h; cases h
  rw [if_neg h2] at h
  by_cases h3 : 65536 < d.b.length + (recL e).length
  · rw [if_pos h3] at h; cases h
  rw [if_neg h3] at h
  by_cases h4 : (wrD d (recL e)).2 = true
  · exact ⟨by omega, by simpa using h2, by omega, h4⟩
  · rw [if_neg h4] at h; cases h
theorem apD_of {d : Dk} {e : En} (h1 : (rdF e.nm).1 = 0) (h2 : tickB e.tick = true) (h3 : d.b.length + (recL e).length ≤ 65536) : apD d e = (wrD d (recL e)).1 := by
  unfold apD
  rw [if_neg (fun h => h h1), if_neg (by rw [h2]; decide), if_neg (by omega)]
theorem apD_no {d : Dk} {e : En} (h : ¬ ((rdF e.nm).1 = 0 ∧ tickB e.tick = true ∧ d.b.length + (recL e).length ≤ 65536)) : apD d e = d := by
  unfold apD
  by_cases h1 : (rdF e.nm).1 ≠ 0
  · rw [if_pos h1]
  rw [if_neg h1]
  by_cases h2 : tickB e.tick = false
  · rw [if_pos h2]
  rw [if_neg h2]
  by_cases h3 : 65536 < d.b.length + (recL e).length
  · rw [if_pos h3]
  · exact absurd ⟨by omega, by simpa using h2, by omega⟩ h
theorem wrD_true {d : Dk} {s : Bs} (h : (wrD d s).2 = true) : d.off = false ∧ ¬ (0 ≤ d.cut ∧ d.cut < s.length) := by
  unfold wrD at h
  by_cases h1 : d.off = true
  · rw [if_pos h1] at h; cases h
  · rw [if_neg h1] at h
    by_cases h2 : 0 ≤ d.cut ∧ d.cut < s.length
    · rw [if_pos h2] at h; cases h
    · exact ⟨by simpa using h1, h2⟩
theorem CutInv.step {d : Dk} {done : List En} (h : CutInv d done) (e : En) (hb : e.bit < 18446744073709551616) :
    ((apF d e).1 = 0 → CutInv (apD d e) (done ++ [e])) ∧ ((apF d e).1 ≠ 0 → CutInv (apD d e) done) := by
  refine ⟨fun h0 => ?_, fun h0 => ?_⟩
  · obtain ⟨h1, h2, h3, h4⟩ := apF_z h0
    obtain ⟨h5, h6⟩ := wrD_true h4
    rw [apD_of h1 h2 h3, wrD_all h5 h6]
    refine ⟨fun x hx => ?_, fun _ => ?_, fun hh => (by cases hh), by simpa using h3⟩
    · rcases List.mem_append.1 hx with hx | hx
      · exact h.ok x hx
      · rw [List.mem_singleton.1 hx]; exact ⟨h1, h2, hb⟩
    · show d.b ++ recL e = _
      rw [h.on h5, List.flatMap_append, List.flatMap_singleton]
  · by_cases hc : (rdF e.nm).1 = 0 ∧ tickB e.tick = true ∧ d.b.length + (recL e).length ≤ 65536
    · obtain ⟨h1, h2, h3⟩ := hc
      have hlen : (apD d e).b.length ≤ 65536 := apD_len h.len e
      rw [apD_of h1 h2 h3] at hlen ⊢
      have h4 : (wrD d (recL e)).2 = false := by
        unfold apF at h0
        rw [if_neg (fun h => h h1), if_neg (by rw [h2]; decide), if_neg (by omega)] at h0
        by_cases h4 : (wrD d (recL e)).2 = true
        · rw [if_pos h4] at h0; exact absurd rfl h0
        · simpa using h4
      by_cases hoff : d.off = true
      · rw [wrD_off hoff]; exact h
      · have hoff' : d.off = false := by simpa using hoff
        by_cases h6 : 0 ≤ d.cut ∧ d.cut < (recL e).length
        · rw [wrD_cut hoff' h6.1 h6.2] at hlen ⊢
          refine ⟨h.ok, fun hh => (by cases hh), fun _ => ⟨(recL e).take d.cut.toNat, ?_, ?_⟩, hlen⟩
          · show d.b ++ _ = _
            rw [h.on hoff']
          · exact rec_cut ⟨h1, h2, hb⟩ (by omega)
        · rw [wrD_all hoff' h6] at h4; cases h4
    · rw [apD_no hc]; exact h
theorem no_rec_nil : ∀ f, EnOk f → ¬ recL f <+: [] := fun f _ h => rec_ne f (List.prefix_nil.1 h)
theorem CutInv.parts {d : Dk} {done : List En} (h : CutInv d done) : ∃ r, d.b = done.flatMap recL ++ r ∧ ∀ f, EnOk f → ¬ recL f <+: r := by
  cases hd : d.off with
  | false => exact ⟨[], by rw [h.on hd, List.append_nil], no_rec_nil⟩
  | true => exact h.off hd
theorem CutInv.read {d : Dk} {done : List En} (h : CutInv d done) {l : List En} {n : Nat} (hr : IsRead d.b l n) : l = done ∧ d.b.take n = done.flatMap recL := by
  obtain ⟨r, e, hn⟩ := h.parts
  have h2 := IsRead.of h.ok hn
  rw [← e] at h2
  obtain ⟨rfl, _⟩ := hr.uniq h2
  exact ⟨rfl, hr.pre⟩
theorem recL_len {e : En} (h : EnOk e) : (recL e).length ≤ 198 := by
  have := (body_len h).2
  have e1 : (recL e).length = (bodyL e).length + 6 := recB_len _
  omega
theorem flat_len_le : ∀ (l : List En), (∀ e ∈ l, EnOk e) → (l.flatMap recL).length ≤ 198 * l.length
  | [], _ => by simp
  | e :: l, h => by
    have h1 := recL_len (h e List.mem_cons_self)
    have h2 := flat_len_le l (fun x hx => h x (List.mem_cons_of_mem _ hx))
    rw [List.flatMap_cons, List.length_append, List.length_cons]
    omega
/-- The record that is appended last. -/
def z9 : En := ⟨[122, 61, 57], 1, 2⟩
theorem z9_rd : rdF z9.nm = (0, -1) := by decide +kernel
theorem z9_ok : EnOk z9 := ⟨by rw [z9_rd], by decide, by decide⟩
theorem last_ap {done : List En} (h : ∀ e ∈ done, EnOk e) (hl : done.length ≤ 60) : apF ⟨done.flatMap recL, false, -1⟩ z9 = (0, -1) ∧ (apD ⟨done.flatMap recL, false, -1⟩ z9).b = (done ++ [z9]).flatMap recL := by
  have h1 := flat_len_le done h
  have h2 := recL_len z9_ok
  have h3 : (done.flatMap recL).length + (recL z9).length ≤ 65536 := by omega
  have hw := wrD_all (d := ⟨done.flatMap recL, false, -1⟩) rfl (s := recL z9) (fun hh => absurd hh.1 (show ¬ (0 : Int) ≤ -1 by decide))
  refine ⟨?_, ?_⟩
  · unfold apF
    rw [if_neg (fun hh => hh z9_ok.1), if_neg (by rw [z9_ok.2.1]; decide), if_neg (by dsimp only; omega), hw]
    rfl
  · rw [apD_of z9_ok.1 z9_ok.2.1 h3, hw, List.flatMap_append, List.flatMap_singleton]
theorem read_all {l : List En} (h : ∀ e ∈ l, EnOk e) {l' : List En} {n : Nat} (hr : IsRead (l.flatMap recL) l' n) : l' = l ∧ n = (l.flatMap recL).length := by
  have h2 := IsRead.of h no_rec_nil
  rw [List.append_nil] at h2
  exact hr.uniq h2
end Go.Proofs.YtfkklcmepcocoaaDoor
