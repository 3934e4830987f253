/- A head and its reference side by side. -/
import Derived.Test.YtfnjgminbjopeaaGreatDoorRCutQ
import Derived.Test.YtfnjgminbjopeaaGreatDoorHeadCut2Q
import Derived.Test.YtfnjgminbjopeaaGreatDoorHeadInvQ
namespace Go.Proofs.YtfnjgminbjopeaaGreatDoor
open Go.RowKit Go.Maps
set_option linter.unusedVariables false

theorem radd_any {G : Nat → Prop} {b : Nat} {lv : Value} {L : List RLn} (s : Bs) (p : Int × Int) (w : World) (hs : s.length ≤ 100000) (hR : RefAt w G b lv L) (hL : L.length ≤ 1000) (hN : ∀ x ∈ L, x.pts.length ≤ 100000) (hsr : hSrt (absR L)) :
    Calls Tryz.prog 8 #[.pointer (some ⟨b, 0, none⟩), .string (B8 s), .agg #[.int .i64 p.1, .int .u64 p.2]] w (RAPost G b L s p w) := by
  by_cases h0 : (hFault (absR L) s p).1 = 0
  · by_cases hix : rIx L s < L.length
    · exact radd_known s p w hs hR hL hN hsr h0 hix
    · exact radd_new s p w hs hR hL hN hsr h0 hix
  · exact radd_bad s p w hs hR hL h0
theorem HeadAt.lt {F : Nat → Prop} {w : World} {hb mb : Nat} {D : DataW Unit} {L : List HLn} (h : HeadAt w F hb mb D L) : HeadAt w (fun k => F k ∧ k < w.heap.size) hb mb D L :=
  ⟨h.hd, h.mp, h.dof, fun x hx => ⟨(h.ln x hx).1, (h.ln x hx).2.1, ⟨(h.ln x hx).2.2.1, (h.ln x hx).1.lt⟩, fun g hg => ⟨(h.ln x hx).2.2.2 g hg, (h.ln x hx).2.1.lt g hg⟩⟩, h.ap, ⟨h.fh, h.hd.lt⟩, ⟨h.fm, h.mp.lt⟩, h.srt⟩
/-- What holds of a head after so many acts. -/
structure HRs (A : List HA) (k : Nat) : Prop where
  inv : HInv A
  srt : hSrt A
  cnt : hCount A ≤ k
  len : A.length ≤ 60
  nm : ∀ x ∈ A, x.1.length ≤ 200
theorem HRs.nil : HRs [] 0 := ⟨HInv.nil, List.Pairwise.nil, Nat.le_refl _, by simp, fun x h => by cases h⟩
theorem HRs.skip {A : List HA} {k : Nat} (h : HRs A k) : HRs A (k + 1) := ⟨h.inv, h.srt, Nat.le_succ_of_le h.cnt, h.len, h.nm⟩
theorem HRs.add {A : List HA} {k : Nat} (h : HRs A k) {s : Bs} {p : Int × Int} (hs : s.length ≤ 200) (hf : (hFault A s p).1 = 0) : HRs (hAdd A s p) (k + 1) := by
  refine ⟨h.inv.add h.srt hf, hAdd_srt h.srt, by rw [hCount_add h.srt]; have := h.cnt; omega, hAdd_len hf h.len, fun y hy => ?_⟩
  rcases hAdd_mem h.srt hy with hy | ⟨x, _, _, rfl⟩ | ⟨_, rfl⟩
  · exact h.nm y hy
  · exact hs
  · exact hs
theorem HRs.cut {A : List HA} {k : Nat} (h : HRs A k) (b : Int) : HRs (hCut A b) (k + 1) := by
  refine ⟨h.inv.cut b, hCut_srt h.srt, by have := cut_count A b; have := h.cnt; omega, by unfold hCut; rw [List.length_map]; exact h.len, fun x hx => ?_⟩
  unfold hCut at hx
  obtain ⟨y, hy, rfl⟩ := List.mem_map.1 hx
  exact h.nm y hy
structure Two (B : Nat) (w : World) (F G : Nat → Prop) (q mb rb : Nat) (D : DataW Unit) (HL : List HLn) (lv : Value) (RL : List RLn) (k : Nat) : Prop where
  hH : HeadAt w F q mb D HL
  hR : RefAt w G rb lv RL
  eq : absR RL = absL HL
  dj : ∀ j, F j → ¬ G j
  tF : ∀ j, F j → B ≤ j ∧ j < w.heap.size
  tG : ∀ j, G j → B ≤ j ∧ j < w.heap.size
  st : HRs (absL HL) k
theorem Two.below {B : Nat} {w w' : World} {F G : Nat → Prop} {q mb rb : Nat} {D : DataW Unit} {HL : List HLn} {lv : Value} {RL : List RLn} {k : Nat} (h : Two B w F G q mb rb D HL lv RL k) (hb : Below w.heap.size w w') : Two B w' F G q mb rb D HL lv RL k :=
  ⟨h.hH.below hb, h.hR.below hb, h.eq, h.dj, fun j hj => ⟨(h.tF j hj).1, Nat.lt_of_lt_of_le (h.tF j hj).2 hb.size⟩, fun j hj => ⟨(h.tG j hj).1, Nat.lt_of_lt_of_le (h.tG j hj).2 hb.size⟩, h.st⟩
theorem Two.keep {B : Nat} {w w' : World} {F G : Nat → Prop} {q mb rb : Nat} {D : DataW Unit} {HL : List HLn} {lv : Value} {RL : List RLn} {k : Nat} (h : Two B w F G q mb rb D HL lv RL k) (hb : Fr (fun _ => False) w w') : Two B w' F G q mb rb D HL lv RL k :=
  ⟨h.hH.fr hb (fun _ _ h => h), h.hR.fr hb (fun _ _ h => h), h.eq, h.dj, fun j hj => ⟨(h.tF j hj).1, Nat.lt_of_lt_of_le (h.tF j hj).2 hb.size⟩, fun j hj => ⟨(h.tG j hj).1, Nat.lt_of_lt_of_le (h.tG j hj).2 hb.size⟩, h.st⟩
theorem Two.skip {B : Nat} {w : World} {F G : Nat → Prop} {q mb rb : Nat} {D : DataW Unit} {HL : List HLn} {lv : Value} {RL : List RLn} {k : Nat} (h : Two B w F G q mb rb D HL lv RL k) : Two B w F G q mb rb D HL lv RL (k + 1) := ⟨h.hH, h.hR, h.eq, h.dj, h.tF, h.tG, h.st.skip⟩
theorem abs_len2 (L : List HLn) : (absL L).length = L.length := by unfold absL; rw [List.length_map]
theorem cnt_le {A : List HA} {x : HA} (h : x ∈ A) : x.2.1.length ≤ hCount A := by
  induction A with
  | nil => cases h
  | cons a A ih =>
    rw [hCount_cons]
    rcases List.mem_cons.1 h with rfl | h
    · omega
    · have := ih h; omega
section
variable {B : Nat} {w : World} {F G : Nat → Prop} {q mb rb : Nat} {D : DataW Unit} {HL : List HLn} {lv : Value} {RL : List RLn} {k : Nat}
theorem Two.hl (h : Two B w F G q mb rb D HL lv RL k) : HL.length ≤ 60 := by rw [← abs_len2]; exact h.st.len
theorem Two.rl (h : Two B w F G q mb rb D HL lv RL k) : RL.length ≤ 60 := by rw [← absR_len, h.eq]; exact h.st.len
theorem Two.hp (h : Two B w F G q mb rb D HL lv RL k) : ∀ x ∈ HL, x.pts.length ≤ k := fun x hx => Nat.le_trans (cnt_le (List.mem_map.2 ⟨x, hx, rfl⟩ : (x.nm, x.pts, x.last) ∈ absL HL)) h.st.cnt
theorem Two.rp (h : Two B w F G q mb rb D HL lv RL k) : ∀ x ∈ RL, x.pts.length ≤ k := fun x hx => Nat.le_trans (cnt_le (by rw [← h.eq]; exact List.mem_map.2 ⟨x, hx, rfl⟩ : (x.nm, x.pts, x.last) ∈ absL HL)) h.st.cnt
theorem Two.hn (h : Two B w F G q mb rb D HL lv RL k) : ∀ x ∈ HL, x.nm.length ≤ 200 := fun x hx => h.st.nm _ (List.mem_map.2 ⟨x, hx, rfl⟩ : (x.nm, x.pts, x.last) ∈ absL HL)
/-- The reference stands while the head turns. -/
theorem Two.mid (h : Two B w F G q mb rb D HL lv RL k) {w1 : World} (hf : Fr F w w1) : RefAt w1 G rb lv RL := h.hR.fr hf (fun j hg hF => h.dj j hF hg)
theorem Two.step (h : Two B w F G q mb rb D HL lv RL k) (hB : B ≤ w.heap.size) {w1 w2 : World} {D' : DataW Unit} {HL' : List HLn} {lv' : Value} {RL' : List RLn} {k' : Nat} (h1 : HeadAt w1 (fun j => F j ∨ w.heap.size ≤ j) q mb D' HL') (f1 : Fr F w w1)
    (h2 : RefAt w2 (fun j => G j ∨ w1.heap.size ≤ j) rb lv' RL') (f2 : Fr G w1 w2) (he : absR RL' = absL HL') (hs : HRs (absL HL') k') : (∃ F' G', Two B w2 F' G' q mb rb D' HL' lv' RL' k') ∧ Below B w w2 := by
  have s1 := f1.size
  have s2 := f2.size
  refine ⟨⟨fun j => (F j ∨ w.heap.size ≤ j) ∧ j < w1.heap.size, fun j => (G j ∨ w1.heap.size ≤ j) ∧ j < w2.heap.size, ?_, h2.lt, he, ?_, ?_, ?_, hs⟩, ?_⟩
  · refine h1.lt.fr f2 (fun j hj hg => ?_)
    rcases hj with ⟨hj | hj, _⟩
    · exact h.dj j hj hg
    · have := (h.tG j hg).2; omega
  · intro j hj hg
    rcases hg with ⟨hg | hg, _⟩
    · rcases hj with ⟨hj | hj, _⟩
      · exact h.dj j hj hg
      · have := (h.tG j hg).2; omega
    · omega
  · intro j hj
    rcases hj with ⟨hj | hj, hl⟩
    · exact ⟨(h.tF j hj).1, by omega⟩
    · exact ⟨by omega, by omega⟩
  · intro j hj
    rcases hj with ⟨hj | hj, hl⟩
    · exact ⟨(h.tG j hj).1, by omega⟩
    · exact ⟨by omega, by omega⟩
  · exact Below.trans (f1.below hB (fun j hj hF => by have := (h.tF j hF).1; omega)) (f2.below (by omega) (fun j hj hG => by have := (h.tG j hG).1; omega))
end
end Go.Proofs.YtfnjgminbjopeaaGreatDoor
