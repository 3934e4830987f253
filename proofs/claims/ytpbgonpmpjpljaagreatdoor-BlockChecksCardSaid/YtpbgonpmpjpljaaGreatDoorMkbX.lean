/- What all card rows of this seat share: the arguments read again behind the call; the door's own heap for the witness. -/
import Derived.Test.YtpbgonpmpjpljaaGreatDoorCards
import Derived.Test.YtpbgonpmpjpljaaGreatDoorTie
import Derived.Test.YtpbgonpmpjpljaaGreatDoorBaseX
import Derived.ProofKit
import Derived.OpenShut
import Derived.LaidMore
import Derived.LaidHandle
import Derived.LaidLaws
import Derived.ChangeSame
import Derived.SevenTiedAt
import Derived.Stop.LaidErr
import Derived.Test.YtpbgonpmpjpljaaGreatDoorMkaX
import Derived.Lay
namespace Go.Proofs.YtpbgonpmpjpljaaGreatDoor
open Go.RowKit Go.ChangeShapes Go.WideShapes Go.ChangeAt
set_option linter.unusedVariables false

theorem own_knob : ownKnob Tryz.prog.godebug = none := by kernel_rfl
theorem laid_out : laidOutB Tryz.prog = true := by kernel_rfl

/-- All the arguments read behind the call as before it. -/
theorem trodAll_belowP {H : Type} {enc : TypeId × Value → H} {P : Program} (hl : laidOutB P = true) {W W' : World} (hb : Below W.heap.size W W') :
    ∀ (ts : List TypeId) (vs : List Value) (ds : List (DataW H)) (p : List MemPlace), ts.all (fun t => P.readableRec t && decide (t < P.types.size)) = true →
      DataW.TrodAll enc P W 0 (fun _ => true) true ts vs ds p → (∀ x ∈ p, x.block < W.heap.size) → DataW.TrodAll enc P W' 0 (fun b => decide (b < W.heap.size)) true ts vs ds p := by
  intro ts
  induction ts with
  | nil =>
    intro vs ds p _ h _
    cases vs with
    | nil => cases ds with
      | nil => exact h
      | cons => exact h.elim
    | cons => cases ds <;> exact h.elim
  | cons t ts ih =>
    intro vs ds p ht h hp
    obtain ⟨v, vs', d, ds', p0, q0, rfl, rfl, rfl, h0, h1⟩ := trodAll_cons h
    rw [List.all_cons, Bool.and_eq_true] at ht
    obtain ⟨ht0, ht1⟩ := ht
    rw [Bool.and_eq_true, decide_eq_true_eq] at ht0
    exact ⟨p0, q0, Below.trod hl ht0.1 ht0.2 h0 hb (fun x hx => hp x (List.mem_append_left _ hx)), ih _ _ _ ht1 h1 (fun x hx => hp x (List.mem_append_right _ hx)), rfl⟩
theorem trodAll_below {H : Type} {enc : TypeId × Value → H} {W W' : World} (hb : Below W.heap.size W W') {ts : List TypeId} {vs : List Value} {ds : List (DataW H)} {p : List MemPlace}
    (ht : ts.all (fun t => Tryz.prog.readableRec t && decide (t < Tryz.prog.types.size)) = true) (h : DataW.TrodAll enc Tryz.prog W 0 (fun _ => true) true ts vs ds p) (hp : ∀ x ∈ p, x.block < W.heap.size) :
    DataW.TrodAll enc Tryz.prog W' 0 (fun b => decide (b < W.heap.size)) true ts vs ds p := trodAll_belowP laid_out hb ts vs ds p ht h hp
end Go.Proofs.YtpbgonpmpjpljaaGreatDoor

namespace Go.Proofs.YtpbgonpmpjpljaaGreatDoor
open Go.RowKit
set_option linter.unusedVariables false

def sentD (nm : String) (x : String × List UInt8) : String × DataW Unit := (x.1, .iface nm (.ptr (.agg [.lit (.string x.2)])))

theorem laid_sents {P : Program} {W : World} {nm : String} {ti tp te ts : TypeId} {ms : Array (String × TypeId)} {f : Field}
    (hi : P.underlying ti = some (.interface ms)) (hrow : ∀ u, P.typeName? 3 u = some nm → u = tp)
    (hp : P.underlying tp = some (.pointer te)) (he : P.underlying te = some (.struct #[f])) (hft : f.type = ts) (hfo : f.offset = 0) (hs : P.underlying ts = some .string) (hc : P.cellsOf te = 1) (hcs : P.cellsOf ts = 1) :
    ∀ (l : List (String × List UInt8)) (ps : List MemPlace), DataW.LaidVars P W (l.map (sentD nm)) ps → ps.Nodup →
      (∀ b off, MemPlace.cell b off ∈ ps → (∃ c t, W.heap[b]? = some (.cells c t (0, 0))) ∧ ∀ u v, W.cell? ⟨b, off, none⟩ = some (.iface u v) → Value.okWide P W .any 0 u v) →
      (∀ n ∈ l.map (·.1), ∃ g, P.globalNamed n = some g ∧ (P.globals[g]?).map (·.type) = some ti) →
      ∃ es : List Addr, es.Nodup ∧ (∀ a ∈ es, MemPlace.cell a.block a.off ∈ ps) ∧ es.length = l.length ∧
        ∀ (i : Nat) x a, l[i]? = some x → es[i]? = some a → W.var? P x.1 = some #[.iface tp (.pointer (some a))] ∧ ∃ c t, W.heap[a.block]? = some (.cells c t (0, 0))
  | [], ps, hl, hn, hrows, hg => ⟨[], List.nodup_nil, by simp, rfl, by simp⟩
  | x :: r, ps, hl, hn, hrows, hg => by
    obtain ⟨g0, t0, cs0, f0, p0, q0, hg0, ht0, hv0, hd0, hq, rfl⟩ := hl
    obtain ⟨g, hga, hgb⟩ := hg x.1 (by simp)
    obtain rfl := Option.some.inj (hga.symm.trans hg0)
    obtain rfl := Option.some.inj (hgb.symm.trans ht0)
    obtain ⟨l0⟩ := cs0
    have ok0 : ∀ u v, l0 = [.iface u v] → Value.okWide P W .any 0 u v := fun u v e => by
      subst e
      exact (hrows g 0 (by simp [MemPlace.row])).2 u v (by simpa using World.var?_cell hg0 hv0 0)
    obtain ⟨a0, s0, rfl, hc0, hs0, hz0, rfl⟩ := errorString_of_trod hi hrow hp he hft hfo hs hc hcs hd0 ok0
    have hb0 := (hrows a0.block a0.off (by simp [MemPlace.row])).1
    obtain ⟨es, h1, h2, h3, h4⟩ := laid_sents hi hrow hp he hft hfo hs hc hcs r q0 hq (List.Nodup.sublist (List.sublist_append_right _ _) hn) (fun b off hm => hrows b off (List.mem_append_right _ hm)) (fun n hm => hg n (by simp only [List.map_cons, List.mem_cons]; exact .inr hm))
    refine ⟨a0 :: es, List.nodup_cons.2 ⟨fun hm => ?_, h1⟩, ?_, by simp [h3], ?_⟩
    · have hd := (List.nodup_append.1 hn).2.2
      exact hd (.cell a0.block a0.off) (by simp [MemPlace.row]) _ (h2 a0 hm) rfl
    · intro a ha
      rcases List.mem_cons.1 ha with rfl | ha
      · simp [MemPlace.row]
      · exact List.mem_append_right _ (h2 a ha)
    · intro i y a hy ha
      cases i with
      | zero =>
        obtain rfl : x = y := by simpa using hy
        obtain rfl : a0 = a := by simpa using ha
        exact ⟨hv0, hb0⟩
      | succ i => exact h4 i y a (by simpa using hy) (by simpa using ha)
end Go.Proofs.YtpbgonpmpjpljaaGreatDoor

namespace Go.Proofs.YtpbgonpmpjpljaaGreatDoor
open Go.RowKit Go.ChangeShapes
set_option linter.unusedVariables false

/-- The sentinels' names and texts, in plain.Code's order. -/
def sentL : List (String × List UInt8) := [
  ("tidegauge/api.ErrText", [116, 105, 100, 101, 103, 97, 117, 103, 101, 58, 32, 116, 101, 120, 116]),
  ("tidegauge/api.ErrBound", [116, 105, 100, 101, 103, 97, 117, 103, 101, 58, 32, 98, 111, 117, 110, 100]),
  ("tidegauge/api.ErrShape", [116, 105, 100, 101, 103, 97, 117, 103, 101, 58, 32, 115, 104, 97, 112, 101]),
  ("tidegauge/api.ErrName", [116, 105, 100, 101, 103, 97, 117, 103, 101, 58, 32, 110, 97, 109, 101]),
  ("tidegauge/api.ErrNone", [116, 105, 100, 101, 103, 97, 117, 103, 101, 58, 32, 110, 111, 110, 101]),
  ("tidegauge/api.ErrExist", [116, 105, 100, 101, 103, 97, 117, 103, 101, 58, 32, 101, 120, 105, 115, 116]),
  ("tidegauge/api.ErrFull", [116, 105, 100, 101, 103, 97, 117, 103, 101, 58, 32, 102, 117, 108, 108]),
  ("tidegauge/api.ErrOld", [116, 105, 100, 101, 103, 97, 117, 103, 101, 58, 32, 111, 108, 100]),
  ("tidegauge/api.ErrSum", [116, 105, 100, 101, 103, 97, 117, 103, 101, 58, 32, 115, 117, 109]),
  ("tidegauge/api.ErrOff", [116, 105, 100, 101, 103, 97, 117, 103, 101, 58, 32, 111, 102, 102]),
  ("tidegauge/api.ErrKind", [116, 105, 100, 101, 103, 97, 117, 103, 101, 58, 32, 107, 105, 110, 100])]
theorem e_star : "*" ++ "errors.errorString" = "*errors.errorString" := by decide
theorem e_row (u : TypeId) (h : Tryz.prog.typeName? 3 u = some "*errors.errorString") : u = 274 :=
  typeName_ptr_named (nm := "errors.errorString") (by rw [e_star]; kernel_rfl) (by kernel_rfl) (by decide) u (by rw [e_star]; exact h)
theorem sentL_glob /- 10 7 5 8 -/ (k : Nat) (hk : k < 11) : ∃ x, sentL[k]? = some x ∧ Tryz.prog.globalNamed x.1 = some (gErr k) ∧ (Tryz.prog.globals[gErr k]?).map (·.type) = some 34 := by
  match k, hk with
  | 0, _ => exact ⟨_, rfl, by kernel_rfl, by kernel_rfl⟩
  | 1, _ => exact ⟨_, rfl, by kernel_rfl, by kernel_rfl⟩
  | 2, _ => exact ⟨_, rfl, by kernel_rfl, by kernel_rfl⟩
  | 3, _ => exact ⟨_, rfl, by kernel_rfl, by kernel_rfl⟩
  | 4, _ => exact ⟨_, rfl, by kernel_rfl, by kernel_rfl⟩
  | 5, _ => exact ⟨_, rfl, by kernel_rfl, by kernel_rfl⟩
  | 6, _ => exact ⟨_, rfl, by kernel_rfl, by kernel_rfl⟩
  | 7, _ => exact ⟨_, rfl, by kernel_rfl, by kernel_rfl⟩
  | 8, _ => exact ⟨_, rfl, by kernel_rfl, by kernel_rfl⟩
  | 9, _ => exact ⟨_, rfl, by kernel_rfl, by kernel_rfl⟩
  | 10, _ => exact ⟨_, rfl, by kernel_rfl, by kernel_rfl⟩
theorem e_et : Tryz.prog.globalNamed "errors.errorType" = some 11 := by kernel_rfl
theorem e_rt : (Tryz.prog.cutTypes.find? (·.1 == "internal/reflectlite.rtype")).map (·.2) = some 175 := by kernel_rfl
theorem e_types : Tryz.prog.types.size = 404 - 100 := by kernel_rfl
theorem e_oneRow : ((List.range (404 - 100)).filter fun t => Tryz.prog.rowNamed t [101, 114, 114, 111, 114]) = [34] := by kernel_rfl
def etyD : String × DataW Unit := ("errors.errorType", .iface "internal/reflectlite.rtype" (.agg [.ptr (.lit (.string [101, 114, 114, 111, 114]))]))

theorem ety_of_met {W : World} (h : handlesMet Tryz.prog [etyD] W) : W.cell? ⟨11, 0, none⟩ = some (.iface 175 (.agg #[.pointer (some ⟨18, 34, none⟩)])) := by
  obtain ⟨name, u, ty, e1, e2, e3, e4, e5⟩ := h _ (List.mem_singleton.2 rfl)
  have en : name = [101, 114, 114, 111, 114] := (Option.some.inj e1).symm
  subst en
  obtain rfl := Option.some.inj (e_rt.symm.trans e2)
  have hm : ty ∈ (List.range (404 - 100)).filter fun t => Tryz.prog.rowNamed t [101, 114, 114, 111, 114] := List.mem_filter.2 ⟨List.mem_range.2 (by rw [← e_types]; exact e3), e4⟩
  rw [e_oneRow] at hm
  obtain rfl := List.mem_singleton.1 hm
  have hh : typeHandle Tryz.prog 34 = .pointer (some ⟨18, 34, none⟩) := by kernel_rfl
  rw [hh] at e5
  simpa using World.var?_cell e_et e5 0
theorem cell_lt {W : World} {g i : Nat} {v : Value} (h : W.cell? ⟨g, i, none⟩ = some v) : g < W.heap.size := by
  rcases Nat.lt_or_ge g W.heap.size with h' | h'
  · exact h'
  · simp [World.cell?, Array.getElem?_eq_none h'] at h

theorem sents_of_met {W : World} (h : laidMet Tryz.prog (sentL.map (sentD "*errors.errorString")) W) (he : handlesMet Tryz.prog [etyD] W) : ∃ es : Nat → Addr, Sents es W.heap.size W := by
  obtain ⟨ps, hv, hnd, hrows⟩ := h
  have hg : ∀ n ∈ sentL.map (·.1), ∃ g, Tryz.prog.globalNamed n = some g ∧ (Tryz.prog.globals[g]?).map (·.type) = some 34 := by
    intro n hn
    obtain ⟨x, hx, rfl⟩ := List.mem_map.1 hn
    obtain ⟨k, hk, hxk⟩ := List.mem_iff_getElem.1 hx
    obtain ⟨y, hy, h1, h2⟩ := sentL_glob k hk
    have : x = y := Option.some.inj ((by rw [← hxk]; exact (List.getElem?_eq_getElem hk).symm : some x = sentL[k]?).trans hy)
    subst this
    exact ⟨_, h1, h2⟩
  obtain ⟨es, h1, h2, h3, h4⟩ := laid_sents Tryz.underlying34 e_row Tryz.underlying274 Tryz.underlying292 rfl rfl Tryz.underlying9 (by kernel_rfl) (by kernel_rfl) sentL ps hv hnd hrows hg
  have hl : es.length = 11 := h3
  have get : ∀ k, k < 11 → es[k]? = some (es.getD k ⟨0, 0, none⟩) := by
    intro k hk
    rw [List.getD_eq_getElem?_getD, List.getElem?_eq_getElem (by omega)]; rfl
  have var : ∀ k, k < 11 → W.cell? ⟨gErr k, 0, none⟩ = some (sentV (es.getD k ⟨0, 0, none⟩)) := by
    intro k hk
    obtain ⟨x, hx, hxg, _⟩ := sentL_glob k hk
    have := (h4 k x _ hx (get k hk)).1
    simpa using World.var?_cell hxg this 0
  have hety := ety_of_met he
  refine ⟨fun k => es.getD k ⟨0, 0, none⟩, ⟨var, ?_, ?_, fun k hk => cell_lt (var k hk), ?_, hety, cell_lt hety⟩⟩
  · intro k hk
    obtain ⟨x, hx, _⟩ := sentL_glob k hk
    exact (h4 k x _ hx (get k hk)).2
  · intro k hk
    obtain ⟨x, hx, _⟩ := sentL_glob k hk
    obtain ⟨c, t, e⟩ := (h4 k x _ hx (get k hk)).2
    exact (Array.getElem?_eq_some_iff.1 e).1
  · intro j k hj hk e
    have hn := List.pairwise_iff_getElem.1 h1
    have gd : ∀ (k : Nat) (hk : k < es.length), es.getD k ⟨0, 0, none⟩ = es[k] := fun k hk => by
      rw [List.getD_eq_getElem?_getD, List.getElem?_eq_getElem hk]; rfl
    have ej := gd j (by omega)
    have ek := gd k (by omega)
    rcases Nat.lt_trichotomy j k with h | h | h
    · exact absurd (by rw [← ej, ← ek]; exact e) (hn j k (by omega) (by omega) h)
    · exact h
    · exact absurd (by rw [← ej, ← ek]; exact e.symm) (hn k j (by omega) (by omega) h)
end Go.Proofs.YtpbgonpmpjpljaaGreatDoor

namespace Go.Proofs.YtpbgonpmpjpljaaGreatDoor
open Go.RowKit Go.ChangeShapes
set_option linter.unusedVariables false

def plainL (l : List (String × DataW Unit)) : List (String × DataW Unit) := l.filter fun x => x.2.handleName?.isNone
/-- The door's own heap, the list's plain data laid into it. -/
noncomputable def witW (os : Os) (l : List (String × DataW Unit)) : World := (World.doorLaid Tryz.prog 230 os).layVars Tryz.prog (plainL l)
theorem witW_os (os : Os) (l : List (String × DataW Unit)) : (witW os l).os = os := by
  unfold witW
  rw [World.layVars_os]
  rfl
theorem met_wit {os : Os} {l : List (String × DataW Unit)} (args : Array Value) (hf : (World.doorLaid Tryz.prog 230 os).layFits Tryz.prog (plainL l) [] = true)
    (hi : (World.doorLaid Tryz.prog 230 os).layIfaces Tryz.prog (plainL l) (witW os l) = true) : laidMet Tryz.prog (plainL l) ((witW os l).forCall (fun _ _ => 0) ⟨#[], args, []⟩).memory := by
  have e1 : ((plainL l).filter fun x => ((plainL l).map (·.1)).contains x.1) = plainL l := List.filter_eq_self.2 fun x hx => List.contains_iff_mem.2 (List.mem_map.2 ⟨x, hx, rfl⟩)
  have e2 : ((plainL l).filter fun x => !((plainL l).map (·.1)).contains x.1) = [] := List.filter_eq_nil_iff.2 fun x hx => by rw [List.contains_iff_mem.2 (List.mem_map.2 ⟨x, hx, rfl⟩)]; simp
  have h : laidMet Tryz.prog (plainL l) (witW os l) := laidMet_layVars (w0 := World.doorLaid Tryz.prog 230 os) ((plainL l).map (·.1)) [] (by rw [e1]; rfl) (by rw [e1]; exact hf) (by rw [e1]; exact hi) (by rw [e2]; exact LaidIn.none)
  exact h.of_heap (by simp [World.memory, World.forCall, Input.heap])

theorem laidMet_perm {P : Program} {l l' : List (String × DataW Unit)} {w : World} (hp : l.Perm l') (h : laidMet P l w) : laidMet P l' w := by
  obtain ⟨ps, h1, h2, h3⟩ := h
  obtain ⟨ps', g1, g2⟩ := Lay.LaidVars_perm hp h1
  exact ⟨ps', g1, g2.nodup_iff.1 h2, fun b off hb => h3 b off (g2.mem_iff.2 hb)⟩
theorem laidMet_init {P : Program} {l : List (String × DataW Unit)} {x : String × DataW Unit} {w : World} (h : laidMet P (l ++ [x]) w) : laidMet P l w :=
  laidMet.tail (laidMet_perm (List.perm_append_comm (l₁ := l) (l₂ := [x])) h)
end Go.Proofs.YtpbgonpmpjpljaaGreatDoor
