/- What all card rows of this seat share: the arguments read again behind the call; the door's own heap for the witness. -/
import Derived.Test.YtlpkmghhmpkddaaDoorCards
import Derived.Test.YtlpkmghhmpkddaaDoorTie
import Derived.Test.YtlpkmghhmpkddaaDoorBase
import Derived.ProofKit
import Derived.OpenShut
import Derived.LaidMore
import Derived.LaidHandle
import Derived.LaidLaws
import Derived.ChangeSame
import Derived.SevenTiedAt
import Derived.Stop.LaidErr
import Derived.Test.YtlpkmghhmpkddaaDoorCode
import Derived.Test.YtlpkmghhmpkddaaDoorOrd
import Derived.Test.YtlpkmghhmpkddaaDoorFitN
import Derived.Test.YtlpkmghhmpkddaaDoorLabelled
namespace Go.Proofs.YtlpkmghhmpkddaaDoor
open Go.RowKit Go.ChangeShapes Go.WideShapes Go.ChangeAt
set_option linter.unusedVariables false

theorem own_knob : ownKnob Tryd.prog.godebug = none := by kernel_rfl
theorem laid_out : laidOutB Tryd.prog = true := by kernel_rfl

/-- All the arguments read behind the call as before it. -/
theorem trodAll_belowP {H : Type} {enc : TypeId × Value → H} {P : Program} (hl : laidOutB P = true) {W W' : World} (hb : Below W.heap.size W W') :
    ∀ (ts : List TypeId) (vs : List Value) (ds : List (DataW H)) (p : List MemPlace), ts.all (fun t => P.readableRec t && decide (t < P.types.size)) = true →
      DataW.TrodAll enc P W 0 (fun _ => true) true ts vs ds p → (∀ x ∈ p, x.block < W.heap.size) → DataW.TrodAll enc P W' 0 (fun b => decide (b < W.heap.size)) true ts vs ds p := by
  intro ts
  induction ts with
  | nil =>
    intro vs ds p _ h _
    cases vs with
    | nil => cases ds with
      | nil => exact h
      | cons => exact h.elim
    | cons => cases ds <;> exact h.elim
  | cons t ts ih =>
    intro vs ds p ht h hp
    obtain ⟨v, vs', d, ds', p0, q0, rfl, rfl, rfl, h0, h1⟩ := trodAll_cons h
    rw [List.all_cons, Bool.and_eq_true] at ht
    obtain ⟨ht0, ht1⟩ := ht
    rw [Bool.and_eq_true, decide_eq_true_eq] at ht0
    exact ⟨p0, q0, Below.trod hl ht0.1 ht0.2 h0 hb (fun x hx => hp x (List.mem_append_left _ hx)), ih _ _ _ ht1 h1 (fun x hx => hp x (List.mem_append_right _ hx)), rfl⟩
theorem trodAll_below {H : Type} {enc : TypeId × Value → H} {W W' : World} (hb : Below W.heap.size W W') {ts : List TypeId} {vs : List Value} {ds : List (DataW H)} {p : List MemPlace}
    (ht : ts.all (fun t => Tryd.prog.readableRec t && decide (t < Tryd.prog.types.size)) = true) (h : DataW.TrodAll enc Tryd.prog W 0 (fun _ => true) true ts vs ds p) (hp : ∀ x ∈ p, x.block < W.heap.size) :
    DataW.TrodAll enc Tryd.prog W' 0 (fun b => decide (b < W.heap.size)) true ts vs ds p := trodAll_belowP laid_out hb ts vs ds p ht h hp
end Go.Proofs.YtlpkmghhmpkddaaDoor

namespace Go.Proofs.YtlpkmghhmpkddaaDoor
open Go.RowKit
set_option linter.unusedVariables false

def sentD (nm : String) (x : String × List UInt8) : String × DataW Unit := (x.1, .iface nm (.ptr (.agg [.lit (.string x.2)])))

theorem laid_sents {P : Program} {W : World} {nm : String} {ti tp te ts : TypeId} {ms : Array (String × TypeId)} {f : Field}
    (hi : P.underlying ti = some (.interface ms)) (hrow : ∀ u, P.typeName? 3 u = some nm → u = tp)
    (hp : P.underlying tp = some (.pointer te)) (he : P.underlying te = some (.struct #[f])) (hft : f.type = ts) (hfo : f.offset = 0) (hs : P.underlying ts = some .string) (hc : P.cellsOf te = 1) (hcs : P.cellsOf ts = 1) :
    ∀ (l : List (String × List UInt8)) (ps : List MemPlace), DataW.LaidVars P W (l.map (sentD nm)) ps → ps.Nodup →
      (∀ b off, MemPlace.cell b off ∈ ps → (∃ c t, W.heap[b]? = some (.cells c t (0, 0))) ∧ ∀ u v, W.cell? ⟨b, off, none⟩ = some (.iface u v) → Value.okWide P W .any 0 u v) →
      (∀ n ∈ l.map (·.1), ∃ g, P.globalNamed n = some g ∧ (P.globals[g]?).map (·.type) = some ti) →
      ∃ es : List Addr, es.Nodup ∧ (∀ a ∈ es, MemPlace.cell a.block a.off ∈ ps) ∧ es.length = l.length ∧
        ∀ (i : Nat) x a, l[i]? = some x → es[i]? = some a → W.var? P x.1 = some #[.iface tp (.pointer (some a))] ∧ ∃ c t, W.heap[a.block]? = some (.cells c t (0, 0))
  | [], ps, hl, hn, hrows, hg => ⟨[], List.nodup_nil, by simp, rfl, by simp⟩
  | x :: r, ps, hl, hn, hrows, hg => by
    obtain ⟨g0, t0, cs0, f0, p0, q0, hg0, ht0, hv0, hd0, hq, rfl⟩ := hl
    obtain ⟨g, hga, hgb⟩ := hg x.1 (by simp)
    obtain rfl := Option.some.inj (hga.symm.trans hg0)
    obtain rfl := Option.some.inj (hgb.symm.trans ht0)
    obtain ⟨l0⟩ := cs0
    have ok0 : ∀ u v, l0 = [.iface u v] → Value.okWide P W .any 0 u v := fun u v e => by
      subst e
      exact (hrows g 0 (by simp [MemPlace.row])).2 u v (by simpa using World.var?_cell hg0 hv0 0)
    obtain ⟨a0, s0, rfl, hc0, hs0, hz0, rfl⟩ := errorString_of_trod hi hrow hp he hft hfo hs hc hcs hd0 ok0
    have hb0 := (hrows a0.block a0.off (by simp [MemPlace.row])).1
    obtain ⟨es, h1, h2, h3, h4⟩ := laid_sents hi hrow hp he hft hfo hs hc hcs r q0 hq (List.Nodup.sublist (List.sublist_append_right _ _) hn) (fun b off hm => hrows b off (List.mem_append_right _ hm)) (fun n hm => hg n (by simp only [List.map_cons, List.mem_cons]; exact .inr hm))
    refine ⟨a0 :: es, List.nodup_cons.2 ⟨fun hm => ?_, h1⟩, ?_, by simp [h3], ?_⟩
    · have hd := (List.nodup_append.1 hn).2.2
      exact hd (.cell a0.block a0.off) (by simp [MemPlace.row]) _ (h2 a0 hm) rfl
    · intro a ha
      rcases List.mem_cons.1 ha with rfl | ha
      · simp [MemPlace.row]
      · exact List.mem_append_right _ (h2 a ha)
    · intro i y a hy ha
      cases i with
      | zero =>
        obtain rfl : x = y := by simpa using hy
        obtain rfl : a0 = a := by simpa using ha
        exact ⟨hv0, hb0⟩
      | succ i => exact h4 i y a (by simpa using hy) (by simpa using ha)
end Go.Proofs.YtlpkmghhmpkddaaDoor

namespace Go.Proofs.YtlpkmghhmpkddaaDoor
open Go.RowKit Go.ChangeShapes
set_option linter.unusedVariables false

/-- The sentinels' names and texts, in plain.Code's order. -/
def sentL : List (String × List UInt8) := [
  ("tidegauge/api.ErrText", [116, 105, 100, 101, 103, 97, 117, 103, 101, 58, 32, 116, 101, 120, 116]),
  ("tidegauge/api.ErrBound", [116, 105, 100, 101, 103, 97, 117, 103, 101, 58, 32, 98, 111, 117, 110, 100]),
  ("tidegauge/api.ErrShape", [116, 105, 100, 101, 103, 97, 117, 103, 101, 58, 32, 115, 104, 97, 112, 101]),
  ("tidegauge/api.ErrName", [116, 105, 100, 101, 103, 97, 117, 103, 101, 58, 32, 110, 97, 109, 101]),
  ("tidegauge/api.ErrNone", [116, 105, 100, 101, 103, 97, 117, 103, 101, 58, 32, 110, 111, 110, 101]),
  ("tidegauge/api.ErrExist", [116, 105, 100, 101, 103, 97, 117, 103, 101, 58, 32, 101, 120, 105, 115, 116]),
  ("tidegauge/api.ErrFull", [116, 105, 100, 101, 103, 97, 117, 103, 101, 58, 32, 102, 117, 108, 108]),
  ("tidegauge/api.ErrOld", [116, 105, 100, 101, 103, 97, 117, 103, 101, 58, 32, 111, 108, 100]),
  ("tidegauge/api.ErrSum", [116, 105, 100, 101, 103, 97, 117, 103, 101, 58, 32, 115, 117, 109]),
  ("tidegauge/api.ErrOff", [116, 105, 100, 101, 103, 97, 117, 103, 101, 58, 32, 111, 102, 102]),
  ("tidegauge/api.ErrKind", [116, 105, 100, 101, 103, 97, 117, 103, 101, 58, 32, 107, 105, 110, 100])]
theorem e_star : "*" ++ "errors.errorString" = "*errors.errorString" := by decide
theorem e_row (u : TypeId) (h : Tryd.prog.typeName? 3 u = some "*errors.errorString") : u = 122 :=
  typeName_ptr_named (nm := "errors.errorString") (by rw [e_star]; kernel_rfl) (by kernel_rfl) (by decide) u (by rw [e_star]; exact h)
theorem sentL_glob /- 4 8 6 9 -/ (k : Nat) (hk : k < 11) : ∃ x, sentL[k]? = some x ∧ Tryd.prog.globalNamed x.1 = some (gErr k) ∧ (Tryd.prog.globals[gErr k]?).map (·.type) = some 32 := by
  match k, hk with
  | 0, _ => exact ⟨_, rfl, by kernel_rfl, by kernel_rfl⟩
  | 1, _ => exact ⟨_, rfl, by kernel_rfl, by kernel_rfl⟩
  | 2, _ => exact ⟨_, rfl, by kernel_rfl, by kernel_rfl⟩
  | 3, _ => exact ⟨_, rfl, by kernel_rfl, by kernel_rfl⟩
  | 4, _ => exact ⟨_, rfl, by kernel_rfl, by kernel_rfl⟩
  | 5, _ => exact ⟨_, rfl, by kernel_rfl, by kernel_rfl⟩
  | 6, _ => exact ⟨_, rfl, by kernel_rfl, by kernel_rfl⟩
  | 7, _ => exact ⟨_, rfl, by kernel_rfl, by kernel_rfl⟩
  | 8, _ => exact ⟨_, rfl, by kernel_rfl, by kernel_rfl⟩
  | 9, _ => exact ⟨_, rfl, by kernel_rfl, by kernel_rfl⟩
  | 10, _ => exact ⟨_, rfl, by kernel_rfl, by kernel_rfl⟩
theorem e_et : Tryd.prog.globalNamed "errors.errorType" = some 11 := by kernel_rfl
theorem e_rt : (Tryd.prog.cutTypes.find? (·.1 == "internal/reflectlite.rtype")).map (·.2) = some 105 := by kernel_rfl
theorem e_types : Tryd.prog.types.size = 254 - 100 := by kernel_rfl
theorem e_oneRow : ((List.range (254 - 100)).filter fun t => Tryd.prog.rowNamed t [101, 114, 114, 111, 114]) = [32] := by kernel_rfl
def etyD : String × DataW Unit := ("errors.errorType", .iface "internal/reflectlite.rtype" (.agg [.ptr (.lit (.string [101, 114, 114, 111, 114]))]))

theorem ety_of_met {W : World} (h : handlesMet Tryd.prog [etyD] W) : W.cell? ⟨11, 0, none⟩ = some (.iface 105 (.agg #[.pointer (some ⟨13, 32, none⟩)])) := by
  obtain ⟨name, u, ty, e1, e2, e3, e4, e5⟩ := h _ (List.mem_singleton.2 rfl)
  have en : name = [101, 114, 114, 111, 114] := (Option.some.inj e1).symm
  subst en
  obtain rfl := Option.some.inj (e_rt.symm.trans e2)
  have hm : ty ∈ (List.range (254 - 100)).filter fun t => Tryd.prog.rowNamed t [101, 114, 114, 111, 114] := List.mem_filter.2 ⟨List.mem_range.2 (by rw [← e_types]; exact e3), e4⟩
  rw [e_oneRow] at hm
  obtain rfl := List.mem_singleton.1 hm
  have hh : typeHandle Tryd.prog 32 = .pointer (some ⟨13, 32, none⟩) := by kernel_rfl
  rw [hh] at e5
  simpa using World.var?_cell e_et e5 0
theorem cell_lt {W : World} {g i : Nat} {v : Value} (h : W.cell? ⟨g, i, none⟩ = some v) : g < W.heap.size := by
  rcases Nat.lt_or_ge g W.heap.size with h' | h'
  · exact h'
  · simp [World.cell?, Array.getElem?_eq_none h'] at h

theorem sents_of_met {W : World} (h : laidMet Tryd.prog (sentL.map (sentD "*errors.errorString")) W) (he : handlesMet Tryd.prog [etyD] W) : ∃ es : Nat → Addr, Sents es W.heap.size W := by
  obtain ⟨ps, hv, hnd, hrows⟩ := h
  have hg : ∀ n ∈ sentL.map (·.1), ∃ g, Tryd.prog.globalNamed n = some g ∧ (Tryd.prog.globals[g]?).map (·.type) = some 32 := by
    intro n hn
    obtain ⟨x, hx, rfl⟩ := List.mem_map.1 hn
    obtain ⟨k, hk, hxk⟩ := List.mem_iff_getElem.1 hx
    obtain ⟨y, hy, h1, h2⟩ := sentL_glob k hk
    have : x = y := Option.some.inj ((by rw [← hxk]; exact (List.getElem?_eq_getElem hk).symm : some x = sentL[k]?).trans hy)
    subst this
    exact ⟨_, h1, h2⟩
  obtain ⟨es, h1, h2, h3, h4⟩ := laid_sents Tryd.underlying32 e_row Tryd.underlying122 Tryd.underlying142 rfl rfl Tryd.underlying9 (by kernel_rfl) (by kernel_rfl) sentL ps hv hnd hrows hg
  have hl : es.length = 11 := h3
  have get : ∀ k, k < 11 → es[k]? = some (es.getD k ⟨0, 0, none⟩) := by
    intro k hk
    rw [List.getD_eq_getElem?_getD, List.getElem?_eq_getElem (by omega)]; rfl
  have var : ∀ k, k < 11 → W.cell? ⟨gErr k, 0, none⟩ = some (sentV (es.getD k ⟨0, 0, none⟩)) := by
    intro k hk
    obtain ⟨x, hx, hxg, _⟩ := sentL_glob k hk
    have := (h4 k x _ hx (get k hk)).1
    simpa using World.var?_cell hxg this 0
  have hety := ety_of_met he
  refine ⟨fun k => es.getD k ⟨0, 0, none⟩, ⟨var, ?_, ?_, fun k hk => cell_lt (var k hk), ?_, hety, cell_lt hety⟩⟩
  · intro k hk
    obtain ⟨x, hx, _⟩ := sentL_glob k hk
    exact (h4 k x _ hx (get k hk)).2
  · intro k hk
    obtain ⟨x, hx, _⟩ := sentL_glob k hk
    obtain ⟨c, t, e⟩ := (h4 k x _ hx (get k hk)).2
    exact (Array.getElem?_eq_some_iff.1 e).1
  · intro j k hj hk e
    have hn := List.pairwise_iff_getElem.1 h1
    have gd : ∀ (k : Nat) (hk : k < es.length), es.getD k ⟨0, 0, none⟩ = es[k] := fun k hk => by
      rw [List.getD_eq_getElem?_getD, List.getElem?_eq_getElem hk]; rfl
    have ej := gd j (by omega)
    have ek := gd k (by omega)
    rcases Nat.lt_trichotomy j k with h | h | h
    · exact absurd (by rw [← ej, ← ek]; exact e) (hn j k (by omega) (by omega) h)
    · exact h
    · exact absurd (by rw [← ej, ← ek]; exact e.symm) (hn k j (by omega) (by omega) h)
end Go.Proofs.YtlpkmghhmpkddaaDoor

namespace Go.Proofs.YtlpkmghhmpkddaaDoor
open Go.RowKit Go.ChangeShapes Go.WideShapes Go.ChangeAt
set_option linter.unusedVariables false

theorem cellsMt : Tryd.prog.cellsOf 30 = 3 := by kernel_rfl
theorem cellsU8 : Tryd.prog.cellsOf 5 = 1 := by kernel_rfl
theorem cellsLs : Tryd.prog.cellsOf 22 = 1 := by kernel_rfl
theorem bytesMt : Tryd.prog.bytesOf 30 = 40 := by kernel_rfl
theorem bytesLs : Tryd.prog.bytesOf 22 = 24 := by kernel_rfl
section
variable {H : Type} {enc : TypeId × Value → H} {w : World} {base : Nat} {spare : Nat → Bool} {held : Bool}
set_option maxRecDepth 100000 in
theorem open_match {fuel : Nat} {cs : List Value} {x : DataW H × List MemPlace} (h : DataW.trod enc Tryd.prog w base spare held fuel 30 cs = some x) :
    ∃ m : Mt, cs = [.int .u8 (m.1 : Int), .string (B8 m.2.1), .string (B8 m.2.2)] ∧ m.1 < 256 := by
  obtain ⟨y0, y1, n, rfl, hl, h0, h1⟩ := trod_struct2 Tryd.underlying30 h
  rw [cellsMt] at hl
  match cs, hl with
  | [c0, c1, c2], _ =>
    simp only [cellsU8, cellsLb, List.drop_zero, List.take_succ_cons, List.take_zero, List.drop_succ_cons] at h0 h1
    obtain ⟨d, e0, _, wd⟩ := DataW.trod_int Tryd.underlying5 h0
    obtain ⟨p, e1⟩ := open_label h1
    simp only [List.cons.injEq, and_true] at e0 e1
    subst e0; obtain ⟨rfl, rfl⟩ := e1
    have hd : 0 ≤ d ∧ d ≤ 255 := by simpa [Lit.wf, IntKind.min, IntKind.max, IntKind.signed, IntKind.bits] using wd
    obtain ⟨m, rfl⟩ : ∃ m : Nat, d = (m : Int) := ⟨d.toNat, by omega⟩
    exact ⟨(m, p.1, p.2), rfl, by dsimp only; omega⟩
set_option maxRecDepth 100000 in
theorem open_matches {fuel : Nat} {cs : List Value} {x : DataW H × List MemPlace} (h : DataW.trod enc Tryd.prog w base spare held fuel 23 cs = some x)
    (hw : (x.1.weights Tryd.prog 23).all (· ≤ reachBytes) = true) :
    ∃ (A : Option Addr) (n c : Nat) (ms : List Mt), cs = [.slice A n c] ∧ n ≤ 140737488351232 ∧ n ≤ c ∧ c ≤ maxLen ∧ Rd w w.heap.size 3 A n (mtC ms) ∧ ∀ m ∈ ms, m.1 < 256 := by
  obtain ⟨A, cap, ys, rfl, hc, hm, hys, hrd, hx⟩ := open_rd Tryd.underlying23 cellsMt (by omega) h
  have hpts : ∃ ms : List Mt, ys.map (·.1) = ms.map (fun m => [Value.int .u8 (m.1 : Int), Value.string (B8 m.2.1), Value.string (B8 m.2.2)]) ∧ ∀ m ∈ ms, m.1 < 256 := by
    clear hx hrd hc h hw
    induction ys with
    | nil => exact ⟨[], rfl, by simp⟩
    | cons y ys ih =>
      obtain ⟨ms, e, hms⟩ := ih (fun z hz => hys z (by simp [hz]))
      obtain ⟨_, m, q, hq⟩ := hys y (by simp)
      obtain ⟨p, hp, hpw⟩ := open_match hq
      exact ⟨p :: ms, by simp [hp, e], by intro z hz; rcases List.mem_cons.1 hz with rfl | hz; exact hpw; exact hms z hz⟩
  obtain ⟨ms, e, hms⟩ := hpts
  refine ⟨A, ys.length, cap, ms, rfl, ?_, hc, hm, ?_, hms⟩
  · rcases hx with ⟨_, rfl⟩ | ⟨sp, hx⟩
    · simp
    · rw [hx] at hw
      have := (weights_slice Tryd.underlying23 hw).1
      rw [bytesMt] at this
      simp only [List.length_map, reachBytes] at this
      omega
  · have : ys.flatMap (·.1) = mtC ms := by
      unfold mtC
      rw [List.flatMap_def, List.flatMap_def, e]
    rw [← this]; exact hrd
set_option maxRecDepth 100000 in
theorem open_lists {fuel : Nat} {cs : List Value} {x : DataW H × List MemPlace} (h : DataW.trod enc Tryd.prog w base spare held fuel 24 cs = some x)
    (hw : (x.1.weights Tryd.prog 24).all (· ≤ reachBytes) = true) :
    ∃ (A : Option Addr) (n c : Nat) (ls : List LabV), cs = [.slice A n c] ∧ n ≤ 140737488351232 ∧ n ≤ c ∧ c ≤ maxLen ∧ LabsRd w w.heap.size A n ls ∧ True := by
  obtain ⟨A, cap, ys, rfl, hc, hm, hys, hrd, hx⟩ := open_rd Tryd.underlying24 cellsLs (by omega) h
  have hyw : ∀ y ∈ ys, (y.2.weights Tryd.prog 22).all (· ≤ reachBytes) = true := by
    rcases hx with ⟨_, rfl⟩ | ⟨sp, hx⟩
    · simp
    · rw [hx] at hw
      intro y hy
      exact (weights_slice Tryd.underlying24 hw).2 y.2 (List.mem_map_of_mem hy)
  have hls : ∃ ls : List LabV, ys.map (·.1) = ls.map (fun r => [r.v]) ∧ ∀ r ∈ ls, ∃ A' c', r.v = .slice A' r.l.length c' ∧ Rd w w.heap.size 2 A' r.l.length (lbC r.l) := by
    clear hx hrd hc hw h
    induction ys with
    | nil => exact ⟨[], rfl, by simp⟩
    | cons y ys ih =>
      obtain ⟨ls, e, i1⟩ := ih (fun z hz => hys z (by simp [hz])) (fun z hz => hyw z (by simp [hz]))
      obtain ⟨hl, m, q, hq⟩ := hys y (by simp)
      obtain ⟨A', n', c', l, e1, _, _, _, hr, _⟩ := open_labels hq (hyw y (by simp))
      have hn' : n' = l.length := by have := hr.1; rw [lbC_len] at this; omega
      subst hn'
      exact ⟨⟨.slice A' l.length c', l⟩ :: ls, by simp [e1, e], by intro r hr'; rcases List.mem_cons.1 hr' with rfl | hr'; exact ⟨A', c', rfl, hr⟩; exact i1 r hr'⟩
  obtain ⟨ls, e, i1⟩ := hls
  refine ⟨A, ys.length, cap, ls, rfl, ?_, hc, hm, ⟨?_, i1⟩, trivial⟩
  · rcases hx with ⟨_, rfl⟩ | ⟨sp, hx⟩
    · simp
    · rw [hx] at hw
      have := (weights_slice Tryd.underlying24 hw).1
      rw [bytesLs] at this
      simp only [List.length_map, reachBytes] at this
      omega
  · have : ys.flatMap (·.1) = ls.map (fun r => r.v) := by
      rw [List.flatMap_def, e]
      clear e i1
      induction ls with
      | nil => rfl
      | cons r ls ih => simp [ih]
    rw [← this]; exact hrd
end
end Go.Proofs.YtlpkmghhmpkddaaDoor
