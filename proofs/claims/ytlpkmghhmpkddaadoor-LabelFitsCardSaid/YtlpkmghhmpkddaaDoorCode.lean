/- plain.Code and coded by contracts: nil, a sentinel, another error of errors.New's make, a fault that holds one. -/
import Derived.Test.YtlpkmghhmpkddaaDoorErrs
namespace Go.Proofs.YtlpkmghhmpkddaaDoor
open Go.RowKit
set_option linter.unusedVariables false

def gErr (k : Nat) : Nat := [5, 0, 3, 2, 1, 6, 7, 8, 9, 10, 4].getD k 0
/-- The eleven sentinels and errors' own type, as the program's text lays them: all below block B. -/
structure Sents (es : Nat → Addr) (B : Nat) (w : World) : Prop where
  var : ∀ k, k < 11 → w.cell? ⟨gErr k, 0, none⟩ = some (sentV (es k))
  blk : ∀ k, k < 11 → ∃ c t, w.heap[(es k).block]? = some (.cells c t (0, 0))
  lt : ∀ k, k < 11 → (es k).block < B
  glt : ∀ k, k < 11 → gErr k < B
  inj : ∀ j k, j < 11 → k < 11 → es j = es k → j = k
  ety : w.cell? ⟨11, 0, none⟩ = some (.iface 105 (.agg #[.pointer (some ⟨13, 32, none⟩)]))
  elt : 11 < B
section
variable {es : Nat → Addr} {B : Nat} {w w' : World}
theorem Sents.below {C : Nat} (h : Sents es B w) (hb : Below C w w') (hC : B ≤ C) : Sents es B w' :=
  ⟨fun k hk => (hb.cell (p := ⟨gErr k, 0, none⟩) (Nat.lt_of_lt_of_le (h.glt k hk) hC)).trans (h.var k hk), fun k hk => by
    obtain ⟨c, t, e⟩ := h.blk k hk
    exact ⟨c, t, (hb.block _ (Nat.lt_of_lt_of_le (h.lt k hk) hC)).trans e⟩, h.lt, h.glt, h.inj, (hb.cell (p := ⟨11, 0, none⟩) (Nat.lt_of_lt_of_le h.elt hC)).trans h.ety, h.elt⟩
theorem Sents.alloc (h : Sents es B w) (hB : B ≤ w.heap.size) (o : Obj) : Sents es B (w.alloc o) := h.below (Below.alloc (Below.refl w.heap.size w) (Nat.le_refl _) o) hB
end

/-- The variables of the sentinels that chunks' own code names. -/
structure SV (es : Nat → Addr) (B : Nat) (w : World) : Prop where
  var : ∀ k, k ∈ [0, 1, 2, 4, 6, 7, 8] → w.cell? ⟨gErr k, 0, none⟩ = some (sentV (es k))
  glt : ∀ k, k ∈ [0, 1, 2, 4, 6, 7, 8] → gErr k < B
section
variable {es : Nat → Addr} {B : Nat} {w w' : World}
theorem SV.below {C : Nat} (h : SV es B w) (hb : Below C w w') (hC : B ≤ C) : SV es B w' :=
  ⟨fun k hk => (hb.cell (p := ⟨gErr k, 0, none⟩) (Nat.lt_of_lt_of_le (h.glt k hk) hC)).trans (h.var k hk), h.glt⟩
theorem SV.alloc (h : SV es B w) (hB : B ≤ w.heap.size) (o : Obj) : SV es B (w.alloc o) := h.below (Below.alloc (Below.refl w.heap.size w) (Nat.le_refl _) o) hB
theorem sv_lt {k : Nat} (hk : k ∈ [0, 1, 2, 4, 6, 7, 8]) : k < 11 := by simp at hk; omega
theorem Sents.v (h : Sents es B w) : SV es B w := ⟨fun k hk => h.var k (sv_lt hk), fun k hk => h.glt k (sv_lt hk)⟩
end

theorem sent_table {es : Nat → Addr} {k : Nat} (hk : k < 11) :
    (#[sentV (es 0), sentV (es 1), sentV (es 2), sentV (es 3), sentV (es 4), sentV (es 5), sentV (es 6), sentV (es 7), sentV (es 8), sentV (es 9), sentV (es 10)] : Array Value)[k]? = some (sentV (es k)) := by
  match k, hk with
  | 0, _ => rfl
  | 1, _ => rfl
  | 2, _ => rfl
  | 3, _ => rfl
  | 4, _ => rfl
  | 5, _ => rfl
  | 6, _ => rfl
  | 7, _ => rfl
  | 8, _ => rfl
  | 9, _ => rfl
  | 10, _ => rfl

theorem code_nil (w : World) : Calls Tryd.prog 23 #[.nilIface] w fun e w' => e = .returned (.tuple #[.int .i64 0, .int .i64 (-1)]) ∧ w' = w := by
  go_enter Tryd.func23, Tryd.ntmps23
  go_wp2
  go_ret2
  exact ⟨rfl, rfl⟩

/-- The number of an error of errors.New's make that is the K-th sentinel (11: none of them). -/
def numOf (K : Nat) : Int := if K < 11 then (K : Int) + 1 else -1

theorem as_fault' (e : Addr) (w0 : World) (hg : w0.cell? ⟨11, 0, none⟩ = some (.iface 105 (.agg #[.pointer (some ⟨13, 32, none⟩)]))) (hgl : 11 < w0.heap.size) :
    Calls Tryd.prog 34 #[faultV e, .iface 72 (.pointer (some ⟨w0.heap.size, 0, none⟩))] (w0.alloc (.cells #[.pointer none] 60)) fun ev w' => ev = .returned (.bool true) ∧ w'.cell? ⟨w0.heap.size, 0, none⟩ = some (.pointer (some e)) ∧ Below w0.heap.size w0 w' := by
  refine (as_fault e ⟨w0.heap.size, 0, none⟩ (.pointer none) _ (by rw [World.cell?_alloc_lt _ _ ⟨11, 0, none⟩ hgl]; exact hg) (by simp) (by simp)).mono ?_
  rintro ev w' ⟨rfl, rfl⟩
  refine ⟨rfl, ?_, ?_⟩
  · have hc : ∀ (W : World) (u v : Value), W.cell? ⟨w0.heap.size, 0, none⟩ = some u → (W.setCell ⟨w0.heap.size, 0, none⟩ v).cell? ⟨w0.heap.size, 0, none⟩ = some v := by
      intro W u v h
      exact World.cell?_setCell_same W _ _ h
    refine hc _ (.pointer none) _ ?_
    rw [World.cell?_alloc_lt _ _ ⟨w0.heap.size, 0, none⟩ (by simp; omega), World.cell?_alloc_lt _ _ ⟨w0.heap.size, 0, none⟩ (by simp; omega), World.cell?_alloc_lt _ _ ⟨w0.heap.size, 0, none⟩ (by simp; omega), World.cell?_alloc_lt _ _ ⟨w0.heap.size, 0, none⟩ (by simp)]
    simp
  · go_grown

set_option maxHeartbeats 4000000 in
/-- An error of errors.New's make. -/
theorem code_string {es : Nat → Addr} {B : Nat} (a : Addr) (K : Nat) (w : World) (hS : Sents es B w) (hB : B ≤ w.heap.size) (hK : K ≤ 11) (ha : ∃ c t, w.heap[a.block]? = some (.cells c t (0, 0)))
    (hne : ∀ j, j < K → j < 11 → a ≠ es j) (heq : K < 11 → a = es K) :
    Calls Tryd.prog 23 #[sentV a] w fun e w' => e = .returned (.tuple #[.int .i64 (numOf K), .int .i64 (-1)]) ∧ Below w.heap.size w w' := by
  have HS := Lib.hid hS; have Hne := Lib.hid hne; have Heq := Lib.hid heq; have Ha := Lib.hid ha
  clear hS hne heq ha
  go_enter Tryd.func23, Tryd.ntmps23
  go_wp2_with fail
  refine (as_sent a ⟨w.heap.size, 0, none⟩ (.pointer none) _ (HS.out.alloc hB _).ety (by simp)).mono ?_
  rintro e w1 ⟨rfl, hb1⟩
  have hb1' : Below w.heap.size w w1 := Below.call (Below.alloc (Below.refl _ _) (Nat.le_refl _) _) hb1 (by simp)
  have hs1 := HS.out.below hb1' hB
  have hz1 : w.heap.size ≤ w1.heap.size := hb1'.size
  have g0 : w1.cell? ⟨5, 0, none⟩ = some (sentV (es 0)) := hs1.var 0 (by decide)
  have g1 : w1.cell? ⟨0, 0, none⟩ = some (sentV (es 1)) := hs1.var 1 (by decide)
  have g2 : w1.cell? ⟨3, 0, none⟩ = some (sentV (es 2)) := hs1.var 2 (by decide)
  have g3 : w1.cell? ⟨2, 0, none⟩ = some (sentV (es 3)) := hs1.var 3 (by decide)
  have g4 : w1.cell? ⟨1, 0, none⟩ = some (sentV (es 4)) := hs1.var 4 (by decide)
  have g5 : w1.cell? ⟨6, 0, none⟩ = some (sentV (es 5)) := hs1.var 5 (by decide)
  have g6 : w1.cell? ⟨7, 0, none⟩ = some (sentV (es 6)) := hs1.var 6 (by decide)
  have g7 : w1.cell? ⟨8, 0, none⟩ = some (sentV (es 7)) := hs1.var 7 (by decide)
  have g8 : w1.cell? ⟨9, 0, none⟩ = some (sentV (es 8)) := hs1.var 8 (by decide)
  have g9 : w1.cell? ⟨10, 0, none⟩ = some (sentV (es 9)) := hs1.var 9 (by decide)
  have g10 : w1.cell? ⟨4, 0, none⟩ = some (sentV (es 10)) := hs1.var 10 (by decide)
  have Hb1 := Lib.hid hb1'; have Hs1 := Lib.hid hs1
  clear hb1 hb1' hs1
  go_wp2
  go_loopw [3, 29] (fun at_ i wr => ∃ k : Nat, k ≤ K ∧ at_ = .int .i64 (-1) ∧ i = .int .i64 k ∧ (∀ j, j < 11 → wr.cell? ⟨w1.heap.size, j, none⟩ = some (sentV (es j))) ∧ Sents es B wr ∧ (∃ c t, wr.heap[a.block]? = some (.cells c t (0, 0))) ∧ Below w.heap.size w wr) (fun _ i _ => 11 - (intOf i).toNat)
  case atStart =>
    refine ⟨0, Nat.zero_le _, rfl, rfl, fun j hj => ?_, Hs1.out.alloc (Nat.le_trans hB hz1) _, ?_, Below.alloc Hb1.out hz1 _⟩
    · rw [(Blk.new w1 _ _).cell]; exact sent_table hj
    · obtain ⟨c, t, h⟩ := Ha.out
      have hl : a.block < w.heap.size := (Array.getElem?_eq_some_iff.1 h).1
      exact ⟨c, t, ((Below.alloc Hb1.out hz1 _).block _ hl).trans h⟩
  case round =>
    obtain ⟨k, hk, rfl, rfl, htab, hsr, har, hbel⟩ := hrel
    have Hsr := Lib.hid hsr; have Har := Lib.hid har; have Hbel := Lib.hid hbel; have Htab := Lib.hid htab
    clear hsr har hbel htab
    by_cases hk11 : k < 11
    · have e0 := Htab.out k hk11
      by_cases hkK : k < K
      · go_wp2_with fail
        refine (is_other a (es k) _ (Hne.out k hkK hk11) Har.out (Hsr.out.blk k hk11)).mono ?_
        rintro e w' ⟨rfl, rfl⟩
        go_wp2
        go_roundw
        case rel => exact ⟨k + 1, by omega, rfl, by go_num, Htab.out, Hsr.out, Har.out, Hbel.out⟩
        case measure => simp [intOf]; omega
      · have hkk : k = K := by omega
        have hak : a = es k := by rw [hkk]; exact Heq.out (by omega)
        have hnum : numOf K = (k : Int) + 1 := by unfold numOf; rw [if_pos (by omega), hkk]
        clear hkk
        subst hak
        go_wp2_with fail
        refine (is_same (es k) _).mono ?_
        rintro e w' ⟨rfl, rfl⟩
        have Hnum := Lib.hid hnum
        clear hnum
        go_wp2
        go_ret2
        exact ⟨by rw [Hnum.out]; rfl, Hbel.out⟩
    · have hnum : numOf K = -1 := by unfold numOf; rw [if_neg (by omega)]
      have hk2 : k = 11 := by omega
      subst hk2
      have Hnum := Lib.hid hnum
      clear hnum
      go_wp2
      go_ret2
      exact ⟨by rw [Hnum.out]; rfl, Hbel.out⟩

set_option maxHeartbeats 4000000 in
/-- A fault that holds an error of errors.New's make. -/
theorem code_fault {es : Nat → Addr} {B : Nat} (pb : Nat) (t : Int) (a : Addr) (K : Nat) (w : World) (hS : Sents es B w) (hB : B ≤ w.heap.size) (hK : K ≤ 11) (ha : ∃ c t, w.heap[a.block]? = some (.cells c t (0, 0)))
    (hp : pb < w.heap.size) (hp0 : w.cell? ⟨pb, 0, none⟩ = some (.int .i64 t)) (hp1 : w.cell? ⟨pb, 1, none⟩ = some (sentV a)) (hne : ∀ j, j < K → j < 11 → a ≠ es j) (heq : K < 11 → a = es K) :
    Calls Tryd.prog 23 #[faultV ⟨pb, 0, none⟩] w fun e w' => e = .returned (.tuple #[.int .i64 (numOf K), .int .i64 t]) ∧ Below w.heap.size w w' := by
  have HS := Lib.hid hS; have Hne := Lib.hid hne; have Heq := Lib.hid heq; have Ha := Lib.hid ha; have Hp0 := Lib.hid hp0; have Hp1 := Lib.hid hp1
  clear hS hne heq ha hp0 hp1
  go_enter Tryd.func23, Tryd.ntmps23
  go_wp2_with fail
  refine (as_fault' ⟨pb, 0, none⟩ w HS.out.ety (Nat.lt_of_lt_of_le HS.out.elt hB)).mono ?_
  rintro e w1 ⟨rfl, hf1, hb1'⟩
  have hs1 := HS.out.below hb1' hB
  have hz1 : w.heap.size ≤ w1.heap.size := hb1'.size
  have q0 : w1.cell? ⟨pb, 0, none⟩ = some (.int .i64 t) := (hb1'.cell (p := ⟨pb, 0, none⟩) hp).trans Hp0.out
  have g0 : w1.cell? ⟨5, 0, none⟩ = some (sentV (es 0)) := hs1.var 0 (by decide)
  have g1 : w1.cell? ⟨0, 0, none⟩ = some (sentV (es 1)) := hs1.var 1 (by decide)
  have g2 : w1.cell? ⟨3, 0, none⟩ = some (sentV (es 2)) := hs1.var 2 (by decide)
  have g3 : w1.cell? ⟨2, 0, none⟩ = some (sentV (es 3)) := hs1.var 3 (by decide)
  have g4 : w1.cell? ⟨1, 0, none⟩ = some (sentV (es 4)) := hs1.var 4 (by decide)
  have g5 : w1.cell? ⟨6, 0, none⟩ = some (sentV (es 5)) := hs1.var 5 (by decide)
  have g6 : w1.cell? ⟨7, 0, none⟩ = some (sentV (es 6)) := hs1.var 6 (by decide)
  have g7 : w1.cell? ⟨8, 0, none⟩ = some (sentV (es 7)) := hs1.var 7 (by decide)
  have g8 : w1.cell? ⟨9, 0, none⟩ = some (sentV (es 8)) := hs1.var 8 (by decide)
  have g9 : w1.cell? ⟨10, 0, none⟩ = some (sentV (es 9)) := hs1.var 9 (by decide)
  have g10 : w1.cell? ⟨4, 0, none⟩ = some (sentV (es 10)) := hs1.var 10 (by decide)
  have Hb1 := Lib.hid hb1'; have Hs1 := Lib.hid hs1
  clear hb1' hs1
  go_wp2
  go_loopw [3, 29] (fun at_ i wr => ∃ k : Nat, k ≤ K ∧ at_ = .int .i64 t ∧ i = .int .i64 k ∧ (∀ j, j < 11 → wr.cell? ⟨w1.heap.size, j, none⟩ = some (sentV (es j))) ∧ Sents es B wr ∧ (∃ c t, wr.heap[a.block]? = some (.cells c t (0, 0))) ∧ Below w.heap.size w wr) (fun _ i _ => 11 - (intOf i).toNat)
  case atStart =>
    refine ⟨0, Nat.zero_le _, rfl, rfl, fun j hj => ?_, Hs1.out.alloc (Nat.le_trans hB hz1) _, ?_, Below.alloc Hb1.out hz1 _⟩
    · rw [(Blk.new w1 _ _).cell]; exact sent_table hj
    · obtain ⟨c, t, h⟩ := Ha.out
      have hl : a.block < w.heap.size := (Array.getElem?_eq_some_iff.1 h).1
      exact ⟨c, t, ((Below.alloc Hb1.out hz1 _).block _ hl).trans h⟩
  case round =>
    obtain ⟨k, hk, rfl, rfl, htab, hsr, har, hbel⟩ := hrel
    have r1 : wr.cell? ⟨pb, 1, none⟩ = some (sentV a) := (hbel.cell (p := ⟨pb, 1, none⟩) hp).trans Hp1.out
    have Hsr := Lib.hid hsr; have Har := Lib.hid har; have Hbel := Lib.hid hbel; have Htab := Lib.hid htab; have R1 := Lib.hid r1
    clear hsr har hbel htab r1
    by_cases hk11 : k < 11
    · have e0 := Htab.out k hk11
      by_cases hkK : k < K
      · go_wp2_with fail
        refine (is_fault_other pb (es k) a _ R1.out (Hne.out k hkK hk11) Har.out (Hsr.out.blk k hk11)).mono ?_
        rintro e w' ⟨rfl, rfl⟩
        go_wp2
        go_roundw
        case rel => exact ⟨k + 1, by omega, rfl, by go_num, Htab.out, Hsr.out, Har.out, Hbel.out⟩
        case measure => simp [intOf]; omega
      · have hkk : k = K := by omega
        have hak : a = es k := by rw [hkk]; exact Heq.out (by omega)
        have hnum : numOf K = (k : Int) + 1 := by unfold numOf; rw [if_pos (by omega), hkk]
        clear hkk
        subst hak
        go_wp2_with fail
        refine (is_fault_same pb (es k) _ R1.out).mono ?_
        rintro e w' ⟨rfl, rfl⟩
        have Hnum := Lib.hid hnum
        clear hnum
        go_wp2
        go_ret2
        exact ⟨by rw [Hnum.out]; rfl, Hbel.out⟩
    · have hnum : numOf K = -1 := by unfold numOf; rw [if_neg (by omega)]
      have hk2 : k = 11 := by omega
      subst hk2
      have Hnum := Lib.hid hnum
      clear hnum
      go_wp2
      go_ret2
      exact ⟨by rw [Hnum.out]; rfl, Hbel.out⟩

/-- The error v has the number n, and the place t (-1: none). -/
def ErrIs (es : Nat → Addr) (w : World) (v : Value) (n t : Int) : Prop :=
  (v = .nilIface ∧ n = 0 ∧ t = -1) ∨
  (∃ a K, v = sentV a ∧ n = numOf K ∧ t = -1 ∧ K ≤ 11 ∧ (∃ c t, w.heap[a.block]? = some (.cells c t (0, 0))) ∧ (∀ j, j < K → j < 11 → a ≠ es j) ∧ (K < 11 → a = es K)) ∨
  (∃ pb a K, v = faultV ⟨pb, 0, none⟩ ∧ n = numOf K ∧ K ≤ 11 ∧ (∃ c t, w.heap[a.block]? = some (.cells c t (0, 0))) ∧ pb < w.heap.size ∧ w.cell? ⟨pb, 0, none⟩ = some (.int .i64 t) ∧ w.cell? ⟨pb, 1, none⟩ = some (sentV a) ∧ (∀ j, j < K → j < 11 → a ≠ es j) ∧ (K < 11 → a = es K))
section
variable {es : Nat → Addr} {B : Nat} {w w' : World} {v : Value} {n t : Int}
theorem ErrIs.nil : ErrIs es w .nilIface 0 (-1) := .inl ⟨rfl, rfl, rfl⟩
theorem ErrIs.sent (hS : Sents es B w) {k : Nat} (hk : k < 11) : ErrIs es w (sentV (es k)) ((k : Int) + 1) (-1) :=
  .inr (.inl ⟨es k, k, rfl, by unfold numOf; rw [if_pos hk], rfl, by omega, hS.blk k hk, fun j hj hj' h => by have := hS.inj k j hk hj' h; omega, fun _ => rfl⟩)
theorem ErrIs.fault (hS : Sents es B w) {k : Nat} (hk : k < 11) {pb : Nat} (hp : pb < w.heap.size) (h0 : w.cell? ⟨pb, 0, none⟩ = some (.int .i64 t)) (h1 : w.cell? ⟨pb, 1, none⟩ = some (sentV (es k))) : ErrIs es w (faultV ⟨pb, 0, none⟩) ((k : Int) + 1) t :=
  .inr (.inr ⟨pb, es k, k, rfl, by unfold numOf; rw [if_pos hk], by omega, hS.blk k hk, hp, h0, h1, fun j hj hj' h => by have := hS.inj k j hk hj' h; omega, fun _ => rfl⟩)
theorem ErrIs.below {C : Nat} (h : ErrIs es w v n t) (hb : Below C w w') (hC : w.heap.size ≤ C) : ErrIs es w' v n t := by
  have blk : ∀ a : Addr, (∃ c t, w.heap[a.block]? = some (.cells c t (0, 0))) → ∃ c t, w'.heap[a.block]? = some (.cells c t (0, 0)) := by
    rintro a ⟨c, t, e⟩
    exact ⟨c, t, (hb.block _ (Nat.lt_of_lt_of_le (Array.getElem?_eq_some_iff.1 e).1 hC)).trans e⟩
  rcases h with h | ⟨a, K, h1, h2, h3, h4, h5, h6⟩ | ⟨pb, a, K, h1, h2, h3, h4, h5, h6, h7, h8⟩
  · exact .inl h
  · exact .inr (.inl ⟨a, K, h1, h2, h3, h4, blk a h5, h6⟩)
  · exact .inr (.inr ⟨pb, a, K, h1, h2, h3, blk a h4, Nat.lt_of_lt_of_le h5 hb.size, (hb.cell (p := ⟨pb, 0, none⟩) (Nat.lt_of_lt_of_le h5 hC)).trans h6, (hb.cell (p := ⟨pb, 1, none⟩) (Nat.lt_of_lt_of_le h5 hC)).trans h7, h8⟩)
end

theorem code_any {es : Nat → Addr} {B : Nat} (v : Value) (n t : Int) (w : World) (hS : Sents es B w) (hB : B ≤ w.heap.size) (hv : ErrIs es w v n t) :
    Calls Tryd.prog 23 #[v] w fun e w' => e = .returned (.tuple #[.int .i64 n, .int .i64 t]) ∧ Below w.heap.size w w' := by
  rcases hv with ⟨rfl, rfl, rfl⟩ | ⟨a, K, rfl, rfl, rfl, h4, h5, h6, h7⟩ | ⟨pb, a, K, rfl, rfl, h3, h4, h5, h6, h7, h8, h9⟩
  · refine (code_nil w).mono ?_
    rintro e w' ⟨rfl, rfl⟩
    exact ⟨rfl, Below.refl _ _⟩
  · exact code_string a K w hS hB h4 h5 h6 h7
  · exact code_fault pb t a K w hS hB h3 h4 h5 h6 h7 h8 h9

end Go.Proofs.YtlpkmghhmpkddaaDoor
