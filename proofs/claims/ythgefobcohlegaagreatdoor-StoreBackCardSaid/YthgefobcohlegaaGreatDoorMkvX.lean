/- What a store holds while points are added, blocks made, and blocks joined: all that was added, in order; plain. -/
import Derived.Test.YthgefobcohlegaaGreatDoorMkuX
import Derived.Test.YthgefobcohlegaaGreatDoorMkhX
import Derived.Test.YthgefobcohlegaaGreatDoorMkgX
import Derived.Test.YthgefobcohlegaaGreatDoorMkcX
import Derived.Test.YthgefobcohlegaaGreatDoorKeysX
import Derived.Sort.KeysCollected
namespace Go.Proofs.YthgefobcohlegaaGreatDoor
open Go.RowKit
set_option linter.unusedVariables false

/-- What was added to a series. -/
def evS (E : List (Bs × (Int × Int))) (s : Bs) : List (Int × Int) := (E.filter fun x => decide (x.1 = s)).map Prod.snd
structure KInv (Q : Prop) (S : StM) (E : List (Bs × (Int × Int))) : Prop where
  sp1 : 1 ≤ S.sp ∧ S.sp ≤ 100000
  srt : hSrt S.A
  inv : HInv S.A
  n60 : S.A.length ≤ 60
  nm : ∀ x ∈ S.A, (rdF x.1).1 = 0 ∧ x.1.length ≤ 200
  vl : ∀ x ∈ S.A, ∀ p ∈ x.2.1, 0 ≤ p.1 ∧ 0 ≤ p.2 ∧ p.2 < 18446744073709551616
  bk : ∀ b ∈ S.B, Back b.1.1 b.1.2 b.2 ∧ 0 ≤ b.1.1 ∧ ∃ k : Int, b.1.1 + b.1.2 = S.sp * k
  asc : S.B.Pairwise fun a b => a.1.1 + a.1.2 ≤ b.1.1
  top : ∀ b ∈ S.B, ∀ x ∈ S.A, ∀ p ∈ x.2.1, b.1.1 + b.1.2 ≤ p.1
  all : Q → ∀ s, (S.B.flatMap fun b => ptsOf b.2 s) ++ hPts S.A s = evS E s
theorem KInv.start {Q : Prop} {sp : Int} (h : 1 ≤ sp ∧ sp ≤ 100000) (d : Dk) (kp : Int) : KInv Q ⟨[], d, sp, kp, []⟩ [] :=
  ⟨h, List.Pairwise.nil, HInv.nil, Nat.zero_le _, fun x h => (by cases h), fun x h => (by cases h), fun x h => (by cases h), List.Pairwise.nil, fun x h => (by cases h), fun _ s => rfl⟩
theorem KInv.disk {Q : Prop} {S : StM} {E : List (Bs × (Int × Int))} (h : KInv Q S E) (d : Dk) : KInv Q ⟨S.A, d, S.sp, S.kp, S.B⟩ E := ⟨h.sp1, h.srt, h.inv, h.n60, h.nm, h.vl, h.bk, h.asc, h.top, h.all⟩
theorem evS_snoc (E : List (Bs × (Int × Int))) (s : Bs) (p : Int × Int) (s' : Bs) : evS (E ++ [(s, p)]) s' = if s' = s then evS E s ++ [p] else evS E s' := by
  unfold evS
  rw [List.filter_append, List.map_append]
  by_cases h : s' = s
  · subst h
    rw [if_pos rfl]
    simp
  · rw [if_neg h]
    have : ([(s, p)].filter fun x => decide (x.1 = s')) = [] := by
      simp
      exact fun e => h e.symm
    rw [this, List.map_nil, List.append_nil]
/-- A point is added. -/
theorem KInv.add {Q : Prop} {S : StM} {E : List (Bs × (Int × Int))} (h : KInv Q S E) {s : Bs} {p : Int × Int} (hs : s.length ≤ 200) (hp : 0 ≤ p.2 ∧ p.2 < 18446744073709551616) (h0 : (preF S s p).1 = 0) (d : Dk) : KInv Q ⟨hAdd S.A s p, d, S.sp, S.kp, S.B⟩ (E ++ [(s, p)]) := by
  obtain ⟨h1, h2, h3, h4⟩ := preF_zero h0
  have hlast : ∀ b ∈ S.B, b.1.1 + b.1.2 ≤ p.1 := by
    intro b hb
    unfold oldB at h4
    cases hg : S.B.getLast? with
    | none => rw [List.getLast?_eq_none_iff.1 hg] at hb; cases hb
    | some c =>
      rw [hg] at h4
      have hc : c.1.1 + c.1.2 ≤ p.1 := by simpa using h4
      obtain ⟨l, hl⟩ := List.getLast?_eq_some_iff.1 hg
      have ha := h.asc
      rw [hl] at ha hb
      rcases List.mem_append.1 hb with hb | hb
      · have := (List.pairwise_append.1 ha).2.2 b hb c (List.mem_singleton.2 rfl)
        have := (h.bk c (by rw [hl]; simp)).1.bd
        simp [bndB] at this
        omega
      · rw [List.mem_singleton.1 hb]; exact hc
  refine ⟨h.sp1, hAdd_srt h.srt, h.inv.add h.srt h3, hAdd_len h3 h.n60, fun y hy => ?_, fun y hy => ?_, h.bk, h.asc, fun b hb y hy => ?_, fun hq s' => ?_⟩
  · rcases hAdd_mem h.srt hy with hy | ⟨x, hx, hfx, rfl⟩ | ⟨hn, rfl⟩
    · exact h.nm y hy
    · exact ⟨h1, hs⟩
    · exact ⟨h1, hs⟩
  · rcases hAdd_mem h.srt hy with hy | ⟨x, hx, hfx, rfl⟩ | ⟨hn, rfl⟩
    · exact h.vl y hy
    · intro q hq
      rcases List.mem_append.1 hq with hq | hq
      · exact h.vl x hx q hq
      · rw [List.mem_singleton.1 hq]; exact ⟨h2, hp⟩
    · intro q hq
      rw [List.mem_singleton.1 hq]; exact ⟨h2, hp⟩
  · rcases hAdd_mem h.srt hy with hy | ⟨x, hx, hfx, rfl⟩ | ⟨hn, rfl⟩
    · exact h.top b hb y hy
    · intro q hq
      rcases List.mem_append.1 hq with hq | hq
      · exact h.top b hb x hx q hq
      · rw [List.mem_singleton.1 hq]; exact hlast b hb
    · intro q hq
      rw [List.mem_singleton.1 hq]; exact hlast b hb
  · show (S.B.flatMap fun b => ptsOf b.2 s') ++ hPts (hAdd S.A s p) s' = _
    rw [hPts_add h.srt, evS_snoc]
    by_cases e : s' = s
    · rw [if_pos e, if_pos e, e, ← List.append_assoc, h.all hq s]
    · rw [if_neg e, if_neg e, h.all hq s']
theorem hCut_len (A : List HA) (b : Int) : (hCut A b).length = A.length := by unfold hCut; rw [List.length_map]
/-- A block is made. -/
theorem KInv.step {Q : Prop} {S S' : StM} {E : List (Bs × (Int × Int))} (h : KInv Q S E) {now : Int} {f : Nat × Int} (hm : mkStep S now = (some S', f)) : KInv Q S' E ∧ hCount S'.A < hCount S.A ∧ S'.d = S.d ∧ S'.sp = S.sp ∧ S'.kp = S.kp ∧ S'.B.length = S.B.length + 1 := by
  unfold mkStep at hm
  cases hf : firstH S.A with
  | none => rw [hf] at hm; cases hm
  | some t =>
    rw [hf] at hm
    dsimp only at hm
    obtain ⟨g, hg⟩ : ∃ g, g = t - t % S.sp := ⟨_, rfl⟩
    rw [← hg] at hm
    split at hm
    · cases hm
    split at hm
    · cases hm
    rename_i h2
    split at hm
    · cases hm
    rename_i h3
    split at hm
    · cases hm
    rename_i h4
    injection hm with hm _
    obtain rfl := Option.some.inj hm
    obtain ⟨⟨x0, hx0, p0, hp0, hpt⟩, hle⟩ := firstH_le hf (fun x hx => (h.inv x hx).1)
    have hsp := h.sp1
    have ht0 : 0 ≤ t := by rw [← hpt]; exact (h.vl x0 hx0 p0 hp0).1
    have hmod : 0 ≤ t % S.sp ∧ t % S.sp < S.sp := ⟨Int.emod_nonneg _ (by omega), Int.emod_lt_of_pos _ (by omega)⟩
    have hdiv : t = S.sp * (t / S.sp) + t % S.sp := (Int.mul_ediv_add_emod t S.sp).symm
    have hgk : g = S.sp * (t / S.sp) := by omega
    have hgt : g ≤ t := by omega
    have hge : ∀ x ∈ S.A, ∀ p ∈ x.2.1, g ≤ p.1 := fun x hx p hp => by have := hle x hx p hp; omega
    have hnm : ∀ r ∈ stretchR S.A g (g + S.sp - 1), r.1.length ≤ 200 := fun r hr => by
      obtain ⟨z, hz, rfl⟩ := List.mem_map.1 (List.mem_filter.1 hr).1
      exact (h.nm z hz).2
    have hvl : ∀ r ∈ stretchR S.A g (g + S.sp - 1), ∀ p ∈ r.2, 0 ≤ p.2 ∧ p.2 < 18446744073709551616 := fun r hr p hp => by
      obtain ⟨z, hz, rfl⟩ := List.mem_map.1 (List.mem_filter.1 hr).1
      exact (h.vl z hz p (betL_mem hp)).2
    obtain ⟨hback, _⟩ := Back.of (by omega : (makeR g S.sp (stretchR S.A g (g + S.sp - 1))).1.1 = 0) hnm hvl
    have hkeep : keepR (stretchR S.A g (g + S.sp - 1)) = stretchR S.A g (g + S.sp - 1) := by
      unfold keepR stretchR
      rw [List.filter_filter]
      simp
    rw [hkeep] at hback
    have hends : ∀ b ∈ S.B, b.1.1 + b.1.2 ≤ g := fun b hb => by
      obtain ⟨_, _, k, hk⟩ := h.bk b hb
      have h5 : S.sp * k ≤ t := by rw [← hk, ← hpt]; exact h.top b hb x0 hx0 p0 hp0
      have h6 : k ≤ t / S.sp := (Int.le_ediv_iff_mul_le (by omega)).2 (by rw [Int.mul_comm]; exact h5)
      rw [hk, hgk]
      exact Int.mul_le_mul_of_nonneg_left h6 (by omega)
    refine ⟨⟨hsp, hCut_srt h.srt, h.inv.cut _, by rw [hCut_len]; exact h.n60, fun y hy => ?_, fun y hy => ?_, fun b hb => ?_, ?_, fun b hb y hy q hq => ?_, fun hq s => ?_⟩, ?_, rfl, rfl, rfl, by show (S.B ++ [_]).length = _; rw [List.length_append, List.length_singleton]⟩
    · obtain ⟨z, hz, rfl⟩ := List.mem_map.1 hy
      exact h.nm z hz
    · obtain ⟨z, hz, rfl⟩ := List.mem_map.1 hy
      exact fun q hq => h.vl z hz q ((List.dropWhile_sublist _).subset hq)
    · rcases List.mem_append.1 hb with hb | hb
      · exact h.bk b hb
      · rw [List.mem_singleton.1 hb]
        have hg0 : 0 ≤ g := by rw [hgk]; exact Int.mul_nonneg (by omega) (Int.ediv_nonneg ht0 (by omega))
        exact ⟨hback, hg0, t / S.sp + 1, by show g + S.sp = _; rw [hgk, Int.mul_add, Int.mul_one]⟩
    · show (S.B ++ [_]).Pairwise _
      rw [List.pairwise_append]
      refine ⟨h.asc, List.pairwise_singleton _ _, fun a ha b hb => ?_⟩
      rw [List.mem_singleton.1 hb]
      exact hends a ha
    · obtain ⟨z, hz, rfl⟩ := List.mem_map.1 hy
      have hq1 := left_ge (h.inv z hz).1 q hq
      rcases List.mem_append.1 hb with hb | hb
      · exact h.top b hb z hz q ((List.dropWhile_sublist _).subset hq)
      · rw [List.mem_singleton.1 hb]; exact hq1
    · show ((S.B ++ [((g, S.sp), stretchR S.A g (g + S.sp - 1))]).flatMap fun b => ptsOf b.2 s) ++ hPts (hCut S.A (g + S.sp)) s = _
      rw [List.flatMap_append, List.flatMap_singleton, hPts_cut h.srt, stretch_pts h.srt, List.append_assoc]
      rw [show betL g (g + S.sp - 1) (hPts S.A s) ++ hLeft (g + S.sp) (hPts S.A s) = hPts S.A s from ?_]
      · exact h.all hq s
      · by_cases hex : ∃ y ∈ S.A, y.1 = s
        · obtain ⟨y, hy, rfl⟩ := hex
          rw [hPts_of h.srt hy, gone_bet (h.inv y hy).1 (hge y hy)]
          exact List.takeWhile_append_dropWhile
        · rw [hPts_no fun y hy e => hex ⟨y, hy, e⟩]
          rfl
    · show hCount (hCut S.A (g + S.sp)) < hCount S.A
      rw [cut_count S.A (g + S.sp)]
      have : 0 < rowsCnt (hCutR S.A (g + S.sp)) := by
        cases hc : hCutR S.A (g + S.sp) with
        | nil => exact absurd hc h4
        | cons r l =>
          have hr : r ∈ hCutR S.A (g + S.sp) := by rw [hc]; exact List.mem_cons_self
          obtain ⟨z, hz, rfl⟩ := List.mem_map.1 hr
          have h5 := (List.mem_filter.1 hz).2
          have h6 : hGone (g + S.sp) z.2.1 ≠ [] := by simpa using h5
          unfold rowsCnt
          rw [List.map_cons, List.sum_cons]
          have := List.length_pos_iff.2 h6
          show 0 < (hGone (g + S.sp) z.2.1).length + _
          omega
      omega
end Go.Proofs.YthgefobcohlegaaGreatDoor

namespace Go.Proofs.YthgefobcohlegaaGreatDoor
open Go.RowKit
set_option linter.unusedVariables false

/-- Blocks are made one after the other. -/
theorem KInv.makeL {Q : Prop} {E : List (Bs × (Int × Int))} {now : Int} : ∀ (k : Nat) (S : StM) (n : Nat), KInv Q S E → KInv Q (makeL k S now n).1 E ∧ (makeL k S now n).1.d = S.d ∧ (makeL k S now n).1.sp = S.sp ∧ (makeL k S now n).1.kp = S.kp
  | 0, S, n, h => ⟨h, rfl, rfl, rfl⟩
  | k + 1, S, n, h => by
    unfold Go.Proofs.YthgefobcohlegaaGreatDoor.makeL
    cases hm : mkStep S now with
    | mk o f =>
      cases o with
      | none => exact ⟨h, rfl, rfl, rfl⟩
      | some S' =>
        obtain ⟨h1, _, h3, h4, h5, _⟩ := h.step hm
        obtain ⟨i1, i2, i3, i4⟩ := KInv.makeL k S' (n + 1) h1
        exact ⟨i1, i2.trans h3, i3.trans h4, i4.trans h5⟩
/-- Points that rise from list to list are merged by laying one behind the other. -/
theorem ptsOf_in {b : Bk} (h : Back b.1.1 b.1.2 b.2) (s : Bs) : ∀ p ∈ ptsOf b.2 s, b.1.1 ≤ p.1 ∧ p.1 < b.1.1 + b.1.2 := by
  intro p hp
  obtain ⟨r, hr, hpr⟩ := ptsOf_sub hp
  exact allIn_mem (h.ok.1 r hr).2.2 hpr
theorem betL_id {l : List (Int × Int)} {f t : Int} (h : ∀ p ∈ l, f ≤ p.1 ∧ p.1 ≤ t) : betL f t l = l := by
  unfold betL
  refine List.filter_eq_self.2 fun p hp => ?_
  have := h p hp
  simp
  exact this
theorem fold_merge (s : Bs) {t : Int} : ∀ (B : List Bk) (acc : List (Int × Int)), (∀ b ∈ B, Back b.1.1 b.1.2 b.2 ∧ 0 ≤ b.1.1 ∧ ∀ p ∈ ptsOf b.2 s, p.1 ≤ t) → (B.Pairwise fun a b => a.1.1 + a.1.2 ≤ b.1.1) → (∀ p ∈ acc, ∀ b ∈ B, p.1 < b.1.1) →
    B.foldl (fun acc b => mergeP acc (betL 0 t (ptsOf b.2 s))) acc = acc ++ B.flatMap fun b => ptsOf b.2 s
  | [], acc, _, _, _ => by simp
  | b :: B, acc, hb, ha, hp => by
    obtain ⟨h1, h2⟩ := List.pairwise_cons.1 ha
    have hB := hb b List.mem_cons_self
    have hin := ptsOf_in hB.1 s
    rw [List.foldl_cons, betL_id (fun p hq => by have := hin p hq; have := hB.2.2 p hq; omega), merge_app _ _ (fun p hpa q hq => by have := hp p hpa b List.mem_cons_self; have := hin q hq; omega),
      fold_merge s B _ (fun c hc => hb c (List.mem_cons_of_mem _ hc)) h2 (fun p hpp c hc => by
        have hbc := h1 c hc
        rcases List.mem_append.1 hpp with hpp | hpp
        · have := hp p hpp b List.mem_cons_self
          have := hB.1.bd
          simp [bndB] at this
          omega
        · have := hin p hpp
          omega),
      List.flatMap_cons, List.append_assoc]
def EvOk (E : List (Bs × (Int × Int))) : Prop := ∀ x ∈ E, 0 ≤ x.2.1 ∧ x.2.1 ≤ 1099511627776
theorem preF_tick {S : StM} {s : Bs} {p : Int × Int} (h : (preF S s p).1 = 0) : 0 ≤ p.1 ∧ p.1 ≤ 1099511627776 := by
  obtain ⟨_, h2, h3, _⟩ := preF_zero h
  obtain ⟨_, h4, _⟩ := hFault_ok h3
  simp [tickB] at h4
  exact ⟨h2, h4.2⟩
theorem EvOk.snoc {E : List (Bs × (Int × Int))} (h : EvOk E) {s : Bs} {p : Int × Int} (hp : 0 ≤ p.1 ∧ p.1 ≤ 1099511627776) : EvOk (E ++ [(s, p)]) := by
  intro x hx
  rcases List.mem_append.1 hx with hx | hx
  · exact h x hx
  · rw [List.mem_singleton.1 hx]; exact hp
theorem evS_ok {E : List (Bs × (Int × Int))} (h : EvOk E) (s : Bs) : ∀ p ∈ evS E s, 0 ≤ p.1 ∧ p.1 ≤ 1099511627776 := by
  intro p hp
  obtain ⟨x, hx, rfl⟩ := List.mem_map.1 hp
  exact h x (List.mem_filter.1 hx).1
theorem hPoints_pts (A : List HA) (s : Bs) (f t : Int) : hPoints A s f t = betL f t (hPts A s) := by
  unfold hPoints hPts
  cases hFind A s with
  | some x => rfl
  | none => rfl
/-- What is selected of a series is what was added to it. -/
theorem KInv.pts {Q : Prop} {S : StM} {E : List (Bs × (Int × Int))} (h : KInv Q S E) (hq : Q) (hE : EvOk E) (s : Bs) : ptsS S s 0 1099511627776 = evS E s := by
  have hall := h.all hq s
  have hok := evS_ok hE s
  have hbl : ∀ b ∈ S.B, ∀ p ∈ ptsOf b.2 s, 0 ≤ p.1 ∧ p.1 ≤ 1099511627776 := fun b hb p hp => hok p (by rw [← hall]; exact List.mem_append_left _ (List.mem_flatMap.2 ⟨b, hb, hp⟩))
  have hhd : ∀ p ∈ hPts S.A s, 0 ≤ p.1 ∧ p.1 ≤ 1099511627776 := fun p hp => hok p (by rw [← hall]; exact List.mem_append_right _ hp)
  unfold ptsS
  rw [fold_merge s S.B [] (fun b hb => ⟨(h.bk b hb).1, (h.bk b hb).2.1, fun p hp => (hbl b hb p hp).2⟩) h.asc (fun p hp => by cases hp), List.nil_append, hPoints_pts, betL_id hhd, merge_app]
  · exact hall
  · intro p hp q hq
    obtain ⟨b, hb, hpb⟩ := List.mem_flatMap.1 hp
    have h1 := ptsOf_in (h.bk b hb).1 s p hpb
    by_cases hex : ∃ y ∈ S.A, y.1 = s
    · obtain ⟨y, hy, rfl⟩ := hex
      rw [hPts_of h.srt hy] at hq
      have := h.top b hb y hy q hq
      omega
    · rw [hPts_no fun y hy e => hex ⟨y, hy, e⟩] at hq
      cases hq
end Go.Proofs.YthgefobcohlegaaGreatDoor

namespace Go.Proofs.YthgefobcohlegaaGreatDoor
open Go.RowKit Go.Maps
set_option linter.unusedVariables false

theorem DOf.nil : DOf (.map []) [] := ⟨rfl, fun s => rfl, fun x h => by cases h⟩
theorem hnew_any (w : World) : Calls Tryz.prog 24 #[] w fun e w' => ∃ q mb, e = .returned (.pointer (some ⟨q, 0, none⟩)) ∧ HeadAt w' (fun k => w.heap.size ≤ k) q mb (.map []) [] ∧ Below w.heap.size w w' := by
  have hmm := @run_makeMap Tryz.prog
  have H1 : HeadAt ((w.alloc (.map #[] 0)).alloc (.cells #[.map (some w.heap.size)] 110)) (fun k => w.heap.size ≤ k) (w.heap.size + 1) w.heap.size (.map []) [] := by
    have hb := Blk.new (w.alloc (.map #[] 0)) 110 #[.map (some w.heap.size)]
    rw [World.size_alloc] at hb
    exact ⟨hb, (World.ownsMap_made w Tryz.prog 9 ptrR).alloc _, DOf.nil, fun x h => (by cases h), List.Pairwise.nil, Nat.le_succ _, Nat.le_refl _, List.Pairwise.nil⟩
  have HH := Lib.hid H1
  clear H1
  go_enter Tryz.func24, Tryz.ntmps24
  go_wp2
  go_ret
  exact ⟨_, _, rfl, HH.out, by go_grown⟩

def hFaultOf (d : Nat × Int) (tk : Bool) (f : Option HLn) (n : Nat) (t : Int) : Nat × Int :=
  if d.1 ≠ 0 then d else if tk = false then (2, -1) else match f with
    | some x => if t ≤ x.last then (8, -1) else (0, -1)
    | none => if 60 ≤ n then (7, -1) else (0, -1)
theorem hFault_of (L : List HLn) (s : Bs) (p : Int × Int) : hFault (absL L) s p = hFaultOf (rdF s) (tickB p.1) (lnFind L s) L.length p.1 := by
  unfold hFault hFaultOf
  rw [lnFind_abs]
  have : (absL L).length = L.length := by unfold absL; rw [List.length_map]
  rw [this]
  cases lnFind L s <;> rfl

set_option maxRecDepth 100000 in
set_option maxHeartbeats 4000000 in
theorem hcheck_any {es : Nat → Addr} {B : Nat} {F : Nat → Prop} {q mb : Nat} {D : DataW Unit} {L : List HLn} (s : Bs) (p : Int × Int) (w : World) (hs : s.length ≤ 100000) (hS : SVL es B w) (hB0 : B ≤ w.heap.size) (hH : HeadAt w F q mb D L) (hL : L.length ≤ 100000) :
    Calls Tryz.prog 27 #[.pointer (some ⟨q, 0, none⟩), .string (B8 s), .agg #[.int .i64 p.1, .int .u64 p.2]] w fun e w' => ∃ v, e = .returned v ∧ EV es w.heap.size w' v (hFault (absL L) s p) ∧ Below w.heap.size w w' := by
  rw [hFault_of]
  have hb1 : Below w.heap.size w (w.alloc (.cells #[.int .i64 p.1, .int .u64 p.2] 39)) := Below.alloc (Below.refl _ _) (Nat.le_refl _) _
  have hsz1 : (w.alloc (.cells #[.int .i64 p.1, .int .u64 p.2] 39)).heap.size = w.heap.size + 1 := World.size_alloc _ _
  have Hr := Lib.hid (lread_u s hs _ (hS.below hb1 hB0) (Nat.le_trans hB0 hb1.size))
  have HP := Lib.hid (Blk.new w 39 #[.int .i64 p.1, .int .u64 p.2])
  have HS := Lib.hid (fun W (hb : Below w.heap.size w W) => hS.below hb hB0)
  have HH := Lib.hid (fun W (hb : Below w.heap.size w W) => hH.below hb)
  have Hb1 := Lib.hid hb1
  have Hlk := Lib.hid (fun W (hb : Below w.heap.size w W) => (hH.below hb).look s (by omega))
  have Hlen := Lib.hid (fun W (hb : Below w.heap.size w W) => (hH.below hb).mp.len Tryz.underlying108)
  have Hdn := Lib.hid hH.dof.1
  have hq := hH.hd.lt
  obtain ⟨d, hd⟩ : ∃ d, d = rdF s := ⟨_, rfl⟩
  obtain ⟨f, hf⟩ : ∃ f, f = lnFind L s := ⟨_, rfl⟩
  rw [← hd, ← hf]
  rw [← hd] at Hr
  rw [← hf] at Hlk
  obtain ⟨n, hn⟩ : ∃ n, n = L.length := ⟨_, rfl⟩
  have Hn := Lib.hid hn
  have hn1 : n ≤ 100000 := by omega
  rw [← hn]
  have HF : ∀ x, f = some x → x ∈ L := fun x hx => (lnFind_mem (hf ▸ hx)).1
  have HF' := Lib.hid HF
  clear hd hf hS hH hb1 hsz1 HF hn hL
  generalize B8 s = st at Hr Hlk ⊢
  obtain ⟨t, b⟩ := p
  dsimp only at Hr HP Hb1 ⊢
  by_cases hd0 : d.1 = 0
  case neg =>
    have Hc := Lib.hid (show hFaultOf d (tickB t) f n t = d by unfold hFaultOf; rw [if_pos hd0])
    go_enter Tryz.func27, Tryz.ntmps27
    go_wp2_with fail
    refine Hr.out.mono ?_
    rintro e w1 ⟨v, u, l, rfl, hev, _, _, _, hb⟩
    obtain ⟨ty, pv, rfl⟩ := hev.pos hd0
    have HE := Lib.hid hev; have HB := Lib.hid (Below.call Hb1.out hb (by simp))
    clear hev hb
    go_wp2
    go_ret
    exact ⟨_, rfl, by rw [Hc.out]; exact HE.out.base (by simp), HB.out⟩
  by_cases htk : tickB t = true
  case neg =>
    have Hc := Lib.hid (show hFaultOf d (tickB t) f n t = (2, -1) by unfold hFaultOf; rw [if_neg (by simpa using hd0), if_pos (by simpa using htk)])
    have ht : t < -1099511627776 ∨ (¬ t < -1099511627776 ∧ 1099511627776 < t) := by
      unfold tickB at htk
      simp at htk
      omega
    clear htk
    rcases ht with ht | ⟨ht0, ht⟩
    all_goals
      go_enter Tryz.func27, Tryz.ntmps27
      go_wp2_with fail
      refine Hr.out.mono ?_
      rintro e w1 ⟨v, u, l, rfl, hev, _, _, _, hb⟩
      obtain rfl := hev.zero hd0
      have HB := Lib.hid (Below.call Hb1.out hb (by simp))
      have hk := HP.out.below hb (by simp)
      have z0 := hk.cell 0
      have g1 : w1.cell? ⟨0, 0, none⟩ = some (sentV (es 1)) := (HS.out _ HB.out).var 1 (by decide)
      clear hev hb hk
      go_wp2
      go_ret
      exact ⟨_, rfl, by rw [Hc.out]; exact .inr (.inl ⟨1, by decide, rfl, rfl⟩), HB.out⟩
  have ht1 : ¬ t < -1099511627776 := by unfold tickB at htk; simp at htk; omega
  have ht2 : ¬ 1099511627776 < t := by unfold tickB at htk; simp at htk; omega
  cases f with
  | some x =>
    by_cases hx : t ≤ x.last
    · have Hc := Lib.hid (show hFaultOf d (tickB t) (some x) n t = (8, -1) by unfold hFaultOf; rw [if_neg (by simpa using hd0), if_neg (by simp [htk])]; exact if_pos hx)
      clear htk
      go_enter Tryz.func27, Tryz.ntmps27
      go_wp2_with fail
      refine Hr.out.mono ?_
      rintro e w1 ⟨v, u, l, rfl, hev, _, _, _, hb⟩
      obtain rfl := hev.zero hd0
      have HB := Lib.hid (Below.call Hb1.out hb (by simp))
      have hk := HP.out.below hb (by simp)
      have z0 := hk.cell 0
      have g1 : w1.cell? ⟨2, 0, none⟩ = some (sentV (es 7)) := (HS.out _ HB.out).var 7 (by decide)
      have h1 := HH.out _ HB.out
      have z1 : w1.cell? ⟨q, 0, none⟩ = some (.map (some mb)) := h1.hd.cell 0
      have z2 := (Hlk.out _ HB.out).1 x (by first | rfl | trivial)
      have z3 : w1.cell? ⟨x.bk, 1, none⟩ = some (.int .i64 x.last) := (h1.ln x (HF'.out x rfl)).1.cell 1
      clear hev hb hk h1
      go_wp2
      go_quiet (fail)
      go_wp2
      go_ret
      exact ⟨_, rfl, by rw [Hc.out]; exact .inr (.inl ⟨7, by decide, rfl, rfl⟩), Below.drewN HB.out _⟩
    · have Hc := Lib.hid (show hFaultOf d (tickB t) (some x) n t = (0, -1) by unfold hFaultOf; rw [if_neg (by simpa using hd0), if_neg (by simp [htk])]; exact if_neg hx)
      clear htk
      go_enter Tryz.func27, Tryz.ntmps27
      go_wp2_with fail
      refine Hr.out.mono ?_
      rintro e w1 ⟨v, u, l, rfl, hev, _, _, _, hb⟩
      obtain rfl := hev.zero hd0
      have HB := Lib.hid (Below.call Hb1.out hb (by simp))
      have hk := HP.out.below hb (by simp)
      have z0 := hk.cell 0
      have h1 := HH.out _ HB.out
      have z1 : w1.cell? ⟨q, 0, none⟩ = some (.map (some mb)) := h1.hd.cell 0
      have z2 := (Hlk.out _ HB.out).1 x (by first | rfl | trivial)
      have z3 : w1.cell? ⟨x.bk, 1, none⟩ = some (.int .i64 x.last) := (h1.ln x (HF'.out x rfl)).1.cell 1
      clear hev hb hk h1
      go_wp2
      go_quiet (fail)
      go_wp2
      go_ret
      exact ⟨_, rfl, by rw [Hc.out]; exact .inl ⟨rfl, rfl⟩, Below.drewN HB.out _⟩
  | none =>
    by_cases hx : 60 ≤ n
    · have Hc := Lib.hid (show hFaultOf d (tickB t) none n t = (7, -1) by unfold hFaultOf; rw [if_neg (by simpa using hd0), if_neg (by simp [htk])]; exact if_pos hx)
      have hx' : (60 : Int) ≤ n := by omega
      clear htk
      go_enter Tryz.func27, Tryz.ntmps27
      go_wp2_with fail
      refine Hr.out.mono ?_
      rintro e w1 ⟨v, u, l, rfl, hev, _, _, _, hb⟩
      obtain rfl := hev.zero hd0
      have HB := Lib.hid (Below.call Hb1.out hb (by simp))
      have hk := HP.out.below hb (by simp)
      have z0 := hk.cell 0
      have h1 := HH.out _ HB.out
      have z1 : w1.cell? ⟨q, 0, none⟩ = some (.map (some mb)) := h1.hd.cell 0
      have z2 := (Hlk.out _ HB.out).2 (by first | rfl | trivial)
      have z4 := fun k => Hlen.out _ (Below.drewN HB.out k) 3
      rw [Hdn.out, ← Hn.out] at z4
      have g1 : w1.cell? ⟨5, 0, none⟩ = some (sentV (es 6)) := (HS.out _ HB.out).var 6 (by decide)
      clear hev hb hk h1
      go_wp2
      go_quiet (fail)
      go_wp2
      go_ret
      exact ⟨_, rfl, by rw [Hc.out]; exact .inr (.inl ⟨6, by decide, rfl, rfl⟩), Below.drewN HB.out _⟩
    · have Hc := Lib.hid (show hFaultOf d (tickB t) none n t = (0, -1) by unfold hFaultOf; rw [if_neg (by simpa using hd0), if_neg (by simp [htk])]; exact if_neg hx)
      have hx' : ¬ (60 : Int) ≤ n := by omega
      clear htk
      go_enter Tryz.func27, Tryz.ntmps27
      go_wp2_with fail
      refine Hr.out.mono ?_
      rintro e w1 ⟨v, u, l, rfl, hev, _, _, _, hb⟩
      obtain rfl := hev.zero hd0
      have HB := Lib.hid (Below.call Hb1.out hb (by simp))
      have hk := HP.out.below hb (by simp)
      have z0 := hk.cell 0
      have h1 := HH.out _ HB.out
      have z1 : w1.cell? ⟨q, 0, none⟩ = some (.map (some mb)) := h1.hd.cell 0
      have z2 := (Hlk.out _ HB.out).2 (by first | rfl | trivial)
      have z4 := fun k => Hlen.out _ (Below.drewN HB.out k) 3
      rw [Hdn.out, ← Hn.out] at z4
      clear hev hb hk h1
      go_wp2
      go_quiet (fail)
      go_wp2
      go_ret
      exact ⟨_, rfl, by rw [Hc.out]; exact .inl ⟨rfl, rfl⟩, Below.drewN HB.out _⟩
end Go.Proofs.YthgefobcohlegaaGreatDoor

namespace Go.Proofs
open Go.RowKit Go.Maps Go.Sort Go.Shelf
theorem Tryz.sorts57 (m : Nat) : AnyZ.SortsIn Tryz.prog Tryz.sorted57_ren Fence.wide m :=
  ⟨fun blk off cap ss W hH hblk hsz => callsIn_wide.2 (AnyM.slices_Sort_string Tryz.sort85 blk off cap ss W hH hblk hsz),
   fun p cap W => callsIn_wide.2 (AnyM.slices_Sort_string_none Tryz.sort85 p cap W)⟩
theorem Tryz.mapsKeys_line (mb : Option Nat) (W : World) : Calls Tryz.prog 83 #[.map mb] W fun e w' => e = .returned (.func (.func 114) #[] #[.pointer (some ⟨W.heap.size, 0, none⟩)]) ∧ w' = W.alloc (.cells #[.map mb] 108) :=
  callsIn_wide.1 (AnyZ.keys_in Tryz.keys83 Fence.wide 5 trivial rfl mb W)
set_option maxHeartbeats 1000000 in
theorem Tryz.sortedKeys_line {H : Type} (b nn : Nat) (D0 : DataW H) (R : Value → Option (DataW H × List MemPlace)) (w : World) (hown : w.ownsMap Tryz.prog 9 R b nn D0) (hmax : Maps.size D0 ≤ maxLen) (hbytes : Maps.size D0 * 16 ≤ 140737488355328) :
    Calls Tryz.prog 57 #[.func (.func 114) #[] #[.pointer (some ⟨w.heap.size, 0, none⟩)]] (w.alloc (.cells #[.map (some b)] 108)) fun e w' => ∃ (v : Value) (ss : List (List UInt8)), e = .returned v ∧ ss.Perm (strKeys D0) ∧
      w'.ownsRow (w.alloc (.cells #[.map (some b)] 108)).heap.size 9 1 v ss.length ((ss.mergeSort (fun x y => decide (x ≤ y))).map encStr) ∧ (v = .slice none 0 0 ↔ ss = []) ∧ Below (w.alloc (.cells #[.map (some b)] 108)).heap.size (w.alloc (.cells #[.map (some b)] 108)) w' := by
  refine (callsIn_wide (n := 5)).1 ?_
  have hbl := hown.lt
  have hseq : SeqGives Fence.wide 2 Tryz.prog 114 #[.pointer (some ⟨w.heap.size, 0, none⟩)] encStr (fun ss => ss.Perm (strKeys D0)) (Maps.size D0) (w.alloc (.cells #[.map (some b)] 108)) :=
    AnyZ.keys_gives (ρ := Tryz.keys83_ren) { Tryz.keys83 with } Fence.wide _ trivial rfl (by omega) w.heap.size b nn D0 _ (by simp) (by simp) (by
      obtain ⟨es, clock, hb, Ft, hs, hD⟩ := hown
      exact ⟨es, clock, (Below.heap_alloc _ _ b hbl).trans hb, Ft, hs, hD⟩)
  exact AnyZ.sorted_in Tryz.sorted57 Fence.wide 5 trivial trivial trivial trivial rfl (by omega) (Tryz.sorts57 _) (enters_of Tryz.func85 (by kernel_rfl) rfl) 114 #[.pointer (some ⟨w.heap.size, 0, none⟩)] trivial (enters_of Tryz.func114 (by kernel_rfl) rfl) _ _ hmax hbytes _ hseq
end Go.Proofs
namespace Go.Proofs.YthgefobcohlegaaGreatDoor
open Go.RowKit Go.Maps
set_option linter.unusedVariables false

/-- The names of a head's lines are its map's keys, sorted. -/
theorem keys_sorted {F : Nat → Prop} {w : World} {q mb : Nat} {D : DataW Unit} {L : List HLn} (h : HeadAt w F q mb D L) {ss : List (List UInt8)} (hp : ss.Perm (strKeys D)) :
    ss.mergeSort (fun x y => decide (x ≤ y)) = L.map (·.nm) := by
  have hs : (L.map (·.nm)).Pairwise (fun x y : Bs => x < y) := by
    have := h.srt
    unfold hSrt absL at this
    rw [List.pairwise_map] at this
    rw [List.pairwise_map]
    exact this
  have hn : (L.map (·.nm)).Nodup := List.Pairwise.imp (fun hxy e => by subst e; exact lt_irrefl_bs _ hxy) hs
  obtain ⟨es, rfl, hes, _⟩ := h.mp.entries strKeyed
  obtain ⟨es2, he2, hk⟩ := h.mp.keysOf
  injection he2 with he2
  subst he2
  have hp2 : (L.map (·.nm)).Perm (strKeys (.map es)) := by
    refine perm_strKeys hes (fun p hp => ?_) hn (fun x => ?_)
    · obtain ⟨v, hv⟩ := hk p hp
      obtain ⟨x, _, hx, _⟩ := Maps.keyOf_str Tryz.underlying9 hv
      exact ⟨x, hx⟩
    · rw [h.dof.2.1 x, List.any_eq_true, List.mem_map]
      constructor
      · rintro ⟨y, hy, rfl⟩; exact ⟨y, hy, by simp⟩
      · rintro ⟨y, hy, e⟩; exact ⟨y, hy, by simpa using e⟩
  have e1 : ss.mergeSort leB = (L.map (·.nm)).mergeSort leB := mergeSort_of_perm (hp.trans hp2.symm)
  show ss.mergeSort leB = _
  rw [e1]
  exact List.mergeSort_of_pairwise (List.Pairwise.imp (fun {x y} hxy => by simp only [leB, decide_eq_true_eq]; exact List.le_of_lt hxy) hs)

theorem hPoints_of (L : List HLn) (s : Bs) (f t : Int) : hPoints (absL L) s f t = match lnFind L s with
    | some x => betL f t x.pts
    | none => [] := by
  unfold hPoints
  rw [lnFind_abs]
  cases lnFind L s <;> rfl
set_option maxRecDepth 100000 in
set_option maxHeartbeats 4000000 in
theorem hpoints_any {F : Nat → Prop} {q mb : Nat} {D : DataW Unit} {L : List HLn} (s : Bs) (f t : Int) (w : World) (hs : s.length ≤ 100000) (hH : HeadAt w F q mb D L) (hN : ∀ x ∈ L, x.pts.length ≤ 100000) :
    Calls Tryz.prog 61 #[.pointer (some ⟨q, 0, none⟩), .string (B8 s), .int .i64 f, .int .i64 t] w fun e w' => ∃ v, e = .returned v ∧ w'.ownsRow w.heap.size 39 2 v (hPoints (absL L) s f t).length (ptsC (hPoints (absL L) s f t)) ∧ Below w.heap.size w w' := by
  rw [hPoints_of]
  have z1 : w.cell? ⟨q, 0, none⟩ = some (.map (some mb)) := hH.hd.cell 0
  obtain ⟨k1, k2⟩ := hH.look s (by omega)
  cases hx : lnFind L s with
  | none =>
    have z2 := k2 hx
    clear hH k1 k2 hN hx
    generalize B8 s = st at z2 ⊢
    go_enter Tryz.func61, Tryz.ntmps61
    go_wp2
    go_ret
    exact ⟨_, rfl, World.ownsRow_nil _ _ _ _, Below.refl _ _⟩
  | some x =>
    have z2 := k1 x hx
    obtain ⟨hm, _⟩ := lnFind_mem hx
    obtain ⟨h1, h2, _⟩ := hH.ln x hm
    obtain ⟨A, c, hv, _, _, hr⟩ := h2.form
    have z3 : w.cell? ⟨x.bk, 0, none⟩ = some (.slice A x.pts.length c) := by rw [← hv]; exact h1.cell 0
    have Hbt := Lib.hid (between_any A x.pts.length c x.pts f t w hr (hN x hm))
    clear hH k1 k2 hN hx hm h1 h2 hv hr
    generalize B8 s = st at z2 ⊢
    go_enter Tryz.func61, Tryz.ntmps61
    go_wp2_with fail
    refine Hbt.out.mono ?_
    rintro e w' ⟨v, rfl, h1, h2⟩
    have H1 := Lib.hid h1; have H2 := Lib.hid h2
    clear h1 h2
    go_wp2
    go_ret
    exact ⟨_, rfl, H1.out, H2.out⟩

def hSer (L : List HLn) : List Bs := (L.filter fun x => decide (x.pts ≠ [])).map (·.nm)
theorem hSeries_of (L : List HLn) : hSeries (absL L) = hSer L := by
  unfold hSeries absL hSer
  rw [List.filter_map, List.map_map]
  rfl
set_option maxRecDepth 100000 in
set_option maxHeartbeats 4000000 in
theorem hseries_any {F : Nat → Prop} {q mb : Nat} {D : DataW Unit} {L : List HLn} (w : World) (hH : HeadAt w F q mb D L) (hL : L.length ≤ 100000) (hn : ∀ x ∈ L, x.nm.length ≤ 100000) :
    Calls Tryz.prog 56 #[.pointer (some ⟨q, 0, none⟩)] w fun e w' => ∃ v, e = .returned v ∧ w'.ownsRow w.heap.size 9 1 v (hSer L).length (txC (hSer L)) ∧ Below w.heap.size w w' := by
  have z1 : w.cell? ⟨q, 0, none⟩ = some (.map (some mb)) := hH.hd.cell 0
  have hmb := hH.mp.lt
  have hq := hH.hd.lt
  have Hk := Lib.hid (Tryz.mapsKeys_line (some mb) w)
  have Hs := Lib.hid (Tryz.sortedKeys_line mb L.length D ptrR w hH.mp (by rw [hH.dof.1]; unfold maxLen; omega) (by rw [hH.dof.1]; omega))
  have HH := Lib.hid (fun W (hb : Below w.heap.size w W) => hH.below hb)
  have Hsrt := Lib.hid (fun (ss : List (List UInt8)) (hp : ss.Perm (strKeys D)) => keys_sorted hH hp)
  obtain ⟨i0, hi, hz0, hz1, hz2⟩ := info_parts infoTx
  have Hi := Lib.hid hi; have Hz0 := Lib.hid hz0; have Hz1 := Lib.hid hz1; have Hz2 := Lib.hid hz2; have Hn := Lib.hid hn
  have Hba := Lib.hid (show Below w.heap.size w (w.alloc (.cells #[.map (some mb)] 108)) from Below.alloc (Below.refl _ _) (Nat.le_refl _) _)
  clear hH hi hz0 hz1 hz2 hn
  go_enter Tryz.func56, Tryz.ntmps56
  go_wp2_with fail
  refine Hk.out.mono ?_
  rintro e w0 ⟨rfl, rfl⟩
  go_wp2_with fail
  refine Hs.out.mono ?_
  rintro e w1 ⟨v1, ss, rfl, hp, hown, _, hb⟩
  have hsr := Hsrt.out ss hp
  rw [hsr] at hown
  have hsl : ss.length = L.length := by
    have := congrArg List.length hsr
    rw [List.length_mergeSort, List.length_map] at this
    exact this
  rw [hsl] at hown
  obtain ⟨A1, c1, rfl, _, _, hr1⟩ := own_form hown
  have HB1 := Lib.hid (Below.call Hba.out hb (by simp))
  have HR1 := Lib.hid (show Rd w1 w1.heap.size 1 A1 L.length (L.map fun x => Value.string (B8 x.nm)) by
    have e : (L.map (·.nm)).map encStr = L.map fun x => Value.string (B8 x.nm) := by rw [List.map_map]; rfl
    rw [← e]; exact hr1)
  obtain ⟨n, hn⟩ : ∃ n, n = L.length := ⟨_, rfl⟩
  rw [← hn] at HR1 ⊢
  have Hnl := Lib.hid hn
  have hn1 : n ≤ 100000 := by omega
  have hw1 : w.heap.size ≤ w1.heap.size := HB1.out.size
  clear hp hown hsr hsl hb hr1 hn hL
  go_wp2
  go_loopw [3, 13] (fun o iv wr => ∃ k : Nat, k ≤ n ∧ iv = .int .i64 k ∧ wr.ownsRow w1.heap.size 9 1 o (hSer (L.take k)).length (txC (hSer (L.take k))) ∧ Below w1.heap.size w1 wr) (fun _ iv _ => n - (intOf iv).toNat)
  case atStart => exact ⟨0, Nat.zero_le _, rfl, World.ownsRow_nil _ _ _ _, Below.refl _ _⟩
  case round =>
    obtain ⟨k, hk, rfl, hown, hbel⟩ := hrel
    obtain ⟨Ao, co, rfl, hco, _, hro⟩ := own_form hown
    have Hown := Lib.hid hown; have Hbel := Lib.hid hbel
    have hwr : w1.heap.size ≤ wr.heap.size := hbel.size
    clear hown hro
    by_cases hkn : k < n
    · obtain ⟨bb, off, x, hAe, had, hx, e0⟩ := (HR1.out.below hbel).at1 hkn
      subst hAe
      have hxm := List.mem_of_getElem? hx
      have hwh := HH.out wr (Below.call HB1.out hbel hw1)
      have y1 : wr.cell? ⟨q, 0, none⟩ = some (.map (some mb)) := hwh.hd.cell 0
      have y2 := hwh.look1 x hxm (by have := Hn.out x hxm; omega)
      obtain ⟨g1, g2, _⟩ := hwh.ln x hxm
      obtain ⟨A, c, hv, _, _, _⟩ := g2.form
      have y3 : wr.cell? ⟨x.bk, 0, none⟩ = some (.slice A x.pts.length c) := by rw [← hv]; exact g1.cell 0
      have hsl : (hSer (L.take k)).length ≤ k := by
        unfold hSer
        rw [List.length_map]
        exact Nat.le_trans (List.length_filter_le _ _) (List.length_take_le _ _)
      have Htk := Lib.hid (take_snoc hx)
      obtain ⟨m, hm⟩ : ∃ m, m = x.pts.length := ⟨_, rfl⟩
      rw [← hm] at y3
      have Hm := Lib.hid hm
      have hs1 : (B8 x.nm).size ≤ 100000 := by rw [B8_size]; exact Hn.out x hxm
      clear hx hxm hwh g1 g2 hv hm hbel
      generalize hst : B8 x.nm = st at e0 y2 hs1
      have Hst := Lib.hid hst
      clear hst
      by_cases h0 : m = 0
      · have Hser := Lib.hid (show hSer (L.take (k + 1)) = hSer (L.take k) by
          rw [Htk.out]; unfold hSer
          rw [List.filter_append, List.map_append]
          have : x.pts = [] := List.eq_nil_of_length_eq_zero (by rw [← Hm.out]; exact h0)
          simp [this])
        subst h0
        go_wp2
        go_roundw
        case rel => exact ⟨k + 1, by omega, by go_num, by rw [Hser.out]; exact Hown.out, Hbel.out⟩
        case measure => simp [intOf]; omega
      · have h0' : (0 : Int) < (m : Int) := by omega
        have Hser := Lib.hid (show hSer (L.take (k + 1)) = hSer (L.take k) ++ [x.nm] by
          rw [Htk.out]; unfold hSer
          rw [List.filter_append, List.map_append]
          have : x.pts ≠ [] := fun e => h0 (by rw [Hm.out, e]; rfl)
          simp [this])
        have hk63 : (hSer (L.take k)).length + 1 ≤ maxLen := by unfold maxLen; omega
        have hk8 : ((hSer (L.take k)).length + 1) * 16 ≤ 140737488355328 := by omega
        have HoA := Lib.hid (show (wr.alloc (.cells #[.string st] 9)).ownsRow w1.heap.size 9 1 (.slice Ao (hSer (L.take k)).length co) (hSer (L.take k)).length (txC (hSer (L.take k))) from Hown.out.alloc _)
        have HrA := Lib.hid (one_cell wr 9 (.string st))
        have HzA := Lib.hid (show w1.heap.size ≤ (wr.alloc (.cells #[.string st] 9)).heap.size by simp; omega)
        have HbA := Lib.hid (Below.alloc Hbel.out hwr (.cells #[.string st] 9))
        generalize hln : (hSer (L.take k)).length = ln at hk63 hk8 HoA
        have Hln := Lib.hid hln
        clear hln
        go_wp2_with (at_builtin; refine wpList_append_rd _ rfl (.tmp 28) (.tmp 30) _ rfl w1.heap.size 9 i0 (.string ⟨#[]⟩) 1 16 Tryz.underlying48 Hi.out Hz0.out Hz1.out Hz2.out rfl (by decide) (.slice Ao ln co) ln _ rfl HoA.out _ _ 1 1 [.string st] rfl HrA.out (by intro u hu; simp at hu; subst hu; rfl) hk63 hk8 HzA.out ?_; intro v' wa hown' hgr hat; have Hv := Lib.hid hown'; have HBb := Lib.hid (Below.grown HbA.out hgr HzA.out (fun g hg => (own_lt HoA.out g hg).1)); clear hown' hgr hat)
        go_roundw
        case rel => exact ⟨k + 1, by omega, by go_num, by
          rw [Hser.out, List.length_append, Hln.out]
          have e : txC (hSer (L.take k) ++ [x.nm]) = txC (hSer (L.take k)) ++ [.string st] := by unfold txC; rw [List.map_append, ← Hst.out]; rfl
          rw [e]; exact Hv.out, HBb.out⟩
        case measure => simp [intOf]; omega
    · obtain rfl : k = n := by omega
      have e : L.take k = L := List.take_of_length_le (by rw [Hnl.out]; exact Nat.le_refl _)
      have Hfin := Lib.hid (show wr.ownsRow w.heap.size 9 1 (.slice Ao (hSer (L.take k)).length co) (hSer L).length (txC (hSer L)) by
        have h := own_base Hown.out hw1
        rw [e] at h ⊢
        exact h)
      have Hb := Lib.hid (Below.call HB1.out hbel hw1)
      clear hbel e
      go_wp2
      go_ret
      exact ⟨_, rfl, Hfin.out, Hb.out⟩
end Go.Proofs.YthgefobcohlegaaGreatDoor
