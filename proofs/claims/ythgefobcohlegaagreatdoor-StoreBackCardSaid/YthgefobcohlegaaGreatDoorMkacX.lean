/- A head's lines after an append, and after a new line. -/
import Derived.Test.YthgefobcohlegaaGreatDoorMkhX
import Derived.Test.YthgefobcohlegaaGreatDoorMkvX
import Derived.Test.YthgefobcohlegaaGreatDoorMkabX
import Derived.Deep.RegionHeld3
namespace Go.Proofs.YthgefobcohlegaaGreatDoor
open Go.RowKit Go.Maps
set_option linter.unusedVariables false

theorem srt_inj {L : List HLn} (h : hSrt (absL L)) {x y : HLn} (hx : x ∈ L) (hy : y ∈ L) (e : x.nm = y.nm) : x = y := by
  induction L with
  | nil => cases hx
  | cons a L ih =>
    unfold hSrt absL at h ih
    rw [List.map_cons, List.pairwise_cons] at h
    have h1 : ∀ z ∈ L, a.nm < z.nm := fun z hz => h.1 _ (List.mem_map.2 ⟨z, hz, rfl⟩)
    rcases List.mem_cons.1 hx with rfl | hx'
    · rcases List.mem_cons.1 hy with rfl | hy'
      · rfl
      · have := h1 y hy'; rw [e] at this; exact absurd this (lt_irrefl_bs _)
    · rcases List.mem_cons.1 hy with rfl | hy'
      · have := h1 x hx'; rw [e] at this; exact absurd this (lt_irrefl_bs _)
      · exact ih h.2 hx' hy'
/-- One line turned. -/
def turnL (L : List HLn) (s : Bs) (v : Value) (pts : List (Int × Int)) (last : Int) : List HLn := L.map fun y => if y.nm == s then ⟨y.nm, y.bk, v, pts, last⟩ else y
theorem turnL_len (L : List HLn) (s : Bs) (v : Value) (pts : List (Int × Int)) (last : Int) : (turnL L s v pts last).length = L.length := by unfold turnL; rw [List.length_map]
theorem turnL_mem {L : List HLn} {s : Bs} {v : Value} {pts : List (Int × Int)} {last : Int} {z : HLn} (h : z ∈ turnL L s v pts last) : (∃ y ∈ L, y.nm = s ∧ z = ⟨y.nm, y.bk, v, pts, last⟩) ∨ (z ∈ L ∧ z.nm ≠ s) := by
  unfold turnL at h
  obtain ⟨y, hy, rfl⟩ := List.mem_map.1 h
  by_cases e : y.nm = s
  · exact .inl ⟨y, hy, e, by simp [e]⟩
  · rw [if_neg (by simpa using e)]
    exact .inr ⟨hy, e⟩
theorem DOf.turn {D : DataW Unit} {L : List HLn} (h : DOf D L) (s : Bs) (v : Value) (pts : List (Int × Int)) (last : Int) : DOf D (turnL L s v pts last) := by
  refine ⟨by rw [turnL_len]; exact h.1, fun u => ?_, fun z hz w => ?_⟩
  · rw [h.2.1 u]
    unfold turnL
    rw [List.any_map]
    congr 1
    funext y
    simp only [Function.comp]
    split <;> rfl
  · rcases turnL_mem hz with ⟨y, hy, _, rfl⟩ | ⟨hz, _⟩
    · exact h.2.2 y hy w
    · exact h.2.2 z hz w
theorem srt_turn {L : List HLn} (h : hSrt (absL L)) (s : Bs) (v : Value) (pts : List (Int × Int)) (last : Int) : hSrt (absL (turnL L s v pts last)) := by
  refine srt_names ?_ h
  unfold absL turnL
  rw [List.map_map, List.map_map, List.map_map]
  apply List.map_congr_left
  intro y _
  simp only [Function.comp]
  split <;> rfl
/-- A line's slice has been replaced, its last tick too. -/
theorem HeadAt.turn {F S : Nat → Prop} {q mb N : Nat} {D : DataW Unit} {L : List HLn} {w wa : World} {x : HLn} {v : Value} {pts : List (Int × Int)} {last : Int}
    (h : HeadAt w F q mb D L) (hx : x ∈ L) (hf : Fr S w wa) (hS : ∀ k, S k → ownZB x.v = some k) (ho : OwnZ wa 39 2 v pts.length (ptsC pts)) (hat : ∀ g, ownZB v = some g → ownZB x.v = some g ∨ w.heap.size ≤ g) (hN : N ≤ w.heap.size)
    (wz : World) (hz : Fr (fun k => k = x.bk) wa wz) (hzb : Blk wz x.bk 114 #[v, .int .i64 last]) (hzo : ∀ g, ownZB v = some g → g ≠ x.bk) :
    HeadAt wz (fun k => F k ∨ N ≤ k) q mb D (turnL L x.nm v pts last) ∧ Fr F w wz := by
  obtain ⟨x1, x2, x3, x4⟩ := h.ln x hx
  have hfz : Fr F w wz := by
    refine Fr.trans (hf.mono fun k _ hk => ?_) hz (fun k _ hk => ?_)
    · exact x4 k (hS k hk)
    · rw [hk]; exact x3
  have far : Fr (fun k => k = x.bk ∨ ownZB x.v = some k) w wz := Fr.trans (hf.mono fun k _ hk => .inr (hS k hk)) hz (fun k _ hk => .inl hk)
  have nq : ¬ (q = x.bk ∨ ownZB x.v = some q) := by
    rintro (e | e)
    · exact Blk.ne_ h.hd x1 (by decide) e
    · exact x2.ne_blk h.hd (by decide) e
  have nm : ¬ (mb = x.bk ∨ ownZB x.v = some mb) := by
    obtain ⟨es, clock, hm, _⟩ := h.mp
    rintro (e | e)
    · unfold Blk at x1
      rw [← e, hm] at x1
      cases x1
    · rcases x2 with ⟨_, _, A, e2⟩ | ⟨hc, x2⟩
      · rw [e2] at e; simp [ownZB, capOf] at e
      · have e3 := ownZB_le e
        rcases x2.2 with ⟨e4, _⟩ | ⟨g, cap, cur, e4, _, hg, _⟩
        · rw [e4] at e3; cases e3
        · rw [e4] at e3
          injection e3 with e3
          have e3 : g = mb := e3
          rw [e3, hm] at hg
          cases hg
  refine ⟨⟨far.blk h.hd nq, ?_, h.dof.turn _ _ _ _, fun z hz' => ?_, ?_, .inl h.fh, .inl h.fm, srt_turn h.srt _ _ _ _⟩, hfz⟩
  · rw [turnL_len]
    exact ownsMap_blk h.mp (far.block _ h.mp.lt nm)
  · rcases turnL_mem hz' with ⟨y, hy, e, rfl⟩ | ⟨hzl, hne⟩
    · obtain rfl := srt_inj h.srt hy hx e
      refine ⟨hzb, ho.fr hz (fun k hk e => hzo k hk e), .inl x3, fun g hg => ?_⟩
      rcases hat g hg with h1 | h1
      · exact .inl (x4 g h1)
      · exact .inr (Nat.le_trans hN h1)
    · have ha : Apart z x := by
        have hap := h.ap
        have : z ≠ x := fun e => hne (by rw [e])
        rcases List.pairwise_iff_getElem.1 hap with hp
        obtain ⟨i, hi, rfl⟩ := List.getElem_of_mem hzl
        obtain ⟨j, hj, rfl⟩ := List.getElem_of_mem hx
        rcases Nat.lt_trichotomy i j with hh | hh | hh
        · exact hp i j hi hj hh
        · subst hh; exact absurd rfl this
        · exact (hp j i hj hi hh).symm
      obtain ⟨z1, z2, z3, z4⟩ := h.ln z hzl
      refine ⟨far.blk z1 ?_, z2.fr far (fun k hk => ?_), .inl z3, fun g hg => .inl (z4 g hg)⟩
      · rintro (e | e)
        · exact ha.1 e
        · exact x2.ne_blk z1 (by decide) e
      · rintro (e | e)
        · exact z2.ne_blk x1 (by decide) (by rw [← e]; exact hk)
        · rcases ha.2 with h2 | h2
          · rw [h2] at hk; cases hk
          · exact h2 (hk.trans e.symm)
  · unfold turnL
    rw [List.pairwise_map]
    refine List.Pairwise.imp_of_mem (fun {a b} ha hb hab => ?_) h.ap
    have lt : ∀ z ∈ L, ∀ g, ownZB z.v = some g → g < w.heap.size := fun z hz' g hg => (h.ln z hz').2.1.lt g hg
    have key : ∀ z ∈ L, Apart x z → z.nm ≠ x.nm → ∀ bk, bk = x.bk → Apart ⟨x.nm, bk, v, pts, last⟩ z := fun z hz' hxz hne bk hbk => by
      subst hbk
      refine ⟨hxz.1, ?_⟩
      show ownZB v = none ∨ ownZB v ≠ ownZB z.v
      cases hv : ownZB v with
      | none => exact .inl rfl
      | some g =>
        right
        intro e
        rcases hat g hv with h1 | h1
        · rcases hxz.2 with h2 | h2
          · rw [h2] at h1; cases h1
          · exact h2 (h1.trans e)
        · have := lt z hz' g e.symm; omega
    by_cases ea : a.nm = x.nm
    · obtain rfl := srt_inj h.srt ha hx ea
      by_cases eb : b.nm = a.nm
      · obtain rfl := srt_inj h.srt hb hx eb
        exact absurd rfl hab.1
      · rw [if_pos (by simp), if_neg (by simpa using eb)]
        exact key b hb hab eb _ rfl
    · by_cases eb : b.nm = x.nm
      · obtain rfl := srt_inj h.srt hb hx eb
        rw [if_neg (by simpa using ea), if_pos (by simp)]
        exact (key a ha hab.symm ea _ rfl).symm
      · rw [if_neg (by simpa using ea), if_neg (by simpa using eb)]
        exact hab
theorem absL_turn {L : List HLn} (hs : hSrt (absL L)) {x : HLn} (hx : x ∈ L) (v : Value) (p : Int × Int) : absL (turnL L x.nm v (x.pts ++ [p]) p.1) = hPut (absL L) x.nm p := by
  unfold absL turnL hPut
  rw [List.map_map, List.map_map]
  apply List.map_congr_left
  intro y hy
  simp only [Function.comp]
  by_cases e : y.nm = x.nm
  · obtain rfl := srt_inj hs hy hx e
    simp
  · rw [if_neg (by simpa using e), if_neg (by simpa using e)]

/-- A new line at its place. -/
def insL (L : List HLn) (x : HLn) : List HLn := L.takeWhile (fun y => decide (y.nm < x.nm)) ++ x :: L.dropWhile (fun y => decide (y.nm < x.nm))
theorem absL_ins (L : List HLn) (x : HLn) : absL (insL L x) = hIns (absL L) (x.nm, x.pts, x.last) := by
  unfold absL insL hIns
  rw [List.map_append, List.map_cons, List.takeWhile_map, List.dropWhile_map]
  rfl
theorem insL_mem {L : List HLn} {x y : HLn} : y ∈ insL L x ↔ y = x ∨ y ∈ L := by
  unfold insL
  rw [List.mem_append, List.mem_cons]
  have e : y ∈ L ↔ y ∈ L.takeWhile (fun y => decide (y.nm < x.nm)) ∨ y ∈ L.dropWhile (fun y => decide (y.nm < x.nm)) := by
    rw [← List.mem_append, List.takeWhile_append_dropWhile]
  rw [e]
  constructor
  · rintro (h | h | h)
    · exact .inr (.inl h)
    · exact .inl h
    · exact .inr (.inr h)
  · rintro (h | h | h)
    · exact .inr (.inl h)
    · exact .inl h
    · exact .inr (.inr h)
theorem insL_perm (L : List HLn) (x : HLn) : (insL L x).Perm (x :: L) := by
  unfold insL
  refine List.perm_middle.trans (List.Perm.cons _ ?_)
  rw [List.takeWhile_append_dropWhile]
theorem insL_len (L : List HLn) (x : HLn) : (insL L x).length = L.length + 1 := (insL_perm L x).length_eq
theorem lnFind_none {L : List HLn} {s : Bs} (h : lnFind L s = none) : ∀ x ∈ L, x.nm ≠ s := by
  unfold lnFind at h
  rw [List.find?_eq_none] at h
  intro x hx e
  exact h x hx (by simp [e])
theorem DOf.ins {D : DataW Unit} {L : List HLn} {x : HLn} (h : DOf D L) (ht : Tidy D) (hn : lnFind L x.nm = none) : DOf (D.put (.string x.nm) (.lit (.int .i64 (x.bk : Int)))) (insL L x) := by
  have hh : Maps.has D (.string x.nm) = false := by rw [h.2.1 x.nm, lnFind_any, hn]; rfl
  refine ⟨?_, fun u => ?_, fun z hz w => ?_⟩
  · rw [Maps.size_put ht, hh, insL_len, h.1]; rfl
  · have e : (insL L x).any (fun y => y.nm == u) = ((x.nm == u) || L.any fun y => y.nm == u) := by
      rw [(insL_perm L x).any_eq, List.any_cons]
    rw [e]
    by_cases hu : x.nm = u
    · subst hu
      rw [Maps.has_put_same ht.isMap (show WideAt.IsKeyLit (.string x.nm) from trivial)]
      simp
    · rw [Maps.has_put_other (fun e => hu (by injection e with e; exact e.symm)), h.2.1 u]
      simp [hu]
  · rcases insL_mem.1 hz with rfl | hz
    · exact Maps.atKey_put_same ht.isMap (show WideAt.IsKeyLit (.string z.nm) from trivial) _ _
    · have := lnFind_none hn z hz
      rw [Maps.atKey_put_other (fun e => this (by injection e))]
      exact h.2.2 z hz w
theorem HeadAt.ins {F : Nat → Prop} {q mb N bk : Nat} {D : DataW Unit} {L : List HLn} {w W w3 : World} {s : Bs} (h : HeadAt w F q mb D L) (hn : lnFind L s = none) (hf : Fr (fun _ => False) w W) (hblk : Blk W bk 114 #[.slice none 0 0, .int .i64 0]) (hbk : w.heap.size ≤ bk)
    (hm : w3.ownsMap Tryz.prog 9 ptrR mb (L.length + 1) (D.put (.string s) (.lit (.int .i64 (bk : Int))))) (hg : W.grownBy w3 (some mb)) (hN : N ≤ w.heap.size) :
    HeadAt w3 (fun k => F k ∨ N ≤ k) q mb (D.put (.string s) (.lit (.int .i64 (bk : Int)))) (insL L ⟨s, bk, .slice none 0 0, [], 0⟩) ∧ Fr F w w3 := by
  have hfw : Fr (fun k => k = mb) w w3 := (hf.mono (fun _ _ h => h.elim)).grown hg (fun k hk => .inr (by injection hk with hk; exact hk.symm))
  have nm : ∀ {g : Nat} {t : TypeId} {cs : Array Value} {W : World}, (∃ es clock, W.heap[mb]? = some (.map es clock)) → Blk W g t cs → g ≠ mb := by
    rintro g t cs W ⟨es, clock, hm⟩ hb rfl
    unfold Blk at hb
    rw [hm] at hb
    cases hb
  have hmap : ∃ es clock, w.heap[mb]? = some (.map es clock) := by obtain ⟨es, clock, h1, _⟩ := h.mp; exact ⟨es, clock, h1⟩
  have hmapW : ∃ es clock, W.heap[mb]? = some (.map es clock) := by obtain ⟨es, clock, h1⟩ := hmap; exact ⟨es, clock, (hf.block _ h.mp.lt (fun h => h)).trans h1⟩
  have hz : ∀ z ∈ L, LineAt w3 (fun k => F k ∨ N ≤ k) z := fun z hz => by
    obtain ⟨z1, z2, z3, z4⟩ := h.ln z hz
    refine ⟨hfw.blk z1 (nm hmap z1), z2.fr hfw (fun k hk e => ?_), .inl z3, fun g hg => .inl (z4 g hg)⟩
    obtain ⟨es, clock, hme⟩ := hmap
    rcases z2 with ⟨_, _, A, e2⟩ | ⟨hc, z2⟩
    · rw [e2] at hk; simp [ownZB, capOf] at hk
    · have e3 := ownZB_le hk
      rcases z2.2 with ⟨e4, _⟩ | ⟨g, cap, cur, e4, _, hgg, _⟩
      · rw [e4] at e3; cases e3
      · rw [e4] at e3
        injection e3 with e3
        have e3 : g = k := e3
        rw [e3, e, hme] at hgg
        cases hgg
  refine ⟨⟨hfw.blk h.hd (nm hmap h.hd), by rw [insL_len]; exact hm, DOf.ins (x := ⟨s, bk, .slice none 0 0, [], 0⟩) h.dof (h.mp.tidy strKeyed) hn, fun z hz' => ?_, ?_, .inl h.fh, .inl h.fm, ?_⟩, hfw.mono (fun k _ hk => by rw [hk]; exact h.fm)⟩
  · rcases insL_mem.1 hz' with rfl | hz'
    · refine ⟨(hg.block bk hblk.lt (fun e => nm hmapW hblk (by injection e))).trans hblk, .inl ⟨rfl, rfl, none, rfl⟩, .inr (Nat.le_trans hN hbk), fun g hg => ?_⟩
      simp [ownZB, capOf] at hg
    · exact hz z hz'
  · refine (List.Perm.pairwise_iff (fun h => Apart.symm h) (insL_perm L _)).2 (List.pairwise_cons.2 ⟨fun z hz' => ⟨fun e => ?_, .inl rfl⟩, h.ap⟩)
    have := (h.ln z hz').1.lt
    have e : bk = z.bk := e
    omega
  · rw [absL_ins]
    refine hIns_srt h.srt (fun y hy => ?_)
    obtain ⟨z, hz', rfl⟩ := List.mem_map.1 hy
    exact lnFind_none hn z hz'
theorem hPut_ins {A : List HA} {s : Bs} (hn : hFind A s = none) (p : Int × Int) (t : Int) : hPut (hIns A (s, [], t)) s p = hIns A (s, [p], p.1) := by
  have h := hFind_none hn
  have e : ∀ B : List HA, (∀ y ∈ B, y ∈ A) → hPut B s p = B := fun B hB => by
    unfold hPut
    conv => rhs; rw [← List.map_id B]
    apply List.map_congr_left
    intro y hy
    rw [if_neg (by simpa using h y (hB y hy))]; rfl
  unfold hIns
  dsimp only
  have e1 := e (A.takeWhile fun y => decide (y.1 < s)) (fun y hy => (List.takeWhile_sublist _).subset hy)
  have e2 := e (A.dropWhile fun y => decide (y.1 < s)) (fun y hy => (List.dropWhile_sublist _).subset hy)
  unfold hPut at e1 e2 ⊢
  rw [List.map_append, List.map_cons, e1, e2]
  simp
end Go.Proofs.YthgefobcohlegaaGreatDoor

namespace Go.Proofs.YthgefobcohlegaaGreatDoor
open Go.RowKit Go.Maps
set_option linter.unusedVariables false

/-- What Add answers. -/
def HAPost (es : Nat → Addr) (F : Nat → Prop) (q mb : Nat) (D : DataW Unit) (L : List HLn) (s : Bs) (p : Int × Int) (w : World) (e : Ending) (w' : World) : Prop :=
  ((hFault (absL L) s p).1 ≠ 0 → ∃ v, e = .returned v ∧ EV es w.heap.size w' v (hFault (absL L) s p) ∧ Below w.heap.size w w') ∧
  ((hFault (absL L) s p).1 = 0 → e = .returned .nilIface ∧ ∃ D' L', HeadAt w' (fun k => F k ∨ w.heap.size ≤ k) q mb D' L' ∧ absL L' = hAdd (absL L) s p ∧ Fr F w w')

theorem rd_pt (W : World) (u0 u1 : Value) : Rd (W.alloc (.cells #[u0, u1] 39)) (W.alloc (.cells #[u0, u1] 39)).heap.size 2 (some ⟨W.heap.size, 0, none⟩) 1 [u0, u1] := by
  refine ⟨rfl, fun _ => ⟨W.heap.size, 0, rfl, by simp, fun j u hu => ?_⟩⟩
  rw [Nat.zero_add, (Blk.new W 39 #[u0, u1]).cell j]
  simpa using hu
theorem hadd_done {F : Nat → Prop} {q mb N n c : Nat} {D : DataW Unit} {L : List HLn} {w1 W wa : World} {x : HLn} {A : Option Addr} {v' : Value} {t b : Int} (h1 : HeadAt w1 F q mb D L) (hx : x ∈ L) (hv : x.v = .slice A x.pts.length c) (hn : n = x.pts.length)
    (hf : Fr (fun _ => False) w1 W) (hgr : W.grownBy wa (ownZB (.slice A n c))) (hown : wa.ownsRow 0 39 2 v' (n + 1) (ptsC x.pts ++ [.int .i64 t, .int .u64 b])) (hat : v'.ownBlock = ownZB (.slice A n c) ∨ v'.ownBlock = some W.heap.size) (hN : N ≤ w1.heap.size) :
    HeadAt ((wa.setCell ⟨x.bk, 0, none⟩ v').setCell ⟨x.bk, 1, none⟩ (.int .i64 t)) (fun k => F k ∨ N ≤ k) q mb D (turnL L x.nm v' (x.pts ++ [(t, b)]) t) ∧ Fr F w1 ((wa.setCell ⟨x.bk, 0, none⟩ v').setCell ⟨x.bk, 1, none⟩ (.int .i64 t)) := by
  rw [hn, ← hv] at hgr hat
  rw [hn] at hown
  obtain ⟨x1, x2, _, _⟩ := h1.ln x hx
  have hfa : Fr (fun k => ownZB x.v = some k) w1 wa := (hf.mono (fun _ _ h => h.elim)).grown hgr (fun k hk => .inr hk)
  have xa : Blk wa x.bk 114 #[x.v, .int .i64 x.last] := hfa.blk x1 (fun e => x2.ne_blk x1 (by decide) e)
  have hz : Fr (fun k => k = x.bk) wa ((wa.setCell ⟨x.bk, 0, none⟩ v').setCell ⟨x.bk, 1, none⟩ (.int .i64 t)) := Fr.setCell (S := fun k => k = x.bk) (Fr.setCell (S := fun k => k = x.bk) (Fr.refl _ _) (p := ⟨x.bk, 0, none⟩) (.inr rfl) v') (p := ⟨x.bk, 1, none⟩) (.inr rfl) _
  refine h1.turn (S := fun k => ownZB x.v = some k) hx hfa (fun k hk => hk) (OwnZ.of_own (base := 0) ?_) (fun g hg => ?_) hN _ hz ((xa.set_ 0 v').set_ 1 (.int .i64 t)) (fun g hg e => ?_)
  · rw [List.length_append, List.length_singleton]
    have : ptsC (x.pts ++ [(t, b)]) = ptsC x.pts ++ [.int .i64 t, .int .u64 b] := by simp [ptsC]
    rw [this]; exact hown
  · have := ownZB_le hg
    rcases hat with h | h
    · exact .inl (h ▸ this)
    · rw [h] at this
      injection this with this
      exact .inr (by rw [← this]; exact hf.size)
  · have := ownZB_le hg
    exact own_ne_blk hown xa (by decide) (by rw [this, e])
theorem pt_one (t b : Int) : ∀ u ∈ [Value.int .i64 t, Value.int .u64 b], u.oneCell' = true := by
  intro u hu; simp at hu; rcases hu with rfl | rfl <;> rfl
set_option maxRecDepth 100000 in
set_option maxHeartbeats 4000000 in
theorem hadd_known {es : Nat → Addr} {B : Nat} {F : Nat → Prop} {q mb : Nat} {D : DataW Unit} {L : List HLn} (s : Bs) (p : Int × Int) (w : World) (hs : s.length ≤ 100000) (hS : SVL es B w) (hB0 : B ≤ w.heap.size) (hH : HeadAt w F q mb D L) (hL : L.length ≤ 100000) (hN : ∀ x ∈ L, x.pts.length ≤ 100000)
    (x : HLn) (hx : lnFind L s = some x) (h0 : (hFault (absL L) s p).1 = 0) :
    Calls Tryz.prog 25 #[.pointer (some ⟨q, 0, none⟩), .string (B8 s), .agg #[.int .i64 p.1, .int .u64 p.2]] w (HAPost es F q mb D L s p w) := by
  have hb1 : Below w.heap.size w (w.alloc (.cells #[.int .i64 p.1, .int .u64 p.2] 39)) := Below.alloc (Below.refl _ _) (Nat.le_refl _) _
  have Hck := Lib.hid (hcheck_any s p _ hs (hS.below hb1 hB0) (Nat.le_trans hB0 hb1.size) (hH.below hb1) hL)
  have HP := Lib.hid (Blk.new w 39 #[.int .i64 p.1, .int .u64 p.2])
  have HH := Lib.hid (fun W (hb : Below w.heap.size w W) => hH.below hb)
  have Hb1 := Lib.hid hb1
  have Hlk := Lib.hid (fun W (hb : Below w.heap.size w W) => ((hH.below hb).look s (by omega)).1 x hx)
  obtain ⟨hxm, hxn⟩ := lnFind_mem hx
  have Hxm := Lib.hid hxm
  have Hab := Lib.hid (fun v => show absL (turnL L x.nm v (x.pts ++ [p]) p.1) = hAdd (absL L) s p by
    rw [absL_turn hH.srt hxm v p, hxn]
    unfold hAdd
    rw [lnFind_abs, hx]; rfl)
  obtain ⟨_, g2, _⟩ := hH.ln x hxm
  obtain ⟨A, c, hv, hnc, hcm, _⟩ := g2.form
  have Hv := Lib.hid hv
  obtain ⟨n, hn⟩ : ∃ n, n = x.pts.length := ⟨_, rfl⟩
  have Hn := Lib.hid hn
  have hn1 : n ≤ 100000 := by rw [hn]; exact hN x hxm
  rw [← hn] at hv hnc
  have hq := hH.hd.lt
  have h0' := Lib.hid h0
  have hlt0 : ∀ g, ownZB (.slice A n c) = some g → g < w.heap.size := by rw [← hv]; exact g2.lt
  obtain ⟨i0, hi, hz0, hz1, hz2⟩ := info_parts infoPt
  have Hi := Lib.hid hi; have Hz0 := Lib.hid hz0; have Hz1 := Lib.hid hz1; have Hz2 := Lib.hid hz2
  clear hS hH hb1 hL hN hx g2 hv hn h0 hi hz0 hz1 hz2 hxm
  generalize hst : B8 s = st at Hck Hlk ⊢
  clear hst
  obtain ⟨t, b⟩ := p
  dsimp only at Hck HP Hb1 Hab ⊢
  go_enter Tryz.func25, Tryz.ntmps25
  go_wp2_with fail
  refine Hck.out.mono ?_
  rintro e w1 ⟨v, rfl, hev, hb⟩
  obtain rfl := hev.zero h0'.out
  have HB := Lib.hid (Below.call Hb1.out hb (by simp))
  have hk := HP.out.below hb (by simp)
  have z0 := hk.cell 0
  have z00 := hk.cell 1
  have h1 := HH.out _ HB.out
  have z1 : w1.cell? ⟨q, 0, none⟩ = some (.map (some mb)) := h1.hd.cell 0
  have z2 := Hlk.out _ HB.out
  obtain ⟨g1, g2, g3, g4⟩ := h1.ln x Hxm.out
  have z3 : w1.cell? ⟨x.bk, 0, none⟩ = some (.slice A n c) := by rw [Hn.out, ← Hv.out]; exact g1.cell 0
  have z4 := g1.frozen 0; have z5 := g1.frozen 1
  have H4 := Lib.hid (fun W (hf : Fr (fun _ => False) w1 W) => show OwnZ W 39 2 (.slice A n c) n (ptsC x.pts) from by
    have h := g2.fr hf (fun _ _ h => h)
    rw [Hn.out, ← Hv.out]; exact h)
  have hbx : w.heap.size < w1.heap.size := hk.lt
  have hxb : x.bk < w1.heap.size := g1.lt
  have hk63 : n + 1 ≤ maxLen := by unfold maxLen; omega
  have hk8 : (n + 1) * 16 ≤ 140737488355328 := by omega
  have hne : x.bk ≠ w.heap.size := Blk.ne_ g1 hk (by decide)
  have Hlt0 := Lib.hid hlt0
  have HF := Lib.hid (fun W wa (hf : Fr (fun _ => False) w1 W) (hgr : W.grownBy wa (ownZB (.slice A n c))) => show wa.cell? ⟨w.heap.size, 0, none⟩ = some (.int .i64 t) ∧ wa.cell? ⟨w.heap.size, 1, none⟩ = some (.int .u64 b) ∧ wa.cell? ⟨x.bk, 0, none⟩ = some (.slice A n c) ∧ wa.cell? ⟨x.bk, 1, none⟩ = some (.int .i64 x.last) ∧ wa.frozen? ⟨x.bk, 0, none⟩ = false ∧ wa.frozen? ⟨x.bk, 1, none⟩ = false ∧ x.bk < wa.heap.size from by
    have e1 : ∀ k, k < w1.heap.size → some k ≠ ownZB (.slice A n c) → wa.heap[k]? = w1.heap[k]? := fun k hk1 hk2 => (hgr.block k (Nat.lt_of_lt_of_le hk1 hf.size) hk2).trans (hf.block k hk1 (fun h => h))
    have n1 : some w.heap.size ≠ ownZB (.slice A n c) := fun e => by have := hlt0 _ e.symm; omega
    have n2 : some x.bk ≠ ownZB (.slice A n c) := fun e => (H4.out w1 (Fr.refl _ _)).ne_blk g1 (by decide) e.symm
    exact ⟨(World.cell?_of_block (e1 _ hbx n1)).trans z0, (World.cell?_of_block (e1 _ hbx n1)).trans z00, (World.cell?_of_block (e1 _ hxb n2)).trans z3, (World.cell?_of_block (e1 _ hxb n2)).trans (g1.cell 1), (World.frozen?_of_block (e1 _ hxb n2)).trans z4, (World.frozen?_of_block (e1 _ hxb n2)).trans z5, Nat.lt_of_lt_of_le hxb (Nat.le_trans hf.size hgr.size)⟩)
  clear hev hb hk h1 g1 g2 g3 g4 hlt0
  go_wp2
  go_region_law ((refine step_append_rz (by rfl) (.tmp 41) (.tmp 43) _ (by rfl) 39 i0 (.agg #[.int .i64 0, .int .u64 0]) 2 16 Tryz.underlying54 Hi.out Hz0.out Hz1.out Hz2.out (by rfl) (by decide) (.slice A n c) n (ptsC x.pts) (by rfl) (H4.out _ (by repeat (first | exact Fr.refl _ _ | refine Fr.drew ?_ | refine Fr.alloc ?_ _))) _ (some ⟨w1.heap.size, 0, none⟩) 1 1 [.int .i64 t, .int .u64 b] (by rfl) (rd_pt w1 (.int .i64 t) (.int .u64 b)) (pt_one _ _) (by decide) hk63 hk8 ?_; intro v' wa hown' hgr hat hcap; obtain ⟨A2, c2, rfl, _, _, _⟩ := own_form hown'; have HE := Lib.hid (hadd_done (HH.out _ HB.out) Hxm.out Hv.out Hn.out (by repeat (first | exact Fr.refl _ _ | refine Fr.drew ?_ | refine Fr.alloc ?_ _)) hgr hown' hat HB.out.size); clear hown' hat hcap; obtain ⟨y1, y2, y3, y4, y5, y6, y7⟩ := HF.out _ wa (by repeat (first | exact Fr.refl _ _ | refine Fr.drew ?_ | refine Fr.alloc ?_ _)) hgr))
  all_goals
    go_wp2
    go_ret
    refine ⟨fun h => absurd h0'.out h, fun _ => ⟨rfl, D, _, HE.out.1, ?_, Fr.trans ((Fr.ofBelow HB.out).mono (fun _ _ h => h.elim)) HE.out.2 (fun _ _ h => h)⟩⟩
    exact Hab.out _
end Go.Proofs.YthgefobcohlegaaGreatDoor

namespace Go.Proofs.YthgefobcohlegaaGreatDoor
open Go.RowKit Go.Maps
set_option linter.unusedVariables false

set_option maxRecDepth 100000 in
set_option maxHeartbeats 4000000 in
theorem hadd_new {es : Nat → Addr} {B : Nat} {F : Nat → Prop} {q mb : Nat} {D : DataW Unit} {L : List HLn} (s : Bs) (p : Int × Int) (w : World) (hs : s.length ≤ 100000) (hS : SVL es B w) (hB0 : B ≤ w.heap.size) (hH : HeadAt w F q mb D L) (hL : L.length ≤ 100000) (hN : ∀ x ∈ L, x.pts.length ≤ 100000)
    (hx : lnFind L s = none) (h0 : (hFault (absL L) s p).1 = 0) :
    Calls Tryz.prog 25 #[.pointer (some ⟨q, 0, none⟩), .string (B8 s), .agg #[.int .i64 p.1, .int .u64 p.2]] w (HAPost es F q mb D L s p w) := by
  have hb1 : Below w.heap.size w (w.alloc (.cells #[.int .i64 p.1, .int .u64 p.2] 39)) := Below.alloc (Below.refl _ _) (Nat.le_refl _) _
  have Hck := Lib.hid (hcheck_any s p _ hs (hS.below hb1 hB0) (Nat.le_trans hB0 hb1.size) (hH.below hb1) hL)
  have HP := Lib.hid (Blk.new w 39 #[.int .i64 p.1, .int .u64 p.2])
  have HH := Lib.hid (fun W (hb : Below w.heap.size w W) => hH.below hb)
  have Hb1 := Lib.hid hb1
  have Hlk := Lib.hid (fun W (hb : Below w.heap.size w W) => ((hH.below hb).look s (by omega)).2 hx)
  have Hx := Lib.hid hx
  have hsl := Lib.hid (keyStr (s := s) (by omega))
  have Hab := Lib.hid (fun bk v => show absL (turnL (insL L ⟨s, bk, .slice none 0 0, [], 0⟩) s v ([] ++ [p]) p.1) = hAdd (absL L) s p by
    have hsi : hSrt (absL (insL L ⟨s, bk, .slice none 0 0, [], 0⟩)) := by
      rw [absL_ins]
      refine hIns_srt hH.srt (fun y hy => ?_)
      obtain ⟨z, hz', rfl⟩ := List.mem_map.1 hy
      exact lnFind_none hx z hz'
    have e := absL_turn hsi (x := ⟨s, bk, .slice none 0 0, [], 0⟩) (insL_mem.2 (.inl rfl)) v p
    refine e.trans ?_
    rw [absL_ins]
    unfold hAdd
    rw [lnFind_abs, hx]
    exact hPut_ins (by rw [lnFind_abs, hx]; rfl) p 0)
  have hq := hH.hd.lt
  have hmb0 := hH.mp.lt
  have h0' := Lib.hid h0
  obtain ⟨i0, hi, hz0, hz1, hz2⟩ := info_parts infoPt
  have Hi := Lib.hid hi; have Hz0 := Lib.hid hz0; have Hz1 := Lib.hid hz1; have Hz2 := Lib.hid hz2
  have hLn : L.length < maxLen := by unfold maxLen; omega
  clear hS hH hb1 hL hN hx h0 hi hz0 hz1 hz2
  generalize hst : B8 s = st at Hck Hlk hsl ⊢
  clear hst
  obtain ⟨t, b⟩ := p
  dsimp only at Hck HP Hb1 Hab ⊢
  go_enter Tryz.func25, Tryz.ntmps25
  go_wp2_with fail
  refine Hck.out.mono ?_
  rintro e w1 ⟨v, rfl, hev, hb⟩
  obtain rfl := hev.zero h0'.out
  have HB := Lib.hid (Below.call Hb1.out hb (by simp))
  have hk := HP.out.below hb (by simp)
  have z0 := hk.cell 0
  have z00 := hk.cell 1
  have h1 := HH.out _ HB.out
  have z1 : w1.cell? ⟨q, 0, none⟩ = some (.map (some mb)) := h1.hd.cell 0
  have z2 := Hlk.out _ HB.out
  have HN := Lib.hid (Blk.new w1 114 #[.slice none 0 0, .int .i64 0])
  have HMp := Lib.hid (h1.mp.alloc (.cells #[.slice none 0 0, .int .i64 0] 114))
  have hbx : w.heap.size < w1.heap.size := hk.lt
  have HK := Lib.hid hk
  have hmbl : mb < w1.heap.size := h1.mp.lt
  have HMb := Lib.hid h1.mp
  have hqw : q < w1.heap.size := h1.hd.lt
  have hzal : w1.heap.size < (w1.alloc (.cells #[.slice none 0 0, .int .i64 0] 114)).heap.size := by simp
  clear hev hb hk h1
  go_wp2_with (at_mapUpdate; refine wpList_mapUpdate_own _ rfl _ _ _ 108 rfl 9 111 strKeyed Tryz.underlying108 ptrR mb L.length D rfl HMp.out hLn _ _ _ rfl rfl hsl.out (.lit (.int .i64 (w1.heap.size : Int))) [] (ptrR_mk _) ?_; intro w3 hown3 hgrow3; have HI := Lib.hid (HeadAt.ins (HH.out _ HB.out) Hx.out ((Fr.refl _ w1).alloc _) HN.out (Nat.le_refl _) hown3 hgrow3 HB.out.size); have HG3 := Lib.hid hgrow3; clear hown3 hgrow3)
  have hk3 : Blk w3 w.heap.size 39 #[.int .i64 t, .int .u64 b] := (HK.out.alloc _).grown HG3.out (by intro e; injection e with e; omega)
  have g1 := (HI.out.1.ln _ (insL_mem.2 (.inl rfl))).1
  have y0 := hk3.cell 0
  have y00 := hk3.cell 1
  have z3 : w3.cell? ⟨w1.heap.size, 0, none⟩ = some (.slice none 0 0) := g1.cell 0
  have z30 : w3.cell? ⟨w1.heap.size, 1, none⟩ = some (.int .i64 0) := g1.cell 1
  have z4 : w3.frozen? ⟨w1.heap.size, 0, none⟩ = false := g1.frozen 0
  have z5 : w3.frozen? ⟨w1.heap.size, 1, none⟩ = false := g1.frozen 1
  have hw3 : w1.heap.size < w3.heap.size := g1.lt
  have hN3 := Lib.hid (show w.heap.size ≤ w3.heap.size by omega)
  have HF := Lib.hid (fun W wa (hf : Fr (fun _ => False) w3 W) (hgr : W.grownBy wa (ownZB (.slice none 0 0))) => show wa.cell? ⟨w.heap.size, 0, none⟩ = some (.int .i64 t) ∧ wa.cell? ⟨w.heap.size, 1, none⟩ = some (.int .u64 b) ∧ wa.cell? ⟨w1.heap.size, 0, none⟩ = some (.slice none 0 0) ∧ wa.cell? ⟨w1.heap.size, 1, none⟩ = some (.int .i64 0) ∧ wa.frozen? ⟨w1.heap.size, 0, none⟩ = false ∧ wa.frozen? ⟨w1.heap.size, 1, none⟩ = false ∧ w1.heap.size < wa.heap.size from by
    have e1 : ∀ k, k < w3.heap.size → wa.heap[k]? = w3.heap[k]? := fun k hk1 => (hgr.block k (Nat.lt_of_lt_of_le hk1 hf.size) (by simp [ownZB, capOf])).trans (hf.block k hk1 (fun h => h))
    exact ⟨(World.cell?_of_block (e1 _ (by show w.heap.size < _; omega))).trans y0, (World.cell?_of_block (e1 _ (by show w.heap.size < _; omega))).trans y00, (World.cell?_of_block (e1 _ hw3)).trans z3, (World.cell?_of_block (e1 _ hw3)).trans z30, (World.frozen?_of_block (e1 _ hw3)).trans z4, (World.frozen?_of_block (e1 _ hw3)).trans z5, Nat.lt_of_lt_of_le hw3 (Nat.le_trans hf.size hgr.size)⟩)
  have hk63 : 0 + 1 ≤ maxLen := by unfold maxLen; omega
  have hk8 : (0 + 1) * 16 ≤ 140737488355328 := by omega
  have hz1 : w.heap.size < w3.heap.size := by omega
  have Hz := Lib.hid (fun W => show OwnZ W 39 2 (.slice none 0 0) 0 (ptsC []) from .inl ⟨rfl, rfl, none, rfl⟩)
  have hne : w1.heap.size ≠ w.heap.size := by omega
  clear hk3 g1 hq hmb0 hzal hmbl z0 z00 z1
  go_wp2
  go_region_law ((refine step_append_rz (by rfl) (.tmp 41) (.tmp 43) _ (by rfl) 39 i0 (.agg #[.int .i64 0, .int .u64 0]) 2 16 Tryz.underlying54 Hi.out Hz0.out Hz1.out Hz2.out (by rfl) (by decide) (.slice none 0 0) 0 (ptsC []) (by rfl) (Hz.out _) _ (some ⟨w3.heap.size, 0, none⟩) 1 1 [.int .i64 t, .int .u64 b] (by rfl) (rd_pt w3 (.int .i64 t) (.int .u64 b)) (pt_one _ _) (by decide) hk63 hk8 ?_; intro v' wa hown' hgr hat hcap; obtain ⟨A2, c2, rfl, _, _, _⟩ := own_form hown'; have HE := Lib.hid (hadd_done (x := ⟨s, w1.heap.size, .slice none 0 0, [], 0⟩) HI.out.1 (insL_mem.2 (.inl rfl)) rfl rfl (by repeat (first | exact Fr.refl _ _ | refine Fr.drew ?_ | refine Fr.alloc ?_ _)) hgr hown' hat hN3.out); obtain ⟨y1, y2, y3, y4, y5, y6, y7⟩ := HF.out _ wa (by repeat (first | exact Fr.refl _ _ | refine Fr.drew ?_ | refine Fr.alloc ?_ _)) hgr; clear hown' hat hcap hgr))
  all_goals
    go_wp2
    go_ret
    refine ⟨fun h => absurd h0'.out h, fun _ => ⟨rfl, _, _, HE.out.1.mono (fun k h => h.elim (fun h => h) .inr), Hab.out _ _, ?_⟩⟩
    exact Fr.trans (Fr.trans ((Fr.ofBelow HB.out).mono (fun _ _ h => h.elim)) HI.out.2 (fun _ _ h => h)) HE.out.2 (fun k hk h => h.elim (fun h => h) (fun h => absurd h (by omega)))
set_option maxRecDepth 100000 in
theorem hadd_bad {es : Nat → Addr} {B : Nat} {F : Nat → Prop} {q mb : Nat} {D : DataW Unit} {L : List HLn} (s : Bs) (p : Int × Int) (w : World) (hs : s.length ≤ 100000) (hS : SVL es B w) (hB0 : B ≤ w.heap.size) (hH : HeadAt w F q mb D L) (hL : L.length ≤ 100000)
    (h0 : (hFault (absL L) s p).1 ≠ 0) :
    Calls Tryz.prog 25 #[.pointer (some ⟨q, 0, none⟩), .string (B8 s), .agg #[.int .i64 p.1, .int .u64 p.2]] w (HAPost es F q mb D L s p w) := by
  have hb1 : Below w.heap.size w (w.alloc (.cells #[.int .i64 p.1, .int .u64 p.2] 39)) := Below.alloc (Below.refl _ _) (Nat.le_refl _) _
  have Hck := Lib.hid (hcheck_any s p _ hs (hS.below hb1 hB0) (Nat.le_trans hB0 hb1.size) (hH.below hb1) hL)
  have Hb1 := Lib.hid hb1
  have h0' := Lib.hid h0
  clear hS hH hb1 hL h0
  generalize B8 s = st at Hck ⊢
  obtain ⟨t, b⟩ := p
  dsimp only at Hck Hb1 ⊢
  go_enter Tryz.func25, Tryz.ntmps25
  go_wp2_with fail
  refine Hck.out.mono ?_
  rintro e w1 ⟨v, rfl, hev, hb⟩
  obtain ⟨ty, pv, rfl⟩ := hev.pos h0'.out
  have HE := Lib.hid hev
  have HB := Lib.hid (Below.call Hb1.out hb (by simp))
  clear hev hb
  go_wp2
  go_ret
  exact ⟨fun _ => ⟨_, rfl, HE.out.base (by simp), HB.out⟩, fun h => absurd h h0'.out⟩
theorem hadd_any {es : Nat → Addr} {B : Nat} {F : Nat → Prop} {q mb : Nat} {D : DataW Unit} {L : List HLn} (s : Bs) (p : Int × Int) (w : World) (hs : s.length ≤ 100000) (hS : SVL es B w) (hB0 : B ≤ w.heap.size) (hH : HeadAt w F q mb D L) (hL : L.length ≤ 100000) (hN : ∀ x ∈ L, x.pts.length ≤ 100000) :
    Calls Tryz.prog 25 #[.pointer (some ⟨q, 0, none⟩), .string (B8 s), .agg #[.int .i64 p.1, .int .u64 p.2]] w (HAPost es F q mb D L s p w) := by
  by_cases h0 : (hFault (absL L) s p).1 = 0
  · cases hx : lnFind L s with
    | some x => exact hadd_known s p w hs hS hB0 hH hL hN x hx h0
    | none => exact hadd_new s p w hs hS hB0 hH hL hN hx h0
  · exact hadd_bad s p w hs hS hB0 hH hL h0
end Go.Proofs.YthgefobcohlegaaGreatDoor
