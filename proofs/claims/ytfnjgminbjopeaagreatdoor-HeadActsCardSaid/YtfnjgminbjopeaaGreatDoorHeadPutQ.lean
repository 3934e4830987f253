/- A head's lines after an append, and after a new line. -/
import Derived.Test.YtfnjgminbjopeaaGreatDoorHeadQ
namespace Go.Proofs.YtfnjgminbjopeaaGreatDoor
open Go.RowKit Go.Maps
set_option linter.unusedVariables false

theorem srt_inj {L : List HLn} (h : hSrt (absL L)) {x y : HLn} (hx : x ∈ L) (hy : y ∈ L) (e : x.nm = y.nm) : x = y := by
  induction L with
  | nil => cases hx
  | cons a L ih =>
    unfold hSrt absL at h ih
    rw [List.map_cons, List.pairwise_cons] at h
    have h1 : ∀ z ∈ L, a.nm < z.nm := fun z hz => h.1 _ (List.mem_map.2 ⟨z, hz, rfl⟩)
    rcases List.mem_cons.1 hx with rfl | hx'
    · rcases List.mem_cons.1 hy with rfl | hy'
      · rfl
      · have := h1 y hy'; rw [e] at this; exact absurd this (lt_irrefl_bs _)
    · rcases List.mem_cons.1 hy with rfl | hy'
      · have := h1 x hx'; rw [e] at this; exact absurd this (lt_irrefl_bs _)
      · exact ih h.2 hx' hy'
/-- One line turned. -/
def turnL (L : List HLn) (s : Bs) (v : Value) (pts : List (Int × Int)) (last : Int) : List HLn := L.map fun y => if y.nm == s then ⟨y.nm, y.bk, v, pts, last⟩ else y
theorem turnL_len (L : List HLn) (s : Bs) (v : Value) (pts : List (Int × Int)) (last : Int) : (turnL L s v pts last).length = L.length := by unfold turnL; rw [List.length_map]
theorem turnL_mem {L : List HLn} {s : Bs} {v : Value} {pts : List (Int × Int)} {last : Int} {z : HLn} (h : z ∈ turnL L s v pts last) : (∃ y ∈ L, y.nm = s ∧ z = ⟨y.nm, y.bk, v, pts, last⟩) ∨ (z ∈ L ∧ z.nm ≠ s) := by
  unfold turnL at h
  obtain ⟨y, hy, rfl⟩ := List.mem_map.1 h
  by_cases e : y.nm = s
  · exact .inl ⟨y, hy, e, by simp [e]⟩
  · rw [if_neg (by simpa using e)]
    exact .inr ⟨hy, e⟩
theorem DOf.turn {D : DataW Unit} {L : List HLn} (h : DOf D L) (s : Bs) (v : Value) (pts : List (Int × Int)) (last : Int) : DOf D (turnL L s v pts last) := by
  refine ⟨by rw [turnL_len]; exact h.1, fun u => ?_, fun z hz w => ?_⟩
  · rw [h.2.1 u]
    unfold turnL
    rw [List.any_map]
    congr 1
    funext y
    simp only [Function.comp]
    split <;> rfl
  · rcases turnL_mem hz with ⟨y, hy, _, rfl⟩ | ⟨hz, _⟩
    · exact h.2.2 y hy w
    · exact h.2.2 z hz w
theorem srt_turn {L : List HLn} (h : hSrt (absL L)) (s : Bs) (v : Value) (pts : List (Int × Int)) (last : Int) : hSrt (absL (turnL L s v pts last)) := by
  refine srt_names ?_ h
  unfold absL turnL
  rw [List.map_map, List.map_map, List.map_map]
  apply List.map_congr_left
  intro y _
  simp only [Function.comp]
  split <;> rfl
/-- A line's slice has been replaced, its last tick too. -/
theorem HeadAt.turn {F S : Nat → Prop} {q mb N : Nat} {D : DataW Unit} {L : List HLn} {w wa : World} {x : HLn} {v : Value} {pts : List (Int × Int)} {last : Int}
    (h : HeadAt w F q mb D L) (hx : x ∈ L) (hf : Fr S w wa) (hS : ∀ k, S k → ownZB x.v = some k) (ho : OwnZ wa 32 2 v pts.length (ptsC pts)) (hat : ∀ g, ownZB v = some g → ownZB x.v = some g ∨ w.heap.size ≤ g) (hN : N ≤ w.heap.size)
    (wz : World) (hz : Fr (fun k => k = x.bk) wa wz) (hzb : Blk wz x.bk 69 #[v, .int .i64 last]) (hzo : ∀ g, ownZB v = some g → g ≠ x.bk) :
    HeadAt wz (fun k => F k ∨ N ≤ k) q mb D (turnL L x.nm v pts last) ∧ Fr F w wz := by
  obtain ⟨x1, x2, x3, x4⟩ := h.ln x hx
  have hfz : Fr F w wz := by
    refine Fr.trans (hf.mono fun k _ hk => ?_) hz (fun k _ hk => ?_)
    · exact x4 k (hS k hk)
    · rw [hk]; exact x3
  have far : Fr (fun k => k = x.bk ∨ ownZB x.v = some k) w wz := Fr.trans (hf.mono fun k _ hk => .inr (hS k hk)) hz (fun k _ hk => .inl hk)
  have nq : ¬ (q = x.bk ∨ ownZB x.v = some q) := by
    rintro (e | e)
    · exact Blk.ne_ h.hd x1 (by decide) e
    · exact x2.ne_blk h.hd (by decide) e
  have nm : ¬ (mb = x.bk ∨ ownZB x.v = some mb) := by
    obtain ⟨es, clock, hm, _⟩ := h.mp
    rintro (e | e)
    · unfold Blk at x1
      rw [← e, hm] at x1
      cases x1
    · rcases x2 with ⟨_, _, A, e2⟩ | ⟨hc, x2⟩
      · rw [e2] at e; simp [ownZB, capOf] at e
      · have e3 := ownZB_le e
        rcases x2.2 with ⟨e4, _⟩ | ⟨g, cap, cur, e4, _, hg, _⟩
        · rw [e4] at e3; cases e3
        · rw [e4] at e3
          injection e3 with e3
          have e3 : g = mb := e3
          rw [e3, hm] at hg
          cases hg
  refine ⟨⟨far.blk h.hd nq, ?_, h.dof.turn _ _ _ _, fun z hz' => ?_, ?_, .inl h.fh, .inl h.fm, srt_turn h.srt _ _ _ _⟩, hfz⟩
  · rw [turnL_len]
    exact ownsMap_blk h.mp (far.block _ h.mp.lt nm)
  · rcases turnL_mem hz' with ⟨y, hy, e, rfl⟩ | ⟨hzl, hne⟩
    · obtain rfl := srt_inj h.srt hy hx e
      refine ⟨hzb, ho.fr hz (fun k hk e => hzo k hk e), .inl x3, fun g hg => ?_⟩
      rcases hat g hg with h1 | h1
      · exact .inl (x4 g h1)
      · exact .inr (Nat.le_trans hN h1)
    · have ha : Apart z x := by
        have hap := h.ap
        have : z ≠ x := fun e => hne (by rw [e])
        rcases List.pairwise_iff_getElem.1 hap with hp
        obtain ⟨i, hi, rfl⟩ := List.getElem_of_mem hzl
        obtain ⟨j, hj, rfl⟩ := List.getElem_of_mem hx
        rcases Nat.lt_trichotomy i j with hh | hh | hh
        · exact hp i j hi hj hh
        · subst hh; exact absurd rfl this
        · exact (hp j i hj hi hh).symm
      obtain ⟨z1, z2, z3, z4⟩ := h.ln z hzl
      refine ⟨far.blk z1 ?_, z2.fr far (fun k hk => ?_), .inl z3, fun g hg => .inl (z4 g hg)⟩
      · rintro (e | e)
        · exact ha.1 e
        · exact x2.ne_blk z1 (by decide) e
      · rintro (e | e)
        · exact z2.ne_blk x1 (by decide) (by rw [← e]; exact hk)
        · rcases ha.2 with h2 | h2
          · rw [h2] at hk; cases hk
          · exact h2 (hk.trans e.symm)
  · unfold turnL
    rw [List.pairwise_map]
    refine List.Pairwise.imp_of_mem (fun {a b} ha hb hab => ?_) h.ap
    have lt : ∀ z ∈ L, ∀ g, ownZB z.v = some g → g < w.heap.size := fun z hz' g hg => (h.ln z hz').2.1.lt g hg
    have key : ∀ z ∈ L, Apart x z → z.nm ≠ x.nm → ∀ bk, bk = x.bk → Apart ⟨x.nm, bk, v, pts, last⟩ z := fun z hz' hxz hne bk hbk => by
      subst hbk
      refine ⟨hxz.1, ?_⟩
      show ownZB v = none ∨ ownZB v ≠ ownZB z.v
      cases hv : ownZB v with
      | none => exact .inl rfl
      | some g =>
        right
        intro e
        rcases hat g hv with h1 | h1
        · rcases hxz.2 with h2 | h2
          · rw [h2] at h1; cases h1
          · exact h2 (h1.trans e)
        · have := lt z hz' g e.symm; omega
    by_cases ea : a.nm = x.nm
    · obtain rfl := srt_inj h.srt ha hx ea
      by_cases eb : b.nm = a.nm
      · obtain rfl := srt_inj h.srt hb hx eb
        exact absurd rfl hab.1
      · rw [if_pos (by simp), if_neg (by simpa using eb)]
        exact key b hb hab eb _ rfl
    · by_cases eb : b.nm = x.nm
      · obtain rfl := srt_inj h.srt hb hx eb
        rw [if_neg (by simpa using ea), if_pos (by simp)]
        exact (key a ha hab.symm ea _ rfl).symm
      · rw [if_neg (by simpa using ea), if_neg (by simpa using eb)]
        exact hab
theorem absL_turn {L : List HLn} (hs : hSrt (absL L)) {x : HLn} (hx : x ∈ L) (v : Value) (p : Int × Int) : absL (turnL L x.nm v (x.pts ++ [p]) p.1) = hPut (absL L) x.nm p := by
  unfold absL turnL hPut
  rw [List.map_map, List.map_map]
  apply List.map_congr_left
  intro y hy
  simp only [Function.comp]
  by_cases e : y.nm = x.nm
  · obtain rfl := srt_inj hs hy hx e
    simp
  · rw [if_neg (by simpa using e), if_neg (by simpa using e)]

/-- A new line at its place. -/
def insL (L : List HLn) (x : HLn) : List HLn := L.takeWhile (fun y => decide (y.nm < x.nm)) ++ x :: L.dropWhile (fun y => decide (y.nm < x.nm))
theorem absL_ins (L : List HLn) (x : HLn) : absL (insL L x) = hIns (absL L) (x.nm, x.pts, x.last) := by
  unfold absL insL hIns
  rw [List.map_append, List.map_cons, List.takeWhile_map, List.dropWhile_map]
  rfl
theorem insL_mem {L : List HLn} {x y : HLn} : y ∈ insL L x ↔ y = x ∨ y ∈ L := by
  unfold insL
  rw [List.mem_append, List.mem_cons]
  have e : y ∈ L ↔ y ∈ L.takeWhile (fun y => decide (y.nm < x.nm)) ∨ y ∈ L.dropWhile (fun y => decide (y.nm < x.nm)) := by
    rw [← List.mem_append, List.takeWhile_append_dropWhile]
  rw [e]
  constructor
  · rintro (h | h | h)
    · exact .inr (.inl h)
    · exact .inl h
    · exact .inr (.inr h)
  · rintro (h | h | h)
    · exact .inr (.inl h)
    · exact .inl h
    · exact .inr (.inr h)
theorem insL_perm (L : List HLn) (x : HLn) : (insL L x).Perm (x :: L) := by
  unfold insL
  refine List.perm_middle.trans (List.Perm.cons _ ?_)
  rw [List.takeWhile_append_dropWhile]
theorem insL_len (L : List HLn) (x : HLn) : (insL L x).length = L.length + 1 := (insL_perm L x).length_eq
theorem lnFind_none {L : List HLn} {s : Bs} (h : lnFind L s = none) : ∀ x ∈ L, x.nm ≠ s := by
  unfold lnFind at h
  rw [List.find?_eq_none] at h
  intro x hx e
  exact h x hx (by simp [e])
theorem DOf.ins {D : DataW Unit} {L : List HLn} {x : HLn} (h : DOf D L) (ht : Tidy D) (hn : lnFind L x.nm = none) : DOf (D.put (.string x.nm) (.lit (.int .i64 (x.bk : Int)))) (insL L x) := by
  have hh : Maps.has D (.string x.nm) = false := by rw [h.2.1 x.nm, lnFind_any, hn]; rfl
  refine ⟨?_, fun u => ?_, fun z hz w => ?_⟩
  · rw [Maps.size_put ht, hh, insL_len, h.1]; rfl
  · have e : (insL L x).any (fun y => y.nm == u) = ((x.nm == u) || L.any fun y => y.nm == u) := by
      rw [(insL_perm L x).any_eq, List.any_cons]
    rw [e]
    by_cases hu : x.nm = u
    · subst hu
      rw [Maps.has_put_same ht.isMap (show WideAt.IsKeyLit (.string x.nm) from trivial)]
      simp
    · rw [Maps.has_put_other (fun e => hu (by injection e with e; exact e.symm)), h.2.1 u]
      simp [hu]
  · rcases insL_mem.1 hz with rfl | hz
    · exact Maps.atKey_put_same ht.isMap (show WideAt.IsKeyLit (.string z.nm) from trivial) _ _
    · have := lnFind_none hn z hz
      rw [Maps.atKey_put_other (fun e => this (by injection e))]
      exact h.2.2 z hz w
theorem HeadAt.ins {F : Nat → Prop} {q mb N bk : Nat} {D : DataW Unit} {L : List HLn} {w W w3 : World} {s : Bs} (h : HeadAt w F q mb D L) (hn : lnFind L s = none) (hf : Fr (fun _ => False) w W) (hblk : Blk W bk 69 #[.slice none 0 0, .int .i64 0]) (hbk : w.heap.size ≤ bk)
    (hm : w3.ownsMap Tryz.prog 9 ptrR mb (L.length + 1) (D.put (.string s) (.lit (.int .i64 (bk : Int))))) (hg : W.grownBy w3 (some mb)) (hN : N ≤ w.heap.size) :
    HeadAt w3 (fun k => F k ∨ N ≤ k) q mb (D.put (.string s) (.lit (.int .i64 (bk : Int)))) (insL L ⟨s, bk, .slice none 0 0, [], 0⟩) ∧ Fr F w w3 := by
  have hfw : Fr (fun k => k = mb) w w3 := (hf.mono (fun _ _ h => h.elim)).grown hg (fun k hk => .inr (by injection hk with hk; exact hk.symm))
  have nm : ∀ {g : Nat} {t : TypeId} {cs : Array Value} {W : World}, (∃ es clock, W.heap[mb]? = some (.map es clock)) → Blk W g t cs → g ≠ mb := by
    rintro g t cs W ⟨es, clock, hm⟩ hb rfl
    unfold Blk at hb
    rw [hm] at hb
    cases hb
  have hmap : ∃ es clock, w.heap[mb]? = some (.map es clock) := by obtain ⟨es, clock, h1, _⟩ := h.mp; exact ⟨es, clock, h1⟩
  have hmapW : ∃ es clock, W.heap[mb]? = some (.map es clock) := by obtain ⟨es, clock, h1⟩ := hmap; exact ⟨es, clock, (hf.block _ h.mp.lt (fun h => h)).trans h1⟩
  have hz : ∀ z ∈ L, LineAt w3 (fun k => F k ∨ N ≤ k) z := fun z hz => by
    obtain ⟨z1, z2, z3, z4⟩ := h.ln z hz
    refine ⟨hfw.blk z1 (nm hmap z1), z2.fr hfw (fun k hk e => ?_), .inl z3, fun g hg => .inl (z4 g hg)⟩
    obtain ⟨es, clock, hme⟩ := hmap
    rcases z2 with ⟨_, _, A, e2⟩ | ⟨hc, z2⟩
    · rw [e2] at hk; simp [ownZB, capOf] at hk
    · have e3 := ownZB_le hk
      rcases z2.2 with ⟨e4, _⟩ | ⟨g, cap, cur, e4, _, hgg, _⟩
      · rw [e4] at e3; cases e3
      · rw [e4] at e3
        injection e3 with e3
        have e3 : g = k := e3
        rw [e3, e, hme] at hgg
        cases hgg
  refine ⟨⟨hfw.blk h.hd (nm hmap h.hd), by rw [insL_len]; exact hm, DOf.ins (x := ⟨s, bk, .slice none 0 0, [], 0⟩) h.dof (h.mp.tidy strKeyed) hn, fun z hz' => ?_, ?_, .inl h.fh, .inl h.fm, ?_⟩, hfw.mono (fun k _ hk => by rw [hk]; exact h.fm)⟩
  · rcases insL_mem.1 hz' with rfl | hz'
    · refine ⟨(hg.block bk hblk.lt (fun e => nm hmapW hblk (by injection e))).trans hblk, .inl ⟨rfl, rfl, none, rfl⟩, .inr (Nat.le_trans hN hbk), fun g hg => ?_⟩
      simp [ownZB, capOf] at hg
    · exact hz z hz'
  · refine (List.Perm.pairwise_iff (fun h => Apart.symm h) (insL_perm L _)).2 (List.pairwise_cons.2 ⟨fun z hz' => ⟨fun e => ?_, .inl rfl⟩, h.ap⟩)
    have := (h.ln z hz').1.lt
    have e : bk = z.bk := e
    omega
  · rw [absL_ins]
    refine hIns_srt h.srt (fun y hy => ?_)
    obtain ⟨z, hz', rfl⟩ := List.mem_map.1 hy
    exact lnFind_none hn z hz'
theorem hPut_ins {A : List HA} {s : Bs} (hn : hFind A s = none) (p : Int × Int) (t : Int) : hPut (hIns A (s, [], t)) s p = hIns A (s, [p], p.1) := by
  have h := hFind_none hn
  have e : ∀ B : List HA, (∀ y ∈ B, y ∈ A) → hPut B s p = B := fun B hB => by
    unfold hPut
    conv => rhs; rw [← List.map_id B]
    apply List.map_congr_left
    intro y hy
    rw [if_neg (by simpa using h y (hB y hy))]; rfl
  unfold hIns
  dsimp only
  have e1 := e (A.takeWhile fun y => decide (y.1 < s)) (fun y hy => (List.takeWhile_sublist _).subset hy)
  have e2 := e (A.dropWhile fun y => decide (y.1 < s)) (fun y hy => (List.dropWhile_sublist _).subset hy)
  unfold hPut at e1 e2 ⊢
  rw [List.map_append, List.map_cons, e1, e2]
  simp
end Go.Proofs.YtfnjgminbjopeaaGreatDoor
