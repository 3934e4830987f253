/- head.Cut: what holds between two rounds. -/
import Derived.Test.YtfnjgminbjopeaaGreatDoorHeadCutQ
namespace Go.Proofs.YtfnjgminbjopeaaGreatDoor
open Go.RowKit Go.Maps
set_option linter.unusedVariables false

theorem gone_len (b : Int) (l : List (Int × Int)) : (hGone b l).length ≤ l.length := by
  have := congrArg List.length (List.takeWhile_append_dropWhile (p := fun p : Int × Int => decide (p.1 < b)) (l := l))
  rw [List.length_append] at this
  unfold hGone; omega
theorem gone_take (b : Int) (l : List (Int × Int)) : hGone b l = l.take (hGone b l).length ∧ hLeft b l = l.drop (hGone b l).length := by
  have e := List.takeWhile_append_dropWhile (p := fun p : Int × Int => decide (p.1 < b)) (l := l)
  have key : ∀ t d : List (Int × Int), t ++ d = l → t = l.take t.length ∧ d = l.drop t.length := by
    rintro t d rfl
    exact ⟨List.take_left.symm, List.drop_left.symm⟩
  exact key _ _ e
theorem gone_at (b : Int) : ∀ (l : List (Int × Int)) (j : Nat) (y : Int × Int), (∀ i z, i < j → l[i]? = some z → z.1 < b) → l[j]? = some y → ¬ y.1 < b → (hGone b l).length = j
  | [], j, y, _, h, _ => by simp at h
  | x :: l, 0, y, _, h, hy => by
    obtain rfl : x = y := by simpa using h
    unfold hGone
    rw [List.takeWhile_cons, if_neg (by simpa using hy)]; rfl
  | x :: l, j + 1, y, hp, h, hy => by
    have hx : x.1 < b := hp 0 x (Nat.succ_pos _) rfl
    have ih := gone_at b l j y (fun i z hi hz => hp (i + 1) z (by omega) (by simpa using hz)) (by simpa using h) hy
    unfold hGone at ih ⊢
    rw [List.takeWhile_cons, if_pos (by simpa using hx), List.length_cons, ih]
theorem gone_all (b : Int) : ∀ (l : List (Int × Int)), (∀ (i : Nat) (z : Int × Int), l[i]? = some z → z.1 < b) → (hGone b l).length = l.length
  | [], _ => rfl
  | x :: l, hp => by
    have hx : x.1 < b := hp 0 x rfl
    have ih := gone_all b l (fun i z hz => hp (i + 1) z (by simpa using hz))
    unfold hGone at ih ⊢
    rw [List.takeWhile_cons, if_pos (by simpa using hx), List.length_cons, ih, List.length_cons]

/-- Between two rounds. -/
structure CutInv (F : Nat → Prop) (q mb : Nat) (D : DataW Unit) (L : List HLn) (b : Int) (w w1 : World) (A1 : Option Addr) (c1 m k : Nat) (o : Value) (wr : World) (L2 : List HLn) (R : List RwV) : Prop where
  hd : HeadAt wr (fun j => F j ∨ w.heap.size ≤ j) q mb D L2
  ab : absL L2 = cutA (absL L) (((L.filter fun x => decide (x.pts ≠ [])).take k).map (·.nm)) b
  rw_ : RowsAt wr w1.heap.size o R
  rows : rwA R = rowsM ((L.filter fun x => decide (x.pts ≠ [])).take k) b
  nms : wr.ownsRow w.heap.size 9 1 (.slice A1 m c1) m (txC (hSer L))
  fr : Fr F w wr
  sz : w1.heap.size ≤ wr.heap.size
  nl : R = [] → o = .slice none 0 0
theorem CutInv.skip {F : Nat → Prop} {q mb : Nat} {D : DataW Unit} {L : List HLn} {b : Int} {w w1 : World} {A1 : Option Addr} {c1 m k : Nat} {o : Value} {wr : World} {L2 : List HLn} {R : List RwV} (h : CutInv F q mb D L b w w1 A1 c1 m k o wr L2 R) (hs : hSrt (absL L)) {x : HLn} (hx : (L.filter fun x => decide (x.pts ≠ []))[k]? = some x) (hg : hGone b x.pts = []) :
    CutInv F q mb D L b w w1 A1 c1 m (k + 1) o wr L2 R := by
  have hxm : x ∈ L := (List.mem_filter.1 (List.mem_of_getElem? hx)).1
  refine ⟨h.hd, ?_, h.rw_, ?_, h.nms, h.fr, h.sz, h.nl⟩
  · rw [take_snoc hx, List.map_append, List.map_singleton, cutA_keep hs hxm hg]; exact h.ab
  · rw [take_snoc hx, rowsM_snoc, if_pos hg, List.append_nil]; exact h.rows
theorem own_typed {w : World} {base k : Nat} {e : TypeId} {size n : Nat} {v : Value} {xs : List Value} (h : w.ownsRow base e size v n xs) (hk : v.ownBlock = some k) : ∃ cs, Blk w k e cs := by
  rcases h.2 with ⟨rfl, _⟩ | ⟨g, cap, cur, rfl, _, hg, _⟩
  · cases hk
  · injection hk with hk
    have hk : g = k := hk
    rw [← hk]
    exact ⟨cur, hg⟩
theorem ownZ_typed {w : World} {k : Nat} {e : TypeId} {size n : Nat} {v : Value} {xs : List Value} (h : OwnZ w e size v n xs) (hk : ownZB v = some k) : ∃ cs, Blk w k e cs := by
  rcases h with ⟨_, _, A, rfl⟩ | ⟨_, h⟩
  · simp [ownZB, capOf] at hk
  · exact own_typed h (ownZB_le hk)
theorem blk_type {w : World} {k : Nat} {t t' : TypeId} {cs cs' : Array Value} (h : Blk w k t cs) (h' : Blk w k t' cs') : t = t' := by
  have e := Option.some.inj (h.symm.trans h')
  injection e
/-- Writes into blocks of other types leave a head as it was. -/
theorem HeadAt.frT {S F : Nat → Prop} {w w' : World} {q mb : Nat} {D : DataW Unit} {L : List HLn} (h : HeadAt w F q mb D L) (hf : Fr S w w') (hS : ∀ k, S k → k < w.heap.size → ∃ t cs, Blk w k t cs ∧ t ≠ 63 ∧ t ≠ 69 ∧ t ≠ 32) : HeadAt w' F q mb D L := by
  have n1 : ∀ {k : Nat} {t : TypeId} {cs : Array Value}, Blk w k t cs → (t = 63 ∨ t = 69 ∨ t = 32) → ¬ S k := by
    intro k t cs hb ht hk
    obtain ⟨t', cs', hb', h1, h2, h3⟩ := hS k hk hb.lt
    obtain rfl := blk_type hb hb'
    rcases ht with ht | ht | ht
    · exact h1 ht
    · exact h2 ht
    · exact h3 ht
  refine ⟨hf.blk h.hd (n1 h.hd (.inl rfl)), ownsMap_blk h.mp (hf.block _ h.mp.lt fun hk => ?_), h.dof, fun x hx => ?_, h.ap, h.fh, h.fm, h.srt⟩
  · obtain ⟨es, clock, hm, _⟩ := h.mp
    obtain ⟨t', cs', hb', _⟩ := hS mb hk h.mp.lt
    unfold Blk at hb'
    rw [hm] at hb'
    cases hb'
  · obtain ⟨x1, x2, x3⟩ := h.ln x hx
    refine ⟨hf.blk x1 (n1 x1 (.inr (.inl rfl))), x2.fr hf (fun k hk => ?_), x3⟩
    obtain ⟨cs, hc⟩ := ownZ_typed x2 hk
    exact n1 hc (.inr (.inr rfl))
theorem rd_two (W : World) (t : TypeId) (u0 u1 : Value) : Rd (W.alloc (.cells #[u0, u1] t)) (W.alloc (.cells #[u0, u1] t)).heap.size 2 (some ⟨W.heap.size, 0, none⟩) 1 [u0, u1] := by
  refine ⟨rfl, fun _ => ⟨W.heap.size, 0, rfl, by simp, fun j u hu => ?_⟩⟩
  rw [Nat.zero_add, (Blk.new W t #[u0, u1]).cell j]
  simpa using hu
theorem CutInv.rlen {F : Nat → Prop} {q mb : Nat} {D : DataW Unit} {L : List HLn} {b : Int} {w w1 : World} {A1 : Option Addr} {c1 m k : Nat} {o : Value} {wr : World} {L2 : List HLn} {R : List RwV} (h : CutInv F q mb D L b w w1 A1 c1 m k o wr L2 R) : R.length ≤ k := by
  have e := congrArg List.length h.rows
  unfold rwA rowsM at e
  rw [List.length_map, List.length_map] at e
  rw [e]
  exact Nat.le_trans (List.length_filter_le _ _) (List.length_take_le _ _)
set_option maxHeartbeats 1000000 in
theorem CutInv.step {F : Nat → Prop} {q mb : Nat} {D : DataW Unit} {L : List HLn} {b : Int} {w w1 : World} {A1 Ao A2 : Option Addr} {c1 m k co c2 j : Nat} {wr w2 w3 : World} {L2 : List HLn} {R : List RwV} {v' : Value} {x y : HLn} (h : CutInv F q mb D L b w w1 A1 c1 m k (.slice Ao R.length co) wr L2 R) (hs : hSrt (absL L)) (hw1 : w.heap.size ≤ w1.heap.size)
    (hx : (L.filter fun x => decide (x.pts ≠ []))[k]? = some x) (hy : y ∈ L2) (hyn : y.nm = x.nm) (hyp : y.pts = x.pts) (hyl : y.last = x.last) (hj : (hGone b x.pts).length = j) (hj0 : j ≠ 0)
    (hown2 : w2.ownsRow wr.heap.size 32 2 (.slice A2 j c2) j (ptsC (x.pts.take j))) (hb2 : Below wr.heap.size wr w2)
    (hown3 : w3.ownsRow w1.heap.size 54 2 v' (R.length + 1) (rwC R ++ [.string (B8 x.nm), .slice A2 j c2])) (hgr : (w2.alloc (.cells #[.string (B8 x.nm), .slice A2 j c2] 54)).grownBy w3 (Value.slice Ao R.length co).ownBlock) :
    HeadAt w3 (fun j => F j ∨ w.heap.size ≤ j) q mb D L2 ∧ w2.heap.size ≤ w3.heap.size ∧ ∀ w4 v4, w4.ownsRow w3.heap.size 32 2 v4 (x.pts.drop j).length (ptsC (x.pts.drop j)) → Below w3.heap.size w3 w4 →
      CutInv F q mb D L b w w1 A1 c1 m (k + 1) v' (w4.setCell ⟨y.bk, 0, none⟩ v4) (turnL L2 x.nm v4 (x.pts.drop j) x.last) (R ++ [⟨x.nm, .slice A2 j c2, x.pts.take j⟩]) := by
  have hxm : x ∈ L := (List.mem_filter.1 (List.mem_of_getElem? hx)).1
  have hrw2 := own_below h.rw_.1 hb2 (Nat.le_refl _)
  have hfr3 : Fr (fun k => (Value.slice Ao R.length co).ownBlock = some k) w2 w3 := ((Fr.refl _ w2).alloc _).grown hgr (fun k hk => .inr hk)
  have hd2 := h.hd.below hb2
  have hd3 : HeadAt w3 (fun j => F j ∨ w.heap.size ≤ j) q mb D L2 := hd2.frT hfr3 (fun k hk _ => by
    obtain ⟨cs, hc⟩ := own_typed hrw2 hk
    exact ⟨_, cs, hc, by decide, by decide, by decide⟩)
  refine ⟨hd3, hfr3.size, fun w4 v4 ho4 hb4 => ?_⟩
  obtain ⟨g1, g2⟩ := gone_take b x.pts
  rw [hj] at g1 g2
  have hg : hGone b x.pts ≠ [] := fun e => hj0 (by rw [← hj, e]; rfl)
  -- the line's block behind the store
  obtain ⟨y1, y2, y3, y4⟩ := hd3.ln y hy
  have hz : Fr (fun k => k = y.bk) w4 (w4.setCell ⟨y.bk, 0, none⟩ v4) := Fr.setCell (S := fun k => k = y.bk) (Fr.refl _ _) (p := ⟨y.bk, 0, none⟩) (.inr rfl) v4
  have y1b : Blk w4 y.bk 69 #[y.v, .int .i64 y.last] := y1.below hb4 y1.lt
  have hzb : Blk (w4.setCell ⟨y.bk, 0, none⟩ v4) y.bk 69 #[v4, .int .i64 x.last] := by rw [← hyl]; exact y1b.set_ 0 v4
  have ht := hd3.turn (S := fun _ => False) (N := w.heap.size) (v := v4) (pts := x.pts.drop j) (last := x.last) hy (Fr.ofBelow hb4) (fun k hk => hk.elim) (OwnZ.of_own ho4) (fun g hg => .inr ((own_lt ho4 g (ownZB_le hg)).1)) (Nat.le_trans (Nat.le_trans h.fr.size hb2.size) hfr3.size) _ hz hzb (fun g hg e => by
    have := (own_lt ho4 g (ownZB_le hg)).1
    have := y1.lt
    omega)
  have hsz : ∀ k : Nat, k < wr.heap.size → (Value.slice Ao R.length co).ownBlock ≠ some k → k ≠ y.bk → (w4.setCell ⟨y.bk, 0, none⟩ v4).heap[k]? = wr.heap[k]? := fun k h1 h2 h3 =>
    (hz.block k (Nat.lt_of_lt_of_le h1 (Nat.le_trans (Nat.le_trans hb2.size hfr3.size) hb4.size)) h3).trans ((hb4.block k (Nat.lt_of_lt_of_le h1 (Nat.le_trans hb2.size hfr3.size))).trans ((hfr3.block k (Nat.lt_of_lt_of_le h1 hb2.size) h2).trans (hb2.block k h1)))
  have ywr : Blk wr y.bk 69 #[y.v, .int .i64 y.last] := (h.hd.ln y hy).1
  have hkeep : ∀ {base : Nat} {e : TypeId} {size n : Nat} {v : Value} {xs : List Value}, wr.ownsRow base e size v n xs → e ≠ 54 → e ≠ 69 → (w4.setCell ⟨y.bk, 0, none⟩ v4).ownsRow base e size v n xs := by
    intro base e size n v xs ho h1 h2
    refine ⟨ho.1, ?_⟩
    rcases ho.2 with h3 | ⟨g, cap, cur, rfl, hb, hgg, rest⟩
    · exact .inl h3
    · refine .inr ⟨g, cap, cur, rfl, hb, (hsz g (Array.getElem?_eq_some_iff.1 hgg).1 (fun e => ?_) (fun e => ?_)).trans hgg, rest⟩
      · obtain ⟨cs, hc⟩ := own_typed h.rw_.1 e
        exact h1 (blk_type (show Blk wr g _ cur from hgg) hc)
      · subst e
        exact h2 (blk_type (show Blk wr _ _ cur from hgg) ywr)
  have hfin : Fr (fun k => k = y.bk) w3 (w4.setCell ⟨y.bk, 0, none⟩ v4) := Fr.trans ((Fr.ofBelow hb4).mono (fun _ _ h => h.elim)) hz (fun _ _ h => h)
  refine ⟨?_, ?_, ⟨?_, fun r hr => ?_⟩, ?_, hkeep h.nms (by decide) (by decide), ?_, ?_, fun e => by simp at e⟩
  · rw [← hyn]
    exact ht.1.mono (fun k hk => hk.elim (fun h => h) .inr)
  · rw [take_snoc hx, List.map_append, List.map_singleton, ← g2]
    exact cutA_turn hs hxm h.ab v4
  · rw [List.length_append, List.length_singleton, rwC_snoc]
    refine hfin.own hown3 (fun k hk e => ?_)
    obtain ⟨cs, hc⟩ := own_typed hown3 hk
    subst e
    exact absurd (blk_type hc y1) (by decide)
  · rcases List.mem_append.1 hr with hr | hr
    · exact hkeep (h.rw_.2 r hr) (by decide) (by decide)
    · obtain rfl := List.mem_singleton.1 hr
      have ho : w3.ownsRow wr.heap.size 32 2 (.slice A2 j c2) j (ptsC (x.pts.take j)) := hfr3.own hown2 (fun k hk e => by
        obtain ⟨cs, hc⟩ := own_typed hown2 hk
        obtain ⟨cs', hc'⟩ := own_typed hrw2 e
        exact absurd (blk_type hc hc') (by decide))
      have ho2 : (w4.setCell ⟨y.bk, 0, none⟩ v4).ownsRow wr.heap.size 32 2 (.slice A2 j c2) j (ptsC (x.pts.take j)) := hfin.own ho (fun k hk e => by
        obtain ⟨cs, hc⟩ := own_typed ho hk
        subst e
        exact absurd (blk_type hc y1) (by decide))
      have hl : (x.pts.take j).length = j := by rw [← g1, hj]
      show (w4.setCell ⟨y.bk, 0, none⟩ v4).ownsRow w1.heap.size 32 2 (.slice A2 j c2) (x.pts.take j).length (ptsC (x.pts.take j))
      rw [hl]
      exact own_base ho2 h.sz
  · rw [take_snoc hx, rowsM_snoc, if_neg hg, ← h.rows]
    unfold rwA
    rw [List.map_append, ← g1]; rfl
  · refine Fr.trans (Fr.trans (Fr.trans h.fr ((Fr.ofBelow hb2).mono (fun _ _ h => h.elim)) (fun _ _ h => h)) (hfr3.mono (fun k _ hk => hk)) (fun k hk e => ?_)) hfin (fun k hk e => ?_)
    · have := (own_lt hrw2 k e).1
      omega
    · rw [e]
      rcases y3 with h3 | h3
      · exact h3
      · rw [e] at hk; omega
  · exact Nat.le_trans h.sz (Nat.le_trans hb2.size (Nat.le_trans hfr3.size (Nat.le_trans hb4.size hz.size)))
theorem run_nilRw (w : World) (A : Option Addr) (n c : Nat) : (binOp .eql 42 (.slice A n c) (.slice none 0 0)).run Tryz.prog w = .ok (.bool A.isNone) w :=
  Lib.run_eql_slice_nil w 42 54 A n c 0 0 Tryz.underlying42
theorem cut_rd {w : World} {A : Option Addr} {n c j : Nat} {pts : List (Int × Int)} (h : Rd w w.heap.size 2 A n (ptsC pts)) (hj : j ≤ n) (hc : n ≤ c) : Rd w w.heap.size 2 (if c = j then A else A.map (·.add (j * 2))) (n - j) (ptsC (pts.drop j)) := by
  have h := h.cut hj hc
  rw [show (ptsC pts).drop (j * 2) = ptsC (pts.drop j) from flat_drop (fun p : Int × Int => [Value.int .i64 p.1, Value.int .u64 p.2]) 2 (fun _ => rfl) pts j] at h
  exact h
theorem line_rd {F : Nat → Prop} {w : World} {q mb n c : Nat} {D : DataW Unit} {L : List HLn} {y : HLn} {A : Option Addr} {pts : List (Int × Int)} (h : HeadAt w F q mb D L) (hy : y ∈ L) (hyp : y.pts = pts) (hv : y.v = .slice A n c) : Rd w w.heap.size 2 A n (ptsC pts) ∧ n ≤ c := by
  obtain ⟨A', c', e, h1, _, h3⟩ := (h.ln y hy).2.1.form
  rw [hv] at e
  injection e with e1 e2 e3
  rw [← e1, ← e2, hyp] at h3
  exact ⟨h3, by rw [e2, e3]; exact h1⟩
/-- What Cut answers. -/
def HCPost (es : Nat → Addr) (F : Nat → Prop) (q mb : Nat) (D : DataW Unit) (L : List HLn) (b : Int) (w : World) (e : Ending) (w' : World) : Prop :=
  ∃ L2 R v ev, e = .returned (.tuple #[v, ev]) ∧ HeadAt w' (fun j => F j ∨ w.heap.size ≤ j) q mb D L2 ∧ absL L2 = hCut (absL L) b ∧ RowsAt w' w.heap.size v R ∧ rwA R = hCutR (absL L) b ∧ Fr F w w' ∧ (hCutR (absL L) b = [] → v = .slice none 0 0 ∧ ev = sentV (es 4)) ∧ (hCutR (absL L) b ≠ [] → ev = .nilIface)
end Go.Proofs.YtfnjgminbjopeaaGreatDoor
