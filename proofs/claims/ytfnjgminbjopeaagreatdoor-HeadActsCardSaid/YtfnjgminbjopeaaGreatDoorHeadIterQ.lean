/- slices.Sorted(maps.Keys(m)) at a head's map; head.Points, Series, Count by contracts. -/
import Derived.Test.YtfnjgminbjopeaaGreatDoorHeadChkQ
import Derived.Test.YtfnjgminbjopeaaGreatDoorKeys
import Derived.Sort.KeysCollected
namespace Go.Proofs
open Go.RowKit Go.Maps Go.Sort Go.Shelf
theorem Tryz.sorts27 (m : Nat) : AnyZ.SortsIn Tryz.prog Tryz.sorted27_ren Fence.wide m :=
  ⟨fun blk off cap ss W hH hblk hsz => callsIn_wide.2 (AnyM.slices_Sort_string Tryz.sort37 blk off cap ss W hH hblk hsz),
   fun p cap W => callsIn_wide.2 (AnyM.slices_Sort_string_none Tryz.sort37 p cap W)⟩
theorem Tryz.mapsKeys_line (mb : Option Nat) (W : World) : Calls Tryz.prog 28 #[.map mb] W fun e w' => e = .returned (.func (.func 38) #[] #[.pointer (some ⟨W.heap.size, 0, none⟩)]) ∧ w' = W.alloc (.cells #[.map mb] 61) :=
  callsIn_wide.1 (AnyZ.keys_in Tryz.keys28 Fence.wide 5 trivial rfl mb W)
set_option maxHeartbeats 1000000 in
theorem Tryz.sortedKeys_line {H : Type} (b nn : Nat) (D0 : DataW H) (R : Value → Option (DataW H × List MemPlace)) (w : World) (hown : w.ownsMap Tryz.prog 9 R b nn D0) (hmax : Maps.size D0 ≤ maxLen) (hbytes : Maps.size D0 * 16 ≤ 140737488355328) :
    Calls Tryz.prog 27 #[.func (.func 38) #[] #[.pointer (some ⟨w.heap.size, 0, none⟩)]] (w.alloc (.cells #[.map (some b)] 61)) fun e w' => ∃ (v : Value) (ss : List (List UInt8)), e = .returned v ∧ ss.Perm (strKeys D0) ∧
      w'.ownsRow (w.alloc (.cells #[.map (some b)] 61)).heap.size 9 1 v ss.length ((ss.mergeSort (fun x y => decide (x ≤ y))).map encStr) ∧ (v = .slice none 0 0 ↔ ss = []) ∧ Below (w.alloc (.cells #[.map (some b)] 61)).heap.size (w.alloc (.cells #[.map (some b)] 61)) w' := by
  refine (callsIn_wide (n := 5)).1 ?_
  have hbl := hown.lt
  have hseq : SeqGives Fence.wide 2 Tryz.prog 38 #[.pointer (some ⟨w.heap.size, 0, none⟩)] encStr (fun ss => ss.Perm (strKeys D0)) (Maps.size D0) (w.alloc (.cells #[.map (some b)] 61)) :=
    AnyZ.keys_gives (ρ := Tryz.keys28_ren) { Tryz.keys28 with } Fence.wide _ trivial rfl (by omega) w.heap.size b nn D0 _ (by simp) (by simp) (by
      obtain ⟨es, clock, hb, Ft, hs, hD⟩ := hown
      exact ⟨es, clock, (Below.heap_alloc _ _ b hbl).trans hb, Ft, hs, hD⟩)
  exact AnyZ.sorted_in Tryz.sorted27 Fence.wide 5 trivial trivial trivial trivial rfl (by omega) (Tryz.sorts27 _) (enters_of Tryz.func37 (by kernel_rfl) rfl) 38 #[.pointer (some ⟨w.heap.size, 0, none⟩)] trivial (enters_of Tryz.func38 (by kernel_rfl) rfl) _ _ hmax hbytes _ hseq
end Go.Proofs
namespace Go.Proofs.YtfnjgminbjopeaaGreatDoor
open Go.RowKit Go.Maps
set_option linter.unusedVariables false

theorem encStr_B8 (s : Bs) : encStr s = Value.string (B8 s) := rfl
/-- The names of a head's lines are its map's keys, sorted. -/
theorem keys_sorted {F : Nat → Prop} {w : World} {q mb : Nat} {D : DataW Unit} {L : List HLn} (h : HeadAt w F q mb D L) {ss : List (List UInt8)} (hp : ss.Perm (strKeys D)) :
    ss.mergeSort (fun x y => decide (x ≤ y)) = L.map (·.nm) := by
  have hs : (L.map (·.nm)).Pairwise (fun x y : Bs => x < y) := by
    have := h.srt
    unfold hSrt absL at this
    rw [List.pairwise_map] at this
    rw [List.pairwise_map]
    exact this
  have hn : (L.map (·.nm)).Nodup := List.Pairwise.imp (fun hxy e => by subst e; exact lt_irrefl_bs _ hxy) hs
  obtain ⟨es, rfl, hes, _⟩ := h.mp.entries strKeyed
  obtain ⟨es2, he2, hk⟩ := h.mp.keysOf
  injection he2 with he2
  subst he2
  have hp2 : (L.map (·.nm)).Perm (strKeys (.map es)) := by
    refine perm_strKeys hes (fun p hp => ?_) hn (fun x => ?_)
    · obtain ⟨v, hv⟩ := hk p hp
      obtain ⟨x, _, hx, _⟩ := Maps.keyOf_str Tryz.underlying9 hv
      exact ⟨x, hx⟩
    · rw [h.dof.2.1 x, List.any_eq_true, List.mem_map]
      constructor
      · rintro ⟨y, hy, rfl⟩; exact ⟨y, hy, by simp⟩
      · rintro ⟨y, hy, e⟩; exact ⟨y, hy, by simpa using e⟩
  have e1 : ss.mergeSort leB = (L.map (·.nm)).mergeSort leB := mergeSort_of_perm (hp.trans hp2.symm)
  show ss.mergeSort leB = _
  rw [e1]
  exact List.mergeSort_of_pairwise (List.Pairwise.imp (fun {x y} hxy => by simp only [leB, decide_eq_true_eq]; exact List.le_of_lt hxy) hs)

theorem hPoints_of (L : List HLn) (s : Bs) (f t : Int) : hPoints (absL L) s f t = match lnFind L s with
    | some x => betL f t x.pts
    | none => [] := by
  unfold hPoints
  rw [lnFind_abs]
  cases lnFind L s <;> rfl
set_option maxRecDepth 100000 in
set_option maxHeartbeats 4000000 in
theorem hpoints_any {F : Nat → Prop} {q mb : Nat} {D : DataW Unit} {L : List HLn} (s : Bs) (f t : Int) (w : World) (hs : s.length ≤ 100000) (hH : HeadAt w F q mb D L) (hN : ∀ x ∈ L, x.pts.length ≤ 100000) :
    Calls Tryz.prog 13 #[.pointer (some ⟨q, 0, none⟩), .string (B8 s), .int .i64 f, .int .i64 t] w fun e w' => ∃ v, e = .returned v ∧ w'.ownsRow w.heap.size 32 2 v (hPoints (absL L) s f t).length (ptsC (hPoints (absL L) s f t)) ∧ Below w.heap.size w w' := by
  rw [hPoints_of]
  have z1 : w.cell? ⟨q, 0, none⟩ = some (.map (some mb)) := hH.hd.cell 0
  obtain ⟨k1, k2⟩ := hH.look s (by omega)
  cases hx : lnFind L s with
  | none =>
    have z2 := k2 hx
    clear hH k1 k2 hN hx
    generalize B8 s = st at z2 ⊢
    go_enter Tryz.func13, Tryz.ntmps13
    go_wp2
    go_ret
    exact ⟨_, rfl, World.ownsRow_nil _ _ _ _, Below.refl _ _⟩
  | some x =>
    have z2 := k1 x hx
    obtain ⟨hm, _⟩ := lnFind_mem hx
    obtain ⟨h1, h2, _⟩ := hH.ln x hm
    obtain ⟨A, c, hv, _, _, hr⟩ := h2.form
    have z3 : w.cell? ⟨x.bk, 0, none⟩ = some (.slice A x.pts.length c) := by rw [← hv]; exact h1.cell 0
    have Hbt := Lib.hid (between_any A x.pts.length c x.pts f t w hr (hN x hm))
    clear hH k1 k2 hN hx hm h1 h2 hv hr
    generalize B8 s = st at z2 ⊢
    go_enter Tryz.func13, Tryz.ntmps13
    go_wp2_with fail
    refine Hbt.out.mono ?_
    rintro e w' ⟨v, rfl, h1, h2⟩
    have H1 := Lib.hid h1; have H2 := Lib.hid h2
    clear h1 h2
    go_wp2
    go_ret
    exact ⟨_, rfl, H1.out, H2.out⟩

/-- Texts as cells. -/
def txC (l : List Bs) : List Value := l.map fun s => .string (B8 s)
theorem txC_len (l : List Bs) : (txC l).length = l.length := by unfold txC; rw [List.length_map]
theorem infoTx : (Tryz.prog.info? 9).map (fun i => (i.zero, i.size, i.bytes)) = some (some (.string ⟨#[]⟩), 1, 16) := by kernel_rfl
def hSer (L : List HLn) : List Bs := (L.filter fun x => decide (x.pts ≠ [])).map (·.nm)
theorem hSeries_of (L : List HLn) : hSeries (absL L) = hSer L := by
  unfold hSeries absL hSer
  rw [List.filter_map, List.map_map]
  rfl
theorem one_cell (W : World) (t : TypeId) (u : Value) : Rd (W.alloc (.cells #[u] t)) (W.alloc (.cells #[u] t)).heap.size 1 (some ⟨W.heap.size, 0, none⟩) 1 [u] := by
  refine ⟨rfl, fun _ => ⟨W.heap.size, 0, rfl, by simp, fun j v hv => ?_⟩⟩
  rw [Nat.zero_add, (Blk.new W t #[u]).cell j]
  simpa using hv

set_option maxRecDepth 100000 in
set_option maxHeartbeats 4000000 in
theorem hseries_any {F : Nat → Prop} {q mb : Nat} {D : DataW Unit} {L : List HLn} (w : World) (hH : HeadAt w F q mb D L) (hL : L.length ≤ 100000) (hn : ∀ x ∈ L, x.nm.length ≤ 100000) :
    Calls Tryz.prog 18 #[.pointer (some ⟨q, 0, none⟩)] w fun e w' => ∃ v, e = .returned v ∧ w'.ownsRow w.heap.size 9 1 v (hSer L).length (txC (hSer L)) ∧ Below w.heap.size w w' := by
  have z1 : w.cell? ⟨q, 0, none⟩ = some (.map (some mb)) := hH.hd.cell 0
  have hmb := hH.mp.lt
  have hq := hH.hd.lt
  have Hk := Lib.hid (Tryz.mapsKeys_line (some mb) w)
  have Hs := Lib.hid (Tryz.sortedKeys_line mb L.length D ptrR w hH.mp (by rw [hH.dof.1]; unfold maxLen; omega) (by rw [hH.dof.1]; omega))
  have HH := Lib.hid (fun W (hb : Below w.heap.size w W) => hH.below hb)
  have Hsrt := Lib.hid (fun (ss : List (List UInt8)) (hp : ss.Perm (strKeys D)) => keys_sorted hH hp)
  obtain ⟨i0, hi, hz0, hz1, hz2⟩ := info_parts infoTx
  have Hi := Lib.hid hi; have Hz0 := Lib.hid hz0; have Hz1 := Lib.hid hz1; have Hz2 := Lib.hid hz2; have Hn := Lib.hid hn
  have Hba := Lib.hid (show Below w.heap.size w (w.alloc (.cells #[.map (some mb)] 61)) from Below.alloc (Below.refl _ _) (Nat.le_refl _) _)
  clear hH hi hz0 hz1 hz2 hn
  go_enter Tryz.func18, Tryz.ntmps18
  go_wp2_with fail
  refine Hk.out.mono ?_
  rintro e w0 ⟨rfl, rfl⟩
  go_wp2_with fail
  refine Hs.out.mono ?_
  rintro e w1 ⟨v1, ss, rfl, hp, hown, _, hb⟩
  have hsr := Hsrt.out ss hp
  rw [hsr] at hown
  have hsl : ss.length = L.length := by
    have := congrArg List.length hsr
    rw [List.length_mergeSort, List.length_map] at this
    exact this
  rw [hsl] at hown
  obtain ⟨A1, c1, rfl, _, _, hr1⟩ := own_form hown
  have HB1 := Lib.hid (Below.call Hba.out hb (by simp))
  have HR1 := Lib.hid (show Rd w1 w1.heap.size 1 A1 L.length (L.map fun x => Value.string (B8 x.nm)) by
    have e : (L.map (·.nm)).map encStr = L.map fun x => Value.string (B8 x.nm) := by rw [List.map_map]; rfl
    rw [← e]; exact hr1)
  obtain ⟨n, hn⟩ : ∃ n, n = L.length := ⟨_, rfl⟩
  rw [← hn] at HR1 ⊢
  have Hnl := Lib.hid hn
  have hn1 : n ≤ 100000 := by omega
  have hw1 : w.heap.size ≤ w1.heap.size := HB1.out.size
  clear hp hown hsr hsl hb hr1 hn hL
  go_wp2
  go_loopw [3, 13] (fun o iv wr => ∃ k : Nat, k ≤ n ∧ iv = .int .i64 k ∧ wr.ownsRow w1.heap.size 9 1 o (hSer (L.take k)).length (txC (hSer (L.take k))) ∧ Below w1.heap.size w1 wr) (fun _ iv _ => n - (intOf iv).toNat)
  case atStart => exact ⟨0, Nat.zero_le _, rfl, World.ownsRow_nil _ _ _ _, Below.refl _ _⟩
  case round =>
    obtain ⟨k, hk, rfl, hown, hbel⟩ := hrel
    obtain ⟨Ao, co, rfl, hco, _, hro⟩ := own_form hown
    have Hown := Lib.hid hown; have Hbel := Lib.hid hbel
    have hwr : w1.heap.size ≤ wr.heap.size := hbel.size
    clear hown hro
    by_cases hkn : k < n
    · obtain ⟨bb, off, x, hAe, had, hx, e0⟩ := (HR1.out.below hbel).at1 hkn
      subst hAe
      have hxm := List.mem_of_getElem? hx
      have hwh := HH.out wr (Below.call HB1.out hbel hw1)
      have y1 : wr.cell? ⟨q, 0, none⟩ = some (.map (some mb)) := hwh.hd.cell 0
      have y2 := hwh.look1 x hxm (by have := Hn.out x hxm; omega)
      obtain ⟨g1, g2, _⟩ := hwh.ln x hxm
      obtain ⟨A, c, hv, _, _, _⟩ := g2.form
      have y3 : wr.cell? ⟨x.bk, 0, none⟩ = some (.slice A x.pts.length c) := by rw [← hv]; exact g1.cell 0
      have hsl : (hSer (L.take k)).length ≤ k := by
        unfold hSer
        rw [List.length_map]
        exact Nat.le_trans (List.length_filter_le _ _) (List.length_take_le _ _)
      have Htk := Lib.hid (take_snoc hx)
      obtain ⟨m, hm⟩ : ∃ m, m = x.pts.length := ⟨_, rfl⟩
      rw [← hm] at y3
      have Hm := Lib.hid hm
      have hs1 : (B8 x.nm).size ≤ 100000 := by rw [B8_size]; exact Hn.out x hxm
      clear hx hxm hwh g1 g2 hv hm hbel
      generalize hst : B8 x.nm = st at e0 y2 hs1
      have Hst := Lib.hid hst
      clear hst
      by_cases h0 : m = 0
      · have Hser := Lib.hid (show hSer (L.take (k + 1)) = hSer (L.take k) by
          rw [Htk.out]; unfold hSer
          rw [List.filter_append, List.map_append]
          have : x.pts = [] := List.eq_nil_of_length_eq_zero (by rw [← Hm.out]; exact h0)
          simp [this])
        subst h0
        go_wp2
        go_roundw
        case rel => exact ⟨k + 1, by omega, by go_num, by rw [Hser.out]; exact Hown.out, Hbel.out⟩
        case measure => simp [intOf]; omega
      · have h0' : (0 : Int) < (m : Int) := by omega
        have Hser := Lib.hid (show hSer (L.take (k + 1)) = hSer (L.take k) ++ [x.nm] by
          rw [Htk.out]; unfold hSer
          rw [List.filter_append, List.map_append]
          have : x.pts ≠ [] := fun e => h0 (by rw [Hm.out, e]; rfl)
          simp [this])
        have hk63 : (hSer (L.take k)).length + 1 ≤ maxLen := by unfold maxLen; omega
        have hk8 : ((hSer (L.take k)).length + 1) * 16 ≤ 140737488355328 := by omega
        have HoA := Lib.hid (show (wr.alloc (.cells #[.string st] 9)).ownsRow w1.heap.size 9 1 (.slice Ao (hSer (L.take k)).length co) (hSer (L.take k)).length (txC (hSer (L.take k))) from Hown.out.alloc _)
        have HrA := Lib.hid (one_cell wr 9 (.string st))
        have HzA := Lib.hid (show w1.heap.size ≤ (wr.alloc (.cells #[.string st] 9)).heap.size by simp; omega)
        have HbA := Lib.hid (Below.alloc Hbel.out hwr (.cells #[.string st] 9))
        generalize hln : (hSer (L.take k)).length = ln at hk63 hk8 HoA
        have Hln := Lib.hid hln
        clear hln
        go_wp2_with (at_builtin; refine wpList_append_rd _ rfl (.tmp 28) (.tmp 30) _ rfl w1.heap.size 9 i0 (.string ⟨#[]⟩) 1 16 Tryz.underlying47 Hi.out Hz0.out Hz1.out Hz2.out rfl (by decide) (.slice Ao ln co) ln _ rfl HoA.out _ _ 1 1 [.string st] rfl HrA.out (by intro u hu; simp at hu; subst hu; rfl) hk63 hk8 HzA.out ?_; intro v' wa hown' hgr hat; have Hv := Lib.hid hown'; have HBb := Lib.hid (Below.grown HbA.out hgr HzA.out (fun g hg => (own_lt HoA.out g hg).1)); clear hown' hgr hat)
        go_roundw
        case rel => exact ⟨k + 1, by omega, by go_num, by
          rw [Hser.out, List.length_append, Hln.out]
          have e : txC (hSer (L.take k) ++ [x.nm]) = txC (hSer (L.take k)) ++ [.string st] := by unfold txC; rw [List.map_append, ← Hst.out]; rfl
          rw [e]; exact Hv.out, HBb.out⟩
        case measure => simp [intOf]; omega
    · obtain rfl : k = n := by omega
      have e : L.take k = L := List.take_of_length_le (by rw [Hnl.out]; exact Nat.le_refl _)
      have Hfin := Lib.hid (show wr.ownsRow w.heap.size 9 1 (.slice Ao (hSer (L.take k)).length co) (hSer L).length (txC (hSer L)) by
        have h := own_base Hown.out hw1
        rw [e] at h ⊢
        exact h)
      have Hb := Lib.hid (Below.call HB1.out hbel hw1)
      clear hbel e
      go_wp2
      go_ret
      exact ⟨_, rfl, Hfin.out, Hb.out⟩

def hCnt (L : List HLn) : Nat := (L.map fun x => x.pts.length).sum
theorem hCount_of (L : List HLn) : hCount (absL L) = hCnt L := by
  unfold hCount absL hCnt
  rw [List.map_map]
  rfl
/-- The points of the lines that have been counted. -/
def hDone (L : List HLn) (left : Lit → Bool) : Nat := (L.map fun x => cond (left (.string x.nm)) 0 x.pts.length).sum
theorem hDone_start (L : List HLn) (left : Lit → Bool) (h : ∀ x ∈ L, left (.string x.nm) = true) : hDone L left = 0 := by
  unfold hDone
  induction L with
  | nil => rfl
  | cons x L ih =>
    rw [List.map_cons, List.sum_cons, ih (fun y hy => h y (List.mem_cons_of_mem _ hy)), h x List.mem_cons_self]; rfl
theorem hDone_end (L : List HLn) (left : Lit → Bool) (h : ∀ kl, left kl = false) : hDone L left = hCnt L := by
  unfold hDone hCnt
  congr 1
  apply List.map_congr_left
  intro x _
  rw [h]; rfl
theorem hDone_le (L : List HLn) (left : Lit → Bool) : hDone L left ≤ hCnt L := by
  unfold hDone hCnt
  induction L with
  | nil => exact Nat.le_refl _
  | cons x L ih =>
    rw [List.map_cons, List.map_cons, List.sum_cons, List.sum_cons]
    have : (cond (left (.string x.nm)) 0 x.pts.length) ≤ x.pts.length := by cases left (.string x.nm) <;> simp
    omega
theorem hDone_step {L : List HLn} (hs : hSrt (absL L)) {left : Lit → Bool} {x : HLn} (hx : x ∈ L) (hl : left (.string x.nm) = true) : hDone L (fun z => left z && !z.sameKey (.string x.nm)) = hDone L left + x.pts.length := by
  have key : ∀ (y : HLn), y.nm ≠ x.nm → (left (.string y.nm) && !(Lit.string y.nm).sameKey (.string x.nm)) = left (.string y.nm) := fun y hy => by
    rw [Maps.sameKey_ne (fun e => hy (by injection e))]; simp
  unfold hDone
  induction L with
  | nil => cases hx
  | cons y L ih =>
    have hs' : hSrt (absL L) ∧ ∀ z ∈ L, y.nm < z.nm := by
      unfold hSrt absL at hs ⊢
      rw [List.map_cons, List.pairwise_cons] at hs
      exact ⟨hs.2, fun z hz => hs.1 _ (List.mem_map.2 ⟨z, hz, rfl⟩)⟩
    rw [List.map_cons, List.map_cons, List.sum_cons, List.sum_cons]
    rcases List.mem_cons.1 hx with rfl | hx
    · have e1 : (List.map (fun z : HLn => cond (left (.string z.nm) && !(Lit.string z.nm).sameKey (.string x.nm)) 0 z.pts.length) L) = List.map (fun z : HLn => cond (left (.string z.nm)) 0 z.pts.length) L := by
        apply List.map_congr_left
        intro z hz
        rw [key z (fun e => by have := hs'.2 z hz; rw [e] at this; exact lt_irrefl_bs _ this)]
      rw [e1, hl]
      simp [Lit.sameKey]
      omega
    · have hne : y.nm ≠ x.nm := fun e => by have := hs'.2 x hx; rw [e] at this; exact lt_irrefl_bs _ this
      have ih' := ih hs'.1 hx
      have ky := key y hne
      dsimp only at ih' ⊢
      rw [ky, ih']
      omega

set_option maxRecDepth 100000 in
set_option maxHeartbeats 4000000 in
theorem hcount_any {F : Nat → Prop} {q mb : Nat} {D : DataW Unit} {L : List HLn} (w : World) (hH : HeadAt w F q mb D L) (hN : hCnt L ≤ 1000000000) :
    Calls Tryz.prog 15 #[.pointer (some ⟨q, 0, none⟩)] w fun e w' => e = .returned (.int .i64 (hCnt L : Nat)) ∧ Below w.heap.size w w' := by
  have z1 : w.cell? ⟨q, 0, none⟩ = some (.map (some mb)) := hH.hd.cell 0
  have HH := Lib.hid hH
  have hmb := hH.mp.lt
  clear hH
  go_enter Tryz.func15, Tryz.ntmps15
  go_wp2_with (at_range; refine wpList_range_own _ rfl _ 61 rfl 9 66 strKeyed Tryz.underlying61 ptrR mb L.length D rfl HH.out.mp ?_; intro w0 hrg0 hg0 hs0; have HG0 := Lib.hid hg0; have HR0 := Lib.hid hrg0; clear hg0 hs0 hrg0)
  go_frame
  go_loopw [3] (fun nv wr => ∃ left cnt, nv = .int .i64 (hDone L left : Nat) ∧ wr.ranges Tryz.prog 9 ptrR mb w.heap.size L.length D left cnt ∧ Below w.heap.size w wr ∧ hDone L left ≤ hCnt L) (fun _ wr => wr.rangeLeft mb w.heap.size)
  case atStart =>
    have hh : ∀ x ∈ L, Maps.has D (.string x.nm) = true := fun x hx => by
      rw [HH.out.dof.2.1 x.nm, List.any_eq_true]
      exact ⟨x, hx, by simp⟩
    exact ⟨Maps.has D, Maps.size D, by rw [hDone_start L _ hh]; rfl, HR0.out, Below.grown (Below.refl _ _) HG0.out (Nat.le_refl _) (fun g hg => by cases hg), by rw [hDone_start L _ hh]; exact Nat.zero_le _⟩
  case round =>
    obtain ⟨left, cnt, rfl, hrg, hbel, hle⟩ := hrel
    have HRg := Lib.hid hrg; have Hbel := Lib.hid hbel; have Hle := Lib.hid hle
    obtain ⟨dn, hdn⟩ : ∃ dn, dn = hDone L left := ⟨_, rfl⟩
    rw [← hdn]
    have Hdn := Lib.hid hdn
    have hdn1 : dn ≤ 1000000000 := by omega
    clear hrg hbel hle hdn
    go_wp2_with (at_next; refine wpList_next_ranges _ rfl _ rfl 9 strKeyed ptrR encStr Value.pointer (fun key kl hk => by obtain ⟨x, hx, _⟩ := Maps.keyOf_str Tryz.underlying9 hk; exact ⟨x, hx⟩) (fun v y hv => ptrR_shape hv) mb w.heap.size L.length D left cnt rfl HRg.out ?_ ?_)
    · intro _ hl0
      have Hfin := Lib.hid (show dn = hCnt L by rw [Hdn.out]; exact hDone_end L left hl0)
      clear hl0
      go_wp2
      go_ret
      exact ⟨by rw [← Hfin.out]; rfl, Hbel.out⟩
    · intro x c kl yd yp w2 cnt2 hkey hlk hv hat hrg2 hlt hg2 hs2 hen
      obtain ⟨x', ex, rfl, _⟩ := Maps.keyOf_str Tryz.underlying9 hkey
      obtain rfl := encStr_inj ex
      have hh := Maps.has_true_of_atKey hat
      rw [HH.out.dof.2.1 x, List.any_eq_true] at hh
      obtain ⟨y, hy, hyn⟩ := hh
      obtain rfl : y.nm = x := by simpa using hyn
      have hyd := hat .nil
      rw [HH.out.dof.2.2 y hy] at hyd
      subst hyd
      have hc := ptrR_inv hv
      injection hc with hc
      subst hc
      have hbel2 : Below w.heap.size w w2 := Below.grown Hbel.out hg2 Hbel.out.size (fun g hg => by cases hg; exact Nat.le_refl _)
      obtain ⟨g1, g2, _⟩ := (HH.out.below hbel2).ln y hy
      obtain ⟨A, c2, hvv, _, _, _⟩ := g2.form
      have y3 : w2.cell? ⟨y.bk, 0, none⟩ = some (.slice A y.pts.length c2) := by rw [← hvv]; exact g1.cell 0
      have hst := hDone_step HH.out.srt hy hlk
      have hle := hDone_le L (fun z => left z && !z.sameKey (.string y.nm))
      rw [hst, ← Hdn.out] at hle
      rw [← Hdn.out] at hst
      have Hst := Lib.hid hst; have Hbel2 := Lib.hid hbel2; have Hrg2 := Lib.hid hrg2; have Hlt := Lib.hid hlt
      generalize hm : y.pts.length = m at y3 hle Hst
      have hm9 : m ≤ 1000000000 := by omega
      clear hkey hlk hv hat hrg2 hlt hg2 hs2 hyn hbel2 g1 g2 hvv hst ex hle hm
      generalize encStr y.nm = kv at hen ⊢
      go_wp2
      go_roundw
      case rel => exact ⟨_, _, by rw [Hst.out]; go_num, Hrg2.out, Hbel2.out, hDone_le _ _⟩
      case measure => rw [Hrg2.out.left_eq, HRg.out.left_eq]; exact Hlt.out
end Go.Proofs.YtfnjgminbjopeaaGreatDoor
