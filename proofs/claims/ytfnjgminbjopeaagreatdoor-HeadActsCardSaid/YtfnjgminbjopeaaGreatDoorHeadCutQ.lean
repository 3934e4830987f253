/- slices.Clone of points; head.Cut by its contract. -/
import Derived.Test.YtfnjgminbjopeaaGreatDoorHeadAdd2Q
import Derived.Test.YtfnjgminbjopeaaGreatDoorHeadIterQ
namespace Go.Proofs.YtfnjgminbjopeaaGreatDoor
open Go.RowKit Go.Maps
set_option linter.unusedVariables false

theorem run_nilSl (w : World) (A : Option Addr) (n c : Nat) : (binOp .eql 52 (.slice A n c) (.slice none 0 0)).run Tryz.prog w = .ok (.bool A.isNone) w :=
  Lib.run_eql_slice_nil w 52 32 A n c 0 0 Tryz.underlying52
set_option maxRecDepth 100000 in
theorem clonePts_any (A : Option Addr) (n c : Nat) (ps : List (Int × Int)) (w : World) (hA : Rd w w.heap.size 2 A n (ptsC ps)) (hn : n ≤ 100000) :
    Calls Tryz.prog 24 #[.slice A n c] w fun e w' => ∃ v, e = .returned v ∧ w'.ownsRow w.heap.size 32 2 v n (ptsC ps) ∧ Below w.heap.size w w' := by
  obtain ⟨i0, hi, hz0, hz1, hz2⟩ := info_parts infoPt
  have Hi := Lib.hid hi; have Hz0 := Lib.hid hz0; have Hz1 := Lib.hid hz1; have Hz2 := Lib.hid hz2
  have HA := Lib.hid hA
  clear hi hz0 hz1 hz2
  cases A with
  | none =>
    have hn0 : n = 0 := by
      rcases Nat.eq_zero_or_pos n with h | h
      · exact h
      · obtain ⟨b, o, e, _⟩ := hA.2 h; cases e
    subst hn0
    have hps := hA.1
    have Hp := Lib.hid (show ptsC ps = [] from List.eq_nil_of_length_eq_zero (by simpa using hA.1))
    have heq : (binOp .eql 52 (.slice none 0 c) (.slice none 0 0)).run Tryz.prog w = .ok (.bool true) w := run_nilSl w none 0 c
    clear hA hps
    go_enter Tryz.func24, Tryz.ntmps24
    go_wp2
    go_ret
    exact ⟨_, rfl, by rw [Hp.out]; exact World.ownsRow_nil _ _ _ _, Below.refl _ _⟩
  | some a =>
    have hk63 : 0 + n ≤ maxLen := by unfold maxLen; omega
    have hk8 : (0 + n) * 16 ≤ 140737488355328 := by omega
    have Hr := Lib.hid ((hA.alloc (Nat.le_refl _) (.cells #[] 32)).more (B' := (w.alloc (.cells #[] 32)).heap.size) (by simp))
    have Ho := Lib.hid (World.ownsRow_made (base := w.heap.size) (e := 32) (size := 2) w #[] 0 (Nat.le_refl _) (Nat.zero_le _) rfl)
    have Hb := Lib.hid (show Below w.heap.size w (w.alloc (.cells #[] 32)) from Below.alloc (Below.refl _ _) (Nat.le_refl _) _)
    have Hs := Lib.hid (show w.heap.size ≤ (w.alloc (.cells #[] 32)).heap.size by simp)
    have heq : (binOp .eql 52 (.slice (some a) n c) (.slice none 0 0)).run Tryz.prog w = .ok (.bool false) w := run_nilSl w (some a) n c
    clear hA
    go_enter Tryz.func24, Tryz.ntmps24
    go_wp2_with (at_builtin; refine wpList_append_rd _ rfl (.tmp 5) (.tmp 6) _ rfl w.heap.size 32 i0 (.agg #[.int .i64 0, .int .u64 0]) 2 16 Tryz.underlying52 Hi.out Hz0.out Hz1.out Hz2.out rfl (by decide) _ 0 _ rfl Ho.out _ _ n c (ptsC ps) rfl Hr.out (ptsC_one ps) hk63 hk8 Hs.out ?_; intro v' wa hown' hgr hat; have Hown' := Lib.hid hown'; have Hbe := Lib.hid (Below.grown Hb.out hgr Hs.out (fun g hg => (own_lt Ho.out g hg).1)); clear hown' hgr hat)
    go_ret
    exact ⟨_, rfl, by simpa using Hown'.out, Hbe.out⟩

/-- Of the lines with these names, what is left. -/
def cutA (A : List HA) (ns : List Bs) (b : Int) : List HA := A.map fun x => if x.1 ∈ ns then (x.1, hLeft b x.2.1, x.2.2) else x
theorem cutA_nil (A : List HA) (b : Int) : cutA A [] b = A := by
  unfold cutA
  conv => rhs; rw [← List.map_id A]
  apply List.map_congr_left
  intro x _
  simp
def rowsM (M : List HLn) (b : Int) : List (Bs × List (Int × Int)) := (M.filter fun x => decide (hGone b x.pts ≠ [])).map fun x => (x.nm, hGone b x.pts)
theorem rowsM_snoc (M : List HLn) (x : HLn) (b : Int) : rowsM (M ++ [x]) b = rowsM M b ++ if hGone b x.pts = [] then [] else [(x.nm, hGone b x.pts)] := by
  unfold rowsM
  rw [List.filter_append, List.map_append]
  congr 1
  by_cases h : hGone b x.pts = []
  · simp [h]
  · simp [h]
theorem left_gone {b : Int} {l : List (Int × Int)} (h : hGone b l = []) : hLeft b l = l := by
  have := List.takeWhile_append_dropWhile (p := fun p : Int × Int => decide (p.1 < b)) (l := l)
  unfold hGone at h
  rw [h] at this
  exact this
theorem rows_end (L : List HLn) (b : Int) : rowsM (L.filter fun x => decide (x.pts ≠ [])) b = hCutR (absL L) b := by
  unfold rowsM hCutR absL
  rw [List.filter_filter, List.filter_map, List.map_map]
  congr 1
  apply List.filter_congr
  intro x _
  simp only [Function.comp]
  by_cases h : x.pts = []
  · simp [h, hGone]
  · simp [h]
theorem cut_end (L : List HLn) (b : Int) : cutA (absL L) ((L.filter fun x => decide (x.pts ≠ [])).map (·.nm)) b = hCut (absL L) b := by
  unfold cutA hCut absL
  rw [List.map_map, List.map_map]
  apply List.map_congr_left
  intro x hx
  simp only [Function.comp]
  by_cases h : x.pts = []
  · split
    · rfl
    · rw [h]; rfl
  · rw [if_pos (List.mem_map.2 ⟨x, List.mem_filter.2 ⟨hx, by simpa using h⟩, rfl⟩)]
theorem absL_turn0 (L : List HLn) (s : Bs) (v : Value) (pts : List (Int × Int)) (last : Int) : absL (turnL L s v pts last) = (absL L).map fun y => if y.1 == s then (y.1, pts, last) else y := by
  unfold absL turnL
  rw [List.map_map, List.map_map]
  apply List.map_congr_left
  intro y _
  simp only [Function.comp]
  split <;> rfl
theorem abs_inj {L : List HLn} (h : hSrt (absL L)) {x : HLn} (hx : x ∈ L) {y : HA} (hy : y ∈ absL L) (e : y.1 = x.nm) : y = (x.nm, x.pts, x.last) := by
  obtain ⟨z, hz, rfl⟩ := List.mem_map.1 hy
  obtain rfl := srt_inj h hz hx e
  rfl
/-- One line more is cut. -/
theorem cutA_turn {L L2 : List HLn} {x : HLn} {ns : List Bs} {b : Int} (h : hSrt (absL L)) (hx : x ∈ L) (he : absL L2 = cutA (absL L) ns b) (v : Value) :
    absL (turnL L2 x.nm v (hLeft b x.pts) x.last) = cutA (absL L) (ns ++ [x.nm]) b := by
  rw [absL_turn0, he]
  unfold cutA
  rw [List.map_map]
  apply List.map_congr_left
  intro y hy
  simp only [Function.comp]
  by_cases e : y.1 = x.nm
  · have ey := abs_inj h hx hy e
    rw [ey]
    simp
    split <;> simp
  · have e2 : ∀ z : HA, z.1 = y.1 → (if z.1 == x.nm then (z.1, hLeft b x.pts, x.last) else z) = z := fun z hz => by rw [if_neg (by rw [hz]; simpa using e)]
    by_cases hm : y.1 ∈ ns
    · have m1 : y.1 ∈ ns ++ [x.nm] := List.mem_append_left _ hm
      have e3 : (if y.1 ∈ ns then (y.1, hLeft b y.2.1, y.2.2) else y) = (y.1, hLeft b y.2.1, y.2.2) := if_pos hm
      rw [e3, if_pos m1]
      exact e2 _ rfl
    · have m1 : ¬ y.1 ∈ ns ++ [x.nm] := by simp [hm, e]
      have e3 : (if y.1 ∈ ns then (y.1, hLeft b y.2.1, y.2.2) else y) = y := if_neg hm
      rw [e3, if_neg m1]
      exact e2 _ rfl
theorem cutA_keep {L : List HLn} {x : HLn} {ns : List Bs} {b : Int} (h : hSrt (absL L)) (hx : x ∈ L) (hg : hGone b x.pts = []) : cutA (absL L) (ns ++ [x.nm]) b = cutA (absL L) ns b := by
  unfold cutA
  apply List.map_congr_left
  intro y hy
  by_cases e : y.1 = x.nm
  · have ey := abs_inj h hx hy e
    rw [ey]
    simp [left_gone hg]
  · by_cases hm : y.1 ∈ ns
    · rw [if_pos hm, if_pos (by simp [hm])]
    · rw [if_neg hm, if_neg (by simp [hm, e])]
/-- The line as it lies now. -/
theorem line_now {L L2 : List HLn} {x : HLn} {ns : List Bs} {b : Int} (hx : x ∈ L) (he : absL L2 = cutA (absL L) ns b) (hn : x.nm ∉ ns) : ∃ y ∈ L2, y.nm = x.nm ∧ y.pts = x.pts ∧ y.last = x.last := by
  have : (x.nm, x.pts, x.last) ∈ absL L2 := by
    rw [he]
    unfold cutA
    refine List.mem_map.2 ⟨(x.nm, x.pts, x.last), List.mem_map.2 ⟨x, hx, rfl⟩, ?_⟩
    rw [if_neg hn]
  obtain ⟨y, hy, e⟩ := List.mem_map.1 this
  injection e with e1 e2
  injection e2 with e2 e3
  exact ⟨y, hy, e1, e2, e3⟩
/-- Rows in memory. -/
structure RwV where
  nm : Bs
  v : Value
  pts : List (Int × Int)
def rwC (R : List RwV) : List Value := R.flatMap fun r => [.string (B8 r.nm), r.v]
def rwA (R : List RwV) : List (Bs × List (Int × Int)) := R.map fun r => (r.nm, r.pts)
def RowsAt (w : World) (base : Nat) (v : Value) (R : List RwV) : Prop := w.ownsRow base 54 2 v R.length (rwC R) ∧ ∀ r ∈ R, w.ownsRow base 32 2 r.v r.pts.length (ptsC r.pts)
theorem infoRw : (Tryz.prog.info? 54).map (fun i => (i.zero, i.size, i.bytes)) = some (some (.agg #[.string ⟨#[]⟩, .slice none 0 0]), 2, 40) := by kernel_rfl
theorem rwC_len (R : List RwV) : (rwC R).length = R.length * 2 := flat_len (fun r : RwV => [Value.string (B8 r.nm), r.v]) 2 (fun _ => rfl) R
theorem rwC_snoc (R : List RwV) (r : RwV) : rwC (R ++ [r]) = rwC R ++ [.string (B8 r.nm), r.v] := by simp [rwC]
end Go.Proofs.YtfnjgminbjopeaaGreatDoor
