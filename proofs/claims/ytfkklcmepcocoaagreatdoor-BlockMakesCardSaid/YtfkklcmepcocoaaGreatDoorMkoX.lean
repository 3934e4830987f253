/- block.head by its contract. -/
import Derived.Test.YtfkklcmepcocoaaGreatDoorMklX
import Derived.Test.YtfkklcmepcocoaaGreatDoorBlkMakeQX
import Derived.Test.YtfkklcmepcocoaaGreatDoorMkkX
import Derived.Test.YtfkklcmepcocoaaGreatDoorMkhX
namespace Go.Proofs.YtfkklcmepcocoaaGreatDoor
open Go.RowKit
set_option linter.unusedVariables false

/-- The word block. -/
def wBlk : Bs := [98, 108, 111, 99, 107]
/-- The three numbers of a block's first line, if it is one. -/
def hedB (s : Bs) : Option (Int × Int × Int) := match pcs 32 s with
  | [a, b, c, d] => if a = wBlk then match numB b, numB c, numB d with
    | some x, some y, some z => some (x, y, z)
    | _, _, _ => none
    else none
  | _ => none
theorem hedB_four {s a b c d : Bs} (h : pcs 32 s = [a, b, c, d]) (ha : a = wBlk) : hedB s = match numB b, numB c, numB d with
    | some x, some y, some z => some (x, y, z)
    | _, _, _ => none := by unfold hedB; rw [h]; simp only; rw [if_pos ha]
theorem hedB_word {s a b c d : Bs} (h : pcs 32 s = [a, b, c, d]) (ha : a ≠ wBlk) : hedB s = none := by unfold hedB; rw [h]; simp only; rw [if_neg ha]
theorem hedB_len {s : Bs} (h : (pcs 32 s).length ≠ 4) : hedB s = none := by
  unfold hedB
  split
  · rename_i h4; rw [h4] at h; exact absurd rfl h
  · rfl
def HdPost (s : Bs) (w : World) (e : Ending) (w' : World) : Prop := ∃ (f sp m : Int) (ok : Bool),
  e = .returned (.tuple #[.agg #[.int .i64 f, .int .i64 sp, .slice none 0 0, .slice none 0 0], .int .i64 m, .bool ok]) ∧ (ok = true → hedB s = some (f, sp, m)) ∧ (ok = false → hedB s = none) ∧ (i64B f ∧ i64B sp ∧ i64B m) ∧ Below w.heap.size w w'
theorem res_hd (tmps : Array Value) (W : World) (b : Nat) (v0 v1 v2 v3 x y : Value) (ha : tmps.getD 2 undef = .pointer (some ⟨b, 0, none⟩)) (hx : tmps.getD 3 undef = x) (hy : tmps.getD 4 undef = y) (hB : Blk W b 27 #[v0, v1, v2, v3]) :
    (results Tryz.f70 tmps).run Tryz.prog W = .ok (.tuple #[.agg #[v0, v1, v2, v3], x, y]) W := by
  have z0 := hB.cell 0; have z1 := hB.cell 1; have z2 := hB.cell 2; have z3 := hB.cell 3
  simp only [List.getElem?_toArray, List.getElem?_cons_zero, List.getElem?_cons_succ] at z0 z1 z2 z3
  simp only [Array.getD_eq_getD_getElem?] at ha hx hy
  simp [results, Tryz.results70, go_sem, ha, hx, hy, z0, z1, z2, z3]
theorem HdPost.no {s : Bs} {w w' : World} (h : hedB s = none) (hb : Below w.heap.size w w') : HdPost s w (.returned (.tuple #[.agg #[.int .i64 0, .int .i64 0, .slice none 0 0, .slice none 0 0], .int .i64 0, .bool false])) w' :=
  ⟨0, 0, 0, false, rfl, fun h => (by cases h), fun _ => h, ⟨by unfold i64B; omega, by unfold i64B; omega, by unfold i64B; omega⟩, hb⟩
theorem head_ok {s a b c d : Bs} (h : pcs 32 s = [a, b, c, d]) (ha : a = wBlk) {f sp m : Int} {x y z : Bool}
    (hx : (x = true → numB b = some f) ∧ (x = false → numB b = none)) (hy : (y = true → numB c = some sp) ∧ (y = false → numB c = none)) (hz : (z = true → numB d = some m) ∧ (z = false → numB d = none)) :
    ((x && y && z) = true → hedB s = some (f, sp, m)) ∧ ((x && y && z) = false → hedB s = none) := by
  rw [hedB_four h ha]
  cases x with
  | false => rw [hx.2 rfl]; exact ⟨fun h => (by cases h), fun _ => rfl⟩
  | true =>
    rw [hx.1 rfl]
    cases y with
    | false => rw [hy.2 rfl]; exact ⟨fun h => (by cases h), fun _ => rfl⟩
    | true =>
      rw [hy.1 rfl]
      cases z with
      | false => rw [hz.2 rfl]; exact ⟨fun h => (by cases h), fun _ => rfl⟩
      | true => rw [hz.1 rfl]; exact ⟨fun _ => rfl, fun h => (by cases h)⟩
set_option maxRecDepth 100000 in
set_option maxHeartbeats 4000000 in
theorem bhead_any {es : Nat → Addr} {B : Nat} (s : Bs) (hl : s.length ≤ 100000) (w : World) (hW : WalW es B w) (hB : B ≤ w.heap.size) (hm : MaxAt w) (hmB : 12 < B) :
    Calls Tryz.prog 70 #[.string (B8 s)] w fun e w' => HdPost s w e w' := by
  have Hsp := Lib.hid (fun W (hb : Below w.heap.size w W) => spl_any 32 s (by omega) W (hm.below hb (Nat.lt_of_lt_of_le hmB hB)))
  have Hnm := Lib.hid (fun W (hb : Below w.heap.size w W) (p : Bs) (hp : p.length ≤ 100000) => number_any p hp W (hW.below hb hB) (Nat.le_trans hB hb.size))
  have Hml := Lib.hid (fun p (hp : p ∈ pcs 32 s) => Nat.le_trans (pcs_mem 32 s p hp) hl)
  have HB1 := Lib.hid (Below.alloc (Below.refl w.heap.size w) (Nat.le_refl _) (.cells #[.int .i64 0, .int .i64 0, .slice none 0 0, .slice none 0 0] 27))
  have HK1 := Lib.hid (Blk.new w 27 #[.int .i64 0, .int .i64 0, .slice none 0 0, .slice none 0 0])
  obtain ⟨n, hn⟩ : ∃ n, n = (pcs 32 s).length := ⟨_, rfl⟩
  rw [← hn] at Hsp
  have Hn := Lib.hid hn
  generalize hst : B8 s = st at Hsp ⊢
  clear hW hB hm hmB hn hst
  go_enter Tryz.func70, Tryz.ntmps70
  go_wp2_with fail
  refine (Hsp.out _ HB1.out).mono ?_
  rintro e w2 ⟨b, rfl, hk, hlt, hb⟩
  have HB2 := Lib.hid (Below.call HB1.out hb HB1.out.size)
  have HK2 := Lib.hid (HK1.out.below hb HK1.out.lt)
  have HP := Lib.hid hk
  clear hk hb hlt
  by_cases h4 : n = 4
  case neg =>
    have h4' : ((n : Int) == 4) = false := by rw [beq_eq_false_iff_ne]; omega
    have h4i : ¬ (n : Int) = 4 := by omega
    have h4n : ¬ n = 4 := h4
    have Hr := Lib.hid (hedB_len (s := s) (by rw [← Hn.out]; exact h4))
    obtain ⟨⟨z0, z1, z2, z3⟩, ⟨r0, r1, r2, r3⟩⟩ := cells4 HK2.out
    clear h4
    go_wp2
    refine bodyPost_ret (res_hd _ _ w.heap.size _ _ _ _ _ _ rfl rfl rfl (set4 (Nat.le_refl _) HB2.out HK2.out _ _ _ _).1) rfl ?_
    exact HdPost.no Hr.out (set4 (Nat.le_refl _) HB2.out HK2.out _ _ _ _).2
  subst h4
  have hq : ∃ p0 p1 p2 p3, pcs 32 s = [p0, p1, p2, p3] := by
    have h := Hn.out
    match hc : pcs 32 s, h with
    | [a, b, c, d], _ => exact ⟨a, b, c, d, rfl⟩
  obtain ⟨p0, p1, p2, p3, hq⟩ := hq
  have m0 := Hml.out p0 (by rw [hq]; simp)
  have m1 := Hml.out p1 (by rw [hq]; simp)
  have m2 := Hml.out p2 (by rw [hq]; simp)
  have m3 := Hml.out p3 (by rw [hq]; simp)
  have hPx := HP.out
  rw [hq] at hPx
  have HPx := Lib.hid (show Blk w2 b 9 #[.string (B8 p0), .string (B8 p1), .string (B8 p2), .string (B8 p3)] from hPx)
  have Hq := Lib.hid hq
  have N1 := Lib.hid (fun W hb => Hnm.out W hb p1 m1)
  have N2 := Lib.hid (fun W hb => Hnm.out W hb p2 m2)
  have N3 := Lib.hid (fun W hb => Hnm.out W hb p3 m3)
  have Hst := Lib.hid (B8_toList p0)
  generalize hs0 : B8 p0 = s0 at HPx Hst
  generalize hs1 : B8 p1 = s1 at HPx N1
  generalize hs2 : B8 p2 = s2 at HPx N2
  generalize hs3 : B8 p3 = s3 at HPx N3
  clear hPx hq m0 m1 m2 m3 HP Hml Hnm hs0 hs1 hs2 hs3
  have x0 := HPx.out.cell 0
  simp only [List.getElem?_toArray, List.getElem?_cons_zero] at x0
  by_cases hw : p0 = wBlk
  case neg =>
    have e1 : (s0.toList == [98, 108, 111, 99, 107]) = false := by rw [Hst.out, beq_eq_false_iff_ne]; exact hw
    have Hr := Lib.hid (hedB_word Hq.out hw)
    obtain ⟨⟨z0, z1, z2, z3⟩, ⟨r0, r1, r2, r3⟩⟩ := cells4 HK2.out
    clear hw
    go_wp2
    refine bodyPost_ret (res_hd _ _ w.heap.size _ _ _ _ _ _ rfl rfl rfl (set4 (Nat.le_refl _) HB2.out HK2.out _ _ _ _).1) rfl ?_
    exact HdPost.no Hr.out (set4 (Nat.le_refl _) HB2.out HK2.out _ _ _ _).2
  have e1 : (s0.toList == [98, 108, 111, 99, 107]) = true := by rw [Hst.out, beq_iff_eq]; exact hw
  have Hw := Lib.hid hw
  have x1 := HPx.out.cell 1
  simp only [List.getElem?_toArray, List.getElem?_cons_zero, List.getElem?_cons_succ] at x1
  clear hw
  go_wp2_with fail
  refine (N1.out _ HB2.out).mono ?_
  rintro e w3 ⟨v1, o1, rfl, y1, n1, i1, hb⟩
  have HB3 := Lib.hid (Below.call HB2.out hb HB2.out.size)
  have HK3 := Lib.hid (HK2.out.below hb HK2.out.lt)
  have HP3 := Lib.hid (HPx.out.below hb HPx.out.lt)
  have Y1 := Lib.hid (And.intro y1 n1); have I1 := Lib.hid i1
  clear hb x0 x1 y1 n1 i1
  have x2 := HP3.out.cell 2
  simp only [List.getElem?_toArray, List.getElem?_cons_zero, List.getElem?_cons_succ] at x2
  go_wp2_with fail
  refine (N2.out _ HB3.out).mono ?_
  rintro e w4 ⟨v2, o2, rfl, y2, n2, i2, hb⟩
  have HB4 := Lib.hid (Below.call HB3.out hb HB3.out.size)
  have HK4 := Lib.hid (HK3.out.below hb HK3.out.lt)
  have HP4 := Lib.hid (HP3.out.below hb HP3.out.lt)
  have Y2 := Lib.hid (And.intro y2 n2); have I2 := Lib.hid i2
  clear hb x2 y2 n2 i2
  have x3 := HP4.out.cell 3
  simp only [List.getElem?_toArray, List.getElem?_cons_zero, List.getElem?_cons_succ] at x3
  go_wp2_with fail
  refine (N3.out _ HB4.out).mono ?_
  rintro e w5 ⟨v3, o3, rfl, y3, n3, i3, hb⟩
  have HB5 := Lib.hid (Below.call HB4.out hb HB4.out.size)
  have HK5 := Lib.hid (HK4.out.below hb HK4.out.lt)
  have Hok := Lib.hid (head_ok Hq.out Hw.out Y1.out Y2.out ⟨y3, n3⟩)
  have I3 := Lib.hid i3
  clear hb x3 y3 n3 i3
  obtain ⟨⟨z0, z1, z2, z3⟩, ⟨r0, r1, r2, r3⟩⟩ := cells4 HK5.out
  have Hfin := Lib.hid (fun (k : Bool) (hk : (o1 && o2 && o3) = k) => (⟨v1, v2, v3, k, rfl, fun h => Hok.out.1 (hk.trans h), fun h => Hok.out.2 (hk.trans h), ⟨I1.out, I2.out, I3.out⟩, (set4 (Nat.le_refl _) HB5.out HK5.out (.int .i64 v1) (.int .i64 v2) (.slice none 0 0) (.slice none 0 0)).2⟩ : HdPost s w (.returned (.tuple #[.agg #[.int .i64 v1, .int .i64 v2, .slice none 0 0, .slice none 0 0], .int .i64 v3, .bool k])) _))
  cases o1 <;> cases o2 <;> cases o3
  all_goals
    go_wp2
    refine bodyPost_ret (res_hd _ _ w.heap.size _ _ _ _ _ _ rfl rfl rfl (set4 (Nat.le_refl _) HB5.out HK5.out _ _ _ _).1) rfl ?_
    exact Hfin.out _ rfl
end Go.Proofs.YtfkklcmepcocoaaGreatDoor

namespace Go.Proofs.YtfkklcmepcocoaaGreatDoor
open Go.RowKit
set_option linter.unusedVariables false

/-- A line: a name and bytes. -/
def lineR (t : Bs) : Option (Bs × List Nat) := match cutG 32 t with
  | none => none
  | some q => (unhexB q.2).map fun o => (q.1, o.map UInt8.toNat)
def linesR : List Bs → Option (List (Bs × List Nat))
  | [] => some []
  | t :: r => match lineR t with
    | none => none
    | some x => (linesR r).map (x :: ·)
theorem linesR_cons (t : Bs) (r : List Bs) : linesR (t :: r) = match lineR t with
    | none => none
    | some x => (linesR r).map (x :: ·) := rfl
theorem linesR_snoc {l : List Bs} {t : Bs} {x : Bs × List Nat} (hx : lineR t = some x) : ∀ {K : List (Bs × List Nat)}, linesR l = some K → linesR (l ++ [t]) = some (K ++ [x]) := by
  induction l with
  | nil =>
    intro K h
    have : K = [] := by have := h; simp only [linesR] at this; injection this with this; exact this.symm
    subst this
    show linesR [t] = _
    rw [linesR_cons, hx]; rfl
  | cons a l ih =>
    intro K h
    rw [List.cons_append, linesR_cons]
    rw [linesR_cons] at h
    cases ha : lineR a with
    | none => rw [ha] at h; cases h
    | some y =>
      rw [ha] at h
      cases hl : linesR l with
      | none => simp only [hl] at h; cases h
      | some L =>
        simp only [hl, Option.map_some] at h
        injection h with h
        subst h
        simp only [ih hl, Option.map_some]
        rfl
theorem linesR_bad {t : Bs} (hx : lineR t = none) (r : List Bs) : ∀ l : List Bs, linesR (l ++ t :: r) = none
  | [] => by show linesR (t :: r) = none; rw [linesR_cons, hx]
  | a :: l => by
    rw [List.cons_append, linesR_cons]
    cases lineR a with
    | none => rfl
    | some y => simp only [linesR_bad hx r l]; rfl
theorem linesR_stop {l : List Bs} {k : Nat} {t : Bs} (ht : l[k]? = some t) (hx : lineR t = none) : linesR l = none := by
  obtain ⟨h, rfl⟩ := List.getElem?_eq_some_iff.1 ht
  rw [← List.take_append_drop k l, List.drop_eq_getElem_cons h]
  exact linesR_bad hx _ _
theorem unhexB_len : ∀ (k : Nat) (s o : Bs), s.length ≤ k → unhexB s = some o → o.length ≤ s.length
  | 0, s, o, hk, h => by
    have : s = [] := List.eq_nil_of_length_eq_zero (by omega)
    subst this
    rw [unhexB] at h
    injection h with h; subst h; exact Nat.le_refl _
  | k + 1, [], o, hk, h => by rw [unhexB] at h; injection h with h; subst h; exact Nat.le_refl _
  | k + 1, [_], o, hk, h => by rw [unhexB] at h; cases h
  | k + 1, a :: b :: r, o, hk, h => by
    rw [unhex_two] at h
    cases hx : hexV a with
    | none => simp only [hx] at h; cases h
    | some x =>
      cases hy : hexV b with
      | none => simp only [hx, hy] at h; cases h
      | some y =>
        simp only [hx, hy] at h
        cases hr : unhexB r with
        | none => simp only [hr] at h; cases h
        | some p =>
          simp only [hr, Option.map_some] at h
          injection h with h
          subst h
          have := unhexB_len k r p (by simp at hk; omega) hr
          simp; omega
theorem bytesOf_nat (o : Bs) : bytesOf (o.map UInt8.toNat) = B8 o := by
  unfold bytesOf
  rw [List.map_map]
  congr 1
  conv => rhs; rw [← List.map_id o]
  apply List.map_congr_left
  intro c _
  simp
theorem lineR_lim {t : Bs} {x : Bs × List Nat} (h : lineR t = some x) : x.1.length ≤ t.length ∧ x.2.length ≤ t.length ∧ ∀ b ∈ x.2, b < 256 := by
  unfold lineR at h
  cases hc : cutG 32 t with
  | none => rw [hc] at h; cases h
  | some q =>
    rw [hc] at h
    simp only at h
    cases hu : unhexB q.2 with
    | none => rw [hu] at h; cases h
    | some o =>
      rw [hu] at h
      injection h with h
      subst h
      have hl := (cutG_some hc).1
      have : t.length = q.1.length + (q.2.length + 1) := by rw [hl, List.length_append, List.length_cons]
      have h2 := unhexB_len _ _ _ (Nat.le_refl _) hu
      refine ⟨by simp only; omega, by simp only [List.length_map]; omega, fun b hb => ?_⟩
      obtain ⟨c, _, rfl⟩ := List.mem_map.1 hb
      exact c.toNat_lt
theorem linesR_lim {m : Nat} : ∀ {l : List Bs} {K : List (Bs × List Nat)}, (∀ t ∈ l, t.length ≤ m) → linesR l = some K → ∀ x ∈ K, x.1.length ≤ m ∧ x.2.length ≤ m ∧ ∀ b ∈ x.2, b < 256
  | [], K, _, h, x, hx => by
    simp only [linesR] at h
    injection h with h
    subst h
    cases hx
  | t :: l, K, ht, h, x, hx => by
    rw [linesR_cons] at h
    cases hl : lineR t with
    | none => simp only [hl] at h; cases h
    | some y =>
      simp only [hl] at h
      cases hr : linesR l with
      | none => simp only [hr] at h; cases h
      | some L =>
        simp only [hr, Option.map_some] at h
        injection h with h
        subst h
        rcases List.mem_cons.1 hx with rfl | hx
        · have := lineR_lim hl
          have h1 := ht t List.mem_cons_self
          exact ⟨Nat.le_trans this.1 h1, Nat.le_trans this.2.1 h1, this.2.2⟩
        · exact linesR_lim (fun t h => ht t (List.mem_cons_of_mem _ h)) hr x hx
/-- The lines between the first and the last. -/
def midR (s : Bs) : List Bs := ((pcs 10 s).drop 1).dropLast
theorem midR_len (s : Bs) : (midR s).length = (pcs 10 s).length - 2 := by
  unfold midR; rw [List.length_dropLast, List.length_drop]; omega
theorem midR_at {s : Bs} {k : Nat} (h : k < (midR s).length) : (midR s)[k]? = (pcs 10 s)[k + 1]? := by
  rw [midR_len] at h
  unfold midR
  rw [List.getElem?_dropLast, List.getElem?_drop, List.length_drop, if_pos (by omega), Nat.add_comm]
theorem midR_mem {s : Bs} : ∀ t ∈ midR s, t.length ≤ s.length := fun t h => pcs_mem 10 s t (List.mem_of_mem_drop (List.dropLast_subset _ h))
abbrev RdB := (Nat × Int) × (Int × Int) × List (Bs × List Nat)
/-- What block.Read answers: what is wrong; the block. -/
def readB (s : Bs) : RdB :=
  if 20000 < s.length then ((2, -1), (0, 0), []) else match hedB ((pcs 10 s).headD []) with
  | none => ((1, -1), (0, 0), [])
  | some (f, sp, m) =>
    if (pcs 10 s).getLast? = some [] ∧ ((pcs 10 s).length : Int) - 2 = m then match linesR (midR s) with
      | none => ((1, -1), (0, 0), [])
      | some L => if (rowsR f sp (L.map Prod.fst) (L.map Prod.snd)).1.1 = 0 then ((0, -1), (f, sp), L) else ((rowsR f sp (L.map Prod.fst) (L.map Prod.snd)).1, (0, 0), [])
    else ((1, -1), (0, 0), [])
theorem readB_long {s : Bs} (h : 20000 < s.length) : readB s = ((2, -1), (0, 0), []) := by unfold readB; rw [if_pos h]
theorem readB_head {s : Bs} (h : ¬ 20000 < s.length) (h1 : hedB ((pcs 10 s).headD []) = none) : readB s = ((1, -1), (0, 0), []) := by unfold readB; rw [if_neg h, h1]
theorem readB_ends {s : Bs} {f sp m : Int} (h : ¬ 20000 < s.length) (h1 : hedB ((pcs 10 s).headD []) = some (f, sp, m)) (h2 : ¬ ((pcs 10 s).getLast? = some [] ∧ ((pcs 10 s).length : Int) - 2 = m)) : readB s = ((1, -1), (0, 0), []) := by
  unfold readB; rw [if_neg h, h1]; simp only; rw [if_neg h2]
theorem readB_lines {s : Bs} {f sp m : Int} (h : ¬ 20000 < s.length) (h1 : hedB ((pcs 10 s).headD []) = some (f, sp, m)) (h2 : (pcs 10 s).getLast? = some [] ∧ ((pcs 10 s).length : Int) - 2 = m) (h3 : linesR (midR s) = none) : readB s = ((1, -1), (0, 0), []) := by
  unfold readB; rw [if_neg h, h1]; simp only; rw [if_pos h2, h3]
theorem readB_bad {s : Bs} {f sp m : Int} {L : List (Bs × List Nat)} (h : ¬ 20000 < s.length) (h1 : hedB ((pcs 10 s).headD []) = some (f, sp, m)) (h2 : (pcs 10 s).getLast? = some [] ∧ ((pcs 10 s).length : Int) - 2 = m) (h3 : linesR (midR s) = some L)
    (h4 : (rowsR f sp (L.map Prod.fst) (L.map Prod.snd)).1.1 ≠ 0) : readB s = ((rowsR f sp (L.map Prod.fst) (L.map Prod.snd)).1, (0, 0), []) := by
  unfold readB; rw [if_neg h, h1]; simp only; rw [if_pos h2, h3]; simp only; rw [if_neg h4]
theorem readB_ok {s : Bs} {f sp m : Int} {L : List (Bs × List Nat)} (h : ¬ 20000 < s.length) (h1 : hedB ((pcs 10 s).headD []) = some (f, sp, m)) (h2 : (pcs 10 s).getLast? = some [] ∧ ((pcs 10 s).length : Int) - 2 = m) (h3 : linesR (midR s) = some L)
    (h4 : (rowsR f sp (L.map Prod.fst) (L.map Prod.snd)).1.1 = 0) : readB s = ((0, -1), (f, sp), L) := by
  unfold readB; rw [if_neg h, h1]; simp only; rw [if_pos h2, h3]; simp only; rw [if_pos h4]
theorem hedB_nil : hedB [] = none := by decide
/-- A text with a first line that is right, and nothing behind its last end, has two pieces at least. -/
theorem two_of {s : Bs} {x : Int × Int × Int} (h1 : hedB ((pcs 10 s).headD []) = some x) (h2 : (pcs 10 s).getLast? = some []) : 2 ≤ (pcs 10 s).length := by
  match hp : pcs 10 s with
  | [] => exact absurd hp (pcs_ne 10 s)
  | [a] =>
    rw [hp] at h1 h2
    simp at h2
    subst h2
    rw [show [([] : Bs)].headD [] = [] from rfl, hedB_nil] at h1
    cases h1
  | a :: b :: l => simp
/-- What stands between two appends: the block, the result, the two slices, the pieces. -/
structure MR (w W : World) (q H b : Nat) (cs4 : Array Value) (pc : Array Value) (v1 : Value) (n1 : Nat) (xs1 : List Value) (v2 : Value) (n2 : Nat) (xs2 : List Value) : Prop where
  hd : Blk W H 27 cs4
  zb : Blk W q 27 #[.int .i64 0, .int .i64 0, .slice none 0 0, .slice none 0 0]
  pr : Pair W w.heap.size 9 v1 n1 xs1 v2 n2 xs2
  pb : Blk W b 9 pc
  p1 : ∀ k, v1.ownBlock = some k → k ≠ b
  p2 : ∀ k, v2.ownBlock = some k → k ≠ b
  bl : Below w.heap.size w W
section
variable {w W wa : World} {q H b n1 n2 m : Nat} {cs4 pc : Array Value} {v1 v2 v' : Value} {xs1 xs2 ys : List Value}
theorem MR.alloc (h : MR w W q H b cs4 pc v1 n1 xs1 v2 n2 xs2) (o : Obj) : MR w (W.alloc o) q H b cs4 pc v1 n1 xs1 v2 n2 xs2 :=
  ⟨h.hd.alloc o, h.zb.alloc o, h.pr.fr ((Fr.refl _ W).alloc o), h.pb.alloc o, h.p1, h.p2, Below.alloc h.bl h.bl.size o⟩
theorem MR.drew (h : MR w W q H b cs4 pc v1 n1 xs1 v2 n2 xs2) : MR w W.drew q H b cs4 pc v1 n1 xs1 v2 n2 xs2 :=
  ⟨h.hd, h.zb, h.pr.fr (Fr.refl _ W).drew, h.pb, h.p1, h.p2, h.bl.drew⟩
theorem MR.below (h : MR w W q H b cs4 pc v1 n1 xs1 v2 n2 xs2) {W' : World} (hb : Below W.heap.size W W') : MR w W' q H b cs4 pc v1 n1 xs1 v2 n2 xs2 :=
  ⟨h.hd.below hb h.hd.lt, h.zb.below hb h.zb.lt, h.pr.fr (Fr.ofBel hb), h.pb.below hb h.pb.lt, h.p1, h.p2, Below.call h.bl hb h.bl.size⟩
theorem MR.left (h : MR w W q H b cs4 pc v1 n1 xs1 v2 n2 xs2) (ho : wa.ownsRow w.heap.size 9 1 v' m ys) (hg : W.grownBy wa v1.ownBlock) (hat : v'.ownBlock = v1.ownBlock ∨ v'.ownBlock = some W.heap.size) : MR w wa q H b cs4 pc v' m ys v2 n2 xs2 :=
  ⟨h.hd.grown hg (own_ne_blk h.pr.l h.hd (by decide)), h.zb.grown hg (own_ne_blk h.pr.l h.zb (by decide)), h.pr.left (Fr.refl _ _) hg ho hat, h.pb.grown hg (fun e => h.p1 b e.symm rfl),
    fun k hk e => by
      rcases hat with h1 | h1
      · rw [h1] at hk; exact h.p1 k hk e
      · rw [h1] at hk; injection hk with hk; have := h.pb.lt; omega,
    h.p2, Below.grown h.bl hg h.bl.size (fun g e => (own_lt h.pr.l g e).1)⟩
theorem MR.right (h : MR w W q H b cs4 pc v1 n1 xs1 v2 n2 xs2) (ho : wa.ownsRow w.heap.size 9 1 v' m ys) (hg : W.grownBy wa v2.ownBlock) (hat : v'.ownBlock = v2.ownBlock ∨ v'.ownBlock = some W.heap.size) : MR w wa q H b cs4 pc v1 n1 xs1 v' m ys :=
  ⟨h.hd.grown hg (own_ne_blk h.pr.r h.hd (by decide)), h.zb.grown hg (own_ne_blk h.pr.r h.zb (by decide)), h.pr.right (Fr.refl _ _) hg ho hat, h.pb.grown hg (fun e => h.p2 b e.symm rfl), h.p1,
    fun k hk e => by
      rcases hat with h1 | h1
      · rw [h1] at hk; exact h.p2 k hk e
      · rw [h1] at hk; injection hk with hk; have := h.pb.lt; omega,
    Below.grown h.bl hg h.bl.size (fun g e => (own_lt h.pr.r g e).1)⟩
/-- A block made behind stays behind an append onto the left slice. -/
theorem MR.far (h : MR w W q H b cs4 pc v1 n1 xs1 v2 n2 xs2) {W' : World} {g : Nat} {t : TypeId} {cs : Array Value} (hg : W.heap.size ≤ g) (hb : Blk W' g t cs) (hgr : W'.grownBy wa v1.ownBlock) : Blk wa g t cs :=
  hb.grown hgr (fun e => by have := (own_lt h.pr.l g e.symm).2; omega)
end
theorem MR.held {w W : World} {q H b n1 n2 : Nat} {u0 u1 v1 v2 y1 y2 : Value} {pc : Array Value} {xs1 xs2 : List Value} (h : MR w W q H b #[u0, u1, y1, y2] pc v1 n1 xs1 v2 n2 xs2) : W.cell? ⟨H, 2, none⟩ = some y1 ∧ W.cell? ⟨H, 3, none⟩ = some y2 :=
  ⟨h.hd.cell 2, h.hd.cell 3⟩
theorem MR.stored {w W : World} {q H b n1 n2 : Nat} {u0 u1 y1 y2 v1 v2 : Value} {pc : Array Value} {xs1 xs2 : List Value} (h : MR w W q H b #[u0, u1, y1, y2] pc v1 n1 xs1 v2 n2 xs2) (hq : q ≠ H) (hbH : b ≠ H) (hH : w.heap.size ≤ H) :
    MR w ((W.setCell ⟨H, 2, none⟩ v1).setCell ⟨H, 3, none⟩ v2) q H b #[u0, u1, v1, v2] pc v1 n1 xs1 v2 n2 xs2 :=
  ⟨(h.hd.set_ 2 v1).set_ 3 v2, (h.zb.far (p := ⟨H, 2, none⟩) hq v1).far (p := ⟨H, 3, none⟩) hq v2,
    (h.pr.set (p := ⟨H, 2, none⟩) (own_ne_blk h.pr.l h.hd (by decide)) (own_ne_blk h.pr.r h.hd (by decide)) v1).set (p := ⟨H, 3, none⟩) (own_ne_blk h.pr.l h.hd (by decide)) (own_ne_blk h.pr.r h.hd (by decide)) v2,
    (h.pb.far (p := ⟨H, 2, none⟩) hbH v1).far (p := ⟨H, 3, none⟩) hbH v2, h.p1, h.p2,
    Below.setCell (Below.setCell h.bl (p := ⟨H, 2, none⟩) hH v1) (p := ⟨H, 3, none⟩) hH v2⟩
def RdPost (es : Nat → Addr) (R : RdB) (w : World) (e : Ending) (w' : World) : Prop :=
  ∃ v u1 u2, e = .returned (.tuple #[.agg #[.int .i64 R.2.1.1, .int .i64 R.2.1.2, u1, u2], v]) ∧ EV es w.heap.size w' v R.1 ∧
    Pair w' w.heap.size 9 u1 R.2.2.length (txS R.2.2) u2 R.2.2.length (chS R.2.2) ∧ Below w.heap.size w w'
theorem RdPost.sent {es : Nat → Addr} {w w' : World} {e : Ending} {k : Nat} (hk : k < 11) (he : e = .returned (.tuple #[.agg #[.int .i64 0, .int .i64 0, .slice none 0 0, .slice none 0 0], sentV (es k)])) (hb : Below w.heap.size w w') : RdPost es ((k + 1, -1), (0, 0), []) w e w' :=
  ⟨_, _, _, he, .inr (.inl ⟨k, hk, rfl, rfl⟩), Pair.nil _ _ _, hb⟩
theorem EV.fr4b {es : Nat → Addr} {C f : Nat} {W : World} {u : Value} {c : Nat × Int} (h : EV es C W u c) (hf : f < C) (u0 u1 u2 u3 : Value) : EV es C ((((W.setCell ⟨f, 0, none⟩ u0).setCell ⟨f, 1, none⟩ u1).setCell ⟨f, 2, none⟩ u2).setCell ⟨f, 3, none⟩ u3) u c := by
  have hr : Fr (fun k => k = f) W ((((W.setCell ⟨f, 0, none⟩ u0).setCell ⟨f, 1, none⟩ u1).setCell ⟨f, 2, none⟩ u2).setCell ⟨f, 3, none⟩ u3) :=
    ((((Fr.refl (fun k => k = f) W).setCell (p := ⟨f, 0, none⟩) (.inr rfl) u0).setCell (p := ⟨f, 1, none⟩) (.inr rfl) u1).setCell (p := ⟨f, 2, none⟩) (.inr rfl) u2).setCell (p := ⟨f, 3, none⟩) (.inr rfl) u3
  rcases h with h | h | ⟨k, pb, t, h1, h2, h3, h4, h5, h6, h7⟩
  · exact .inl h
  · exact .inr (.inl h)
  · have hp := hr.block pb h5 (fun e => by omega)
    exact .inr (.inr ⟨k, pb, t, h1, h2, h3, h4, Nat.lt_of_lt_of_le h5 hr.size, (World.cell?_of_block (a := ⟨pb, 0, none⟩) hp).trans h6, (World.cell?_of_block (a := ⟨pb, 1, none⟩) hp).trans h7⟩)
theorem res_rb (tmps : Array Value) (W : World) (b : Nat) (v0 v1 v2 v3 ev : Value) (ha : tmps.getD 2 undef = .pointer (some ⟨b, 0, none⟩)) (hk : tmps.getD 3 undef = ev) (hB : Blk W b 27 #[v0, v1, v2, v3]) :
    (results Tryz.f36 tmps).run Tryz.prog W = .ok (.tuple #[.agg #[v0, v1, v2, v3], ev]) W := by
  have z0 := hB.cell 0; have z1 := hB.cell 1; have z2 := hB.cell 2; have z3 := hB.cell 3
  simp only [List.getElem?_toArray, List.getElem?_cons_zero, List.getElem?_cons_succ] at z0 z1 z2 z3
  simp only [Array.getD_eq_getD_getElem?] at ha hk
  simp [results, Tryz.results36, go_sem, ha, hk, z0, z1, z2, z3]
end Go.Proofs.YtfkklcmepcocoaaGreatDoor
