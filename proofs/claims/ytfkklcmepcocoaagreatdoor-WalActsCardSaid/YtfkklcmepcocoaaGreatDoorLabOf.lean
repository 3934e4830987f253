/- The reference's LabelsOf by its contract. -/
import Derived.Test.YtfkklcmepcocoaaGreatDoorLabF
namespace Go.Proofs.YtfkklcmepcocoaaGreatDoor
open Go.RowKit
set_option linter.unusedVariables false

/-- What LabelsOf answers. -/
def OPost (s : Bs) (w : World) (e : Ending) (w' : World) : Prop :=
  ∃ u l, e = .returned (.tuple #[u, fV (rdF s)]) ∧ w'.ownsRow w.heap.size 171 2 u l.length (lbC l) ∧ ((rdF s).1 = 0 → parseL s = some l) ∧ ((rdF s).1 ≠ 0 → l = []) ∧ Below w.heap.size w w'
theorem res_of (tmps : Array Value) (W : World) (b : Nat) (v v0 v1 : Value) (hv : tmps.getD 2 undef = v) (ha : tmps.getD 3 undef = .pointer (some ⟨b, 0, none⟩)) (hB : Blk W b 57 #[v0, v1]) :
    (results Tryz.f60 tmps).run Tryz.prog W = .ok (.tuple #[v, .agg #[v0, v1]]) W := by
  obtain ⟨z0, z1⟩ := hB.duo2
  simp only [Array.getD_eq_getD_getElem?] at ha hv
  simp [results, Tryz.results60, go_sem, ha, hv, z0, z1]
/-- Between two rounds. -/
def OInv (s : Bs) (n f : Nat) (w : World) (k : Nat) (o : Value) (v : Bool) (wr : World) : Prop :=
  ∃ (out : List Lb) (x : Lb), Blk wr f 57 #[.int .i64 0, .int .i64 0] ∧ Blk wr (f + 1) 171 #[.string (B8 x.1), .string (B8 x.2)] ∧ wr.ownsRow (f + 2) 171 2 o out.length (lbC out) ∧ Below w.heap.size w wr ∧
    ((k ≤ n ∧ RefSt (s.take k) out x v) ∨ (k = n + 1 ∧ parseL s = some out))

theorem OPost.none_ {s : Bs} {w w' : World} {e : Ending} (h : parseL s = none) (he : e = .returned (.tuple #[.slice none 0 0, .agg #[.int .i64 1, .int .i64 (-1)]])) (hb : Below w.heap.size w w') : OPost s w e w' := by
  have e1 := rdF_none h
  refine ⟨_, [], by rw [e1]; exact he, World.ownsRow_nil _ _ _ _, fun h => ?_, fun _ => rfl, hb⟩
  rw [e1] at h; cases h
theorem OPost.done {s : Bs} {w w' : World} {e : Ending} {l : List Lb} {u : Value} {c : Nat × Int} (h : parseL s = some l) (hc : c = lbF l) (h0 : c.1 = 0) (he : e = .returned (.tuple #[u, fV c])) (ho : w'.ownsRow w.heap.size 171 2 u l.length (lbC l)) (hb : Below w.heap.size w w') : OPost s w e w' := by
  have e1 := rdF_some h
  refine ⟨_, l, by rw [e1, ← hc]; exact he, ho, fun _ => h, fun h => ?_, hb⟩
  rw [e1, ← hc, h0] at h; exact absurd rfl h
theorem OPost.bad {s : Bs} {w w' : World} {e : Ending} {l : List Lb} {c : Nat × Int} (h : parseL s = some l) (hc : c = lbF l) (h0 : c.1 ≠ 0) (he : e = .returned (.tuple #[.slice none 0 0, fV c])) (hb : Below w.heap.size w w') : OPost s w e w' := by
  have e1 := rdF_some h
  refine ⟨_, [], by rw [e1, ← hc]; exact he, World.ownsRow_nil _ _ _ _, fun h => ?_, fun _ => rfl, hb⟩
  rw [e1, ← hc] at h; exact absurd h h0
theorem rd_new2 (W : World) (t : TypeId) (u0 u1 : Value) : Rd (W.alloc (.cells #[u0, u1] t)) (W.alloc (.cells #[u0, u1] t)).heap.size 2 (some ⟨W.heap.size, 0, none⟩) 1 [u0, u1] := by
  refine ⟨rfl, fun _ => ⟨W.heap.size, 0, rfl, by simp, fun j u hu => ?_⟩⟩
  rw [Nat.zero_add, (Blk.new W t #[u0, u1]).cell j]
  simpa using hu
theorem str2_one (s1 s2 : ByteArray) : ∀ u ∈ [Value.string s1, Value.string s2], u.oneCell' = true := by
  intro u hu; simp at hu; rcases hu with rfl | rfl <;> rfl
theorem OInv.pushed {s : Bs} {n f k : Nat} {w wr wa : World} {out : List Lb} {x : Lb} {o v' : Value} {o1 : Obj} (hfw : f = w.heap.size) (q0 : Blk wr f 57 #[.int .i64 0, .int .i64 0]) (q1 : Blk wr (f + 1) 171 #[.string (B8 x.1), .string (B8 x.2)]) (ho : wr.ownsRow (f + 2) 171 2 o out.length (lbC out)) (hb : Below w.heap.size w wr)
    (hgr : (wr.alloc o1).grownBy wa o.ownBlock) (hown' : wa.ownsRow (f + 2) 171 2 v' (out.length + 1) (lbC out ++ [.string (B8 x.1), .string (B8 x.2)]))
    (hst : (k ≤ n ∧ RefSt (s.take k) (out ++ [x]) ([], []) false) ∨ (k = n + 1 ∧ parseL s = some (out ++ [x]))) :
    Blk wa (f + 1) 171 #[.string (B8 x.1), .string (B8 x.2)] ∧ OInv s n f w k v' false ((wa.setCell ⟨f + 1, 0, none⟩ (.string ⟨#[]⟩)).setCell ⟨f + 1, 1, none⟩ (.string ⟨#[]⟩)) := by
  have hfz : Fr (fun k => f + 2 ≤ k) wr wa := ((Fr.refl _ wr).alloc _).grown hgr (fun k hk => .inr (own_lt ho k hk).1)
  have h1 : Blk wa (f + 1) 171 #[.string (B8 x.1), .string (B8 x.2)] := hfz.blk q1 (by omega)
  have h0 : Blk wa f 57 #[.int .i64 0, .int .i64 0] := hfz.blk q0 (by omega)
  refine ⟨h1, out ++ [x], ([], []), (h0.far (p := ⟨f + 1, 0, none⟩) (by simp) _).far (p := ⟨f + 1, 1, none⟩) (by simp) _, (h1.set_ 0 _).set_ 1 _, ?_, ?_, hst⟩
  · rw [lbC_snoc, List.length_append, List.length_singleton]
    have hne : some (f + 1) ≠ v'.ownBlock := fun e => by
      have h : f + 2 ≤ f + 1 := (own_lt hown' _ e.symm).1
      omega
    exact own_set (own_set hown' (p := ⟨f + 1, 0, none⟩) hne _) (p := ⟨f + 1, 1, none⟩) hne _
  · have hs := hb.size
    have h2 : Below w.heap.size w wa := hb.trans (hfz.below hs (fun k hk => by omega))
    exact (h2.setCell (p := ⟨f + 1, 0, none⟩) (by simp; omega) _).setCell (p := ⟨f + 1, 1, none⟩) (by simp; omega) _
theorem OInv.word {s : Bs} {n f k : Nat} {w wr : World} {out : List Lb} {x x' : Lb} {o : Value} {v v2 : Bool} (i : Nat) (u : Value) (hfw : f = w.heap.size) (q0 : Blk wr f 57 #[.int .i64 0, .int .i64 0]) (q1 : Blk wr (f + 1) 171 #[.string (B8 x.1), .string (B8 x.2)]) (ho : wr.ownsRow (f + 2) 171 2 o out.length (lbC out)) (hb : Below w.heap.size w wr)
    (hx : (#[Value.string (B8 x.1), .string (B8 x.2)]).setIfInBounds i u = #[.string (B8 x'.1), .string (B8 x'.2)]) (hk : k ≤ n) (hst : RefSt (s.take k) out x' v2) :
    OInv s n f w k o v2 (wr.setCell ⟨f + 1, i, none⟩ u).drew := by
  refine ⟨out, x', (q0.far (p := ⟨f + 1, i, none⟩) (by simp) _).drew, ?_, own_drew (own_set ho (p := ⟨f + 1, i, none⟩) (fun e => ?_) _), (hb.setCell (p := ⟨f + 1, i, none⟩) (by simp; omega) _).drew, .inl ⟨hk, hst⟩⟩
  · rw [← hx]; exact (q1.set_ i u).drew
  · have h : f + 2 ≤ f + 1 := (own_lt ho _ e.symm).1
    omega

set_option maxRecDepth 100000 in
set_option maxHeartbeats 8000000 in
theorem labelsOf_any (s : Bs) (hs : s.length ≤ 100000) (w : World) :
    Calls Tryz.prog 60 #[.string (B8 s)] w (OPost s w) := by
  obtain ⟨n, hn⟩ : ∃ n, n = s.length := ⟨_, rfl⟩
  have hsz : (B8 s).size = n := by rw [B8_size, hn]
  have Hat := Lib.hid (fun k (h : k < (B8 s).size) => B8_at s k h)
  have Hex := Lib.hid (fun k (h : k < n) => show (B8 s).extract k (k + 1) = B8 [s.getD k 0] from by
    rw [B8_extract]
    have hg : s[k]? = some (s.getD k 0) := by rw [List.getD_eq_getElem?_getD, List.getElem?_eq_getElem (by omega)]; rfl
    rw [take_snoc hg, List.drop_append, List.drop_of_length_le (by rw [List.length_take]; omega), List.length_take, show k - min k s.length = 0 by omega]; rfl)
  have Hn := Lib.hid hn
  have hn' : n ≤ 100000 := by omega
  obtain ⟨i0, hi, hz0, hz1, hz2⟩ := info_parts infoLb
  have Hi := Lib.hid hi; have Hz0 := Lib.hid hz0; have Hz1 := Lib.hid hz1; have Hz2 := Lib.hid hz2
  clear hn hs hi hz0 hz1 hz2
  generalize B8 s = st at hsz Hat Hex ⊢
  go_enter Tryz.func60, Tryz.ntmps60
  go_wp2
  go_loopw [4, 6, 7] (fun o vv iv wr => ∃ (k : Nat) (v : Bool), iv = .int .i64 k ∧ vv = .bool v ∧ OInv s n w.heap.size w k o v wr) (fun _ _ iv _ => n + 1 - (intOf iv).toNat)
  case atStart =>
    refine ⟨0, false, rfl, rfl, [], ([], []), (Blk.new w _ _).alloc _, ?_, World.ownsRow_nil _ _ _ _, by go_grown, .inl ⟨Nat.zero_le _, RefSt.start⟩⟩
    have h := Blk.new (w.alloc (.cells #[.int .i64 0, .int .i64 0] 57)) 171 #[.string ⟨#[]⟩, .string ⟨#[]⟩]
    rw [World.size_alloc] at h
    exact h
  case round =>
    obtain ⟨k, v, rfl, rfl, out, x, q0, q1, ho, hbel, hst⟩ := hrel
    obtain ⟨f, hf⟩ : ∃ f, f = w.heap.size := ⟨_, rfl⟩
    have Hf := Lib.hid hf
    rw [← hf] at q0 q1 ho ⊢
    obtain ⟨Ao, co, rfl, _, _, hro⟩ := own_form ho
    have Q0 := Lib.hid q0; have Q1 := Lib.hid q1; have Ho := Lib.hid ho; have Hbel := Lib.hid hbel; have Hro := Lib.hid hro
    have hfr : f + 1 < wr.heap.size := q1.lt
    have hf0 : f < wr.heap.size := by omega
    have y0 : wr.cell? ⟨f, 0, none⟩ = some (.int .i64 0) := q0.cell 0
    have y1 : wr.cell? ⟨f, 1, none⟩ = some (.int .i64 0) := q0.cell 1
    have x0 : wr.cell? ⟨f + 1, 0, none⟩ = some (.string (B8 x.1)) := q1.cell 0
    have x1 : wr.cell? ⟨f + 1, 1, none⟩ = some (.string (B8 x.2)) := q1.cell 1
    have fa := q0.frozen 0; have fb := q0.frozen 1; have fc := q1.frozen 0; have fd := q1.frozen 1
    clear hf q0 q1 ho hbel hro
    rcases hst with ⟨hk, hst⟩ | ⟨rfl, hpl⟩
    · by_cases hkn : k < n
      · have hks : k < st.size := by omega
        have hat := Hat.out k hks
        obtain ⟨bt, hbt⟩ : ∃ bt, bt = s.getD k 0 := ⟨_, rfl⟩
        have hgd : s[k]? = some bt := by rw [hbt, List.getD_eq_getElem?_getD, List.getElem?_eq_getElem (by rw [← Hn.out]; exact hkn)]; rfl
        have htk : s.take (k + 1) = s.take k ++ [bt] := take_snoc hgd
        have hdr : s = s.take k ++ bt :: s.drop (k + 1) := by
          conv => lhs; rw [← List.take_append_drop (k + 1) s, htk, List.append_assoc]
          rfl
        obtain ⟨b, hb⟩ : ∃ b, b = bt.toNat := ⟨_, rfl⟩
        rw [← hbt, ← hb] at hat
        have hkl : (k : Int) < (n : Int) := by omega
        have hkn0 : ((k : Int) == (n : Int)) = false := by rw [beq_eq_false_iff_ne]; omega
        have Htk := Lib.hid htk; have Hdr := Lib.hid hdr; have Hst := Lib.hid hst
        obtain ⟨l1, l2, l3, _⟩ := hst.len
        have htl : (s.take k).length ≤ 100000 := by rw [List.length_take]; omega
        have hk63 : out.length + 1 ≤ maxLen := by unfold maxLen; omega
        have hk8 : (out.length + 1) * 32 ≤ 140737488355328 := by omega
        have s1l : (B8 x.1).size ≤ 100000 := by rw [B8_size]; omega
        have s2l : (B8 x.2).size ≤ 100000 := by rw [B8_size]; omega
        clear hgd htk hdr hst l1 l2 l3 htl
        by_cases hc : b = 44
        · have hbt44 : bt = 44 := UInt8.toNat_inj.1 (by rw [← hb, hc]; rfl)
          subst hc
          subst hbt44
          cases v with
          | false =>
            have hpn : parseL s = none := by rw [Hdr.out]; exact (Hst.out.fail _).1
            have Hpn := Lib.hid hpn
            clear hpn hb hbt
            go_wp2
            (try simp only [Exit.inBlock, Exit.then])
            have HB3 := ((Q0.out.set_ 0 (.int .i64 1)).set_ 1 (.int .i64 (-1))).alloc (.cells #[.int .i64 1, .int .i64 (-1)] 57)
            refine bodyPost_ret (res_of _ _ f _ _ _ rfl rfl HB3) rfl ?_
            exact OPost.none_ Hpn.out rfl (Below.alloc ((Hbel.out.setCell (p := ⟨f, 0, none⟩) (Nat.le_of_eq Hf.out.symm) _).setCell (p := ⟨f, 1, none⟩) (Nat.le_of_eq Hf.out.symm) _) (by have := Hbel.out.size; simp; omega) _)
          | true =>
            have Hcm := Lib.hid (show RefSt (s.take (k + 1)) (out ++ [x]) ([], []) false by rw [Htk.out]; exact Hst.out.comma)
            clear hb hbt
            have HoA := Lib.hid (Ho.out.alloc (.cells #[.string (B8 x.1), .string (B8 x.2)] 171))
            have HrA := Lib.hid (rd_new2 wr 171 (.string (B8 x.1)) (.string (B8 x.2)))
            have HzA := Lib.hid (show f + 2 ≤ (wr.alloc (.cells #[.string (B8 x.1), .string (B8 x.2)] 171)).heap.size by simp; omega)
            go_wp2_with (at_builtin; refine wpList_append_rd _ rfl (.tmp 29) (.tmp 31) _ rfl (f + 2) 171 i0 (.agg #[.string ⟨#[]⟩, .string ⟨#[]⟩]) 2 32 Tryz.underlying116 Hi.out Hz0.out Hz1.out Hz2.out rfl (by decide) (.slice Ao out.length co) out.length _ rfl HoA.out _ _ 1 1 [.string (B8 x.1), .string (B8 x.2)] rfl HrA.out (str2_one _ _) hk63 hk8 HzA.out ?_; intro v' wa hown' hgr hat2; have Hfin := Lib.hid (OInv.pushed Hf.out Q0.out Q1.out Ho.out Hbel.out hgr hown' (.inl ⟨show k + 1 ≤ n by omega, Hcm.out⟩)); obtain ⟨A2, c2, rfl, _, _, _⟩ := own_form hown'; have z0 := Hfin.out.1.cell 0; have z1 := Hfin.out.1.cell 1; have zf := Hfin.out.1.frozen 0; have zg := Hfin.out.1.frozen 1; simp only [List.getElem?_toArray, List.getElem?_cons_zero, List.getElem?_cons_succ] at z0 z1; clear hown' hgr hat2)
            go_roundw
            case rel => exact ⟨k + 1, false, by go_num, rfl, Hfin.out.2⟩
            case measure => simp [intOf]; omega
        · have hc44 : ((b : Int) == 44) = false := by rw [beq_eq_false_iff_ne]; omega
          have hbn : bt ≠ 44 := fun e => hc (by rw [hb, e]; rfl)
          have hx := Hex.out k hkn
          rw [← hbt] at hx
          have hcat1 : ¬ 9223372036854775807 < (B8 x.1).size + 1 := by omega
          have hcat2 : ¬ 9223372036854775807 < (B8 x.2).size + 1 := by omega
          have n1 : IntKind.i64.wrap ((k : Int) + 1) = (k : Int) + 1 := by rw [IntKind.wrap_i64]; omega
          have hk1 : (k : Int) + 1 ≤ (n : Int) := by omega
          have hb1 : (B8 [bt]).size = 1 := B8_size _
          cases v with
          | true =>
            have Hfin := Lib.hid (OInv.word (v := true) (x' := (x.1, x.2 ++ [bt])) 1 (.string (B8 x.2 ++ B8 [bt])) Hf.out Q0.out Q1.out Ho.out Hbel.out (by rw [B8_append]; rfl) (show k + 1 ≤ n by omega) (by rw [Htk.out]; exact Hst.out.value hbn))
            clear hb hbt hbn
            generalize B8 [bt] = sb at hx hb1 Hfin
            go_wp2
            go_region
            all_goals
              go_wp2
              go_roundw
              case rel => exact ⟨k + 1, true, by go_num, rfl, Hfin.out⟩
              case measure => simp [intOf]; omega
          | false =>
            by_cases h61 : b = 61
            · have hbt61 : bt = 61 := UInt8.toNat_inj.1 (by rw [← hb, h61]; rfl)
              subst hbt61
              subst h61
              have Hfin := Lib.hid (show RefSt (s.take (k + 1)) out x true by rw [Htk.out]; exact Hst.out.eq)
              clear hb hbt hbn
              go_wp2
              go_roundw
              case rel => exact ⟨k + 1, true, by go_num, rfl, out, x, Q0.out, Q1.out, Ho.out, Hbel.out, .inl ⟨show k + 1 ≤ n by omega, Hfin.out⟩⟩
              case measure => simp [intOf]; omega
            · have hc61 : ((b : Int) == 61) = false := by rw [beq_eq_false_iff_ne]; omega
              have hbn2 : bt ≠ 61 := fun e => h61 (by rw [hb, e]; rfl)
              have Hfin := Lib.hid (OInv.word (v := false) (x' := (x.1 ++ [bt], x.2)) 0 (.string (B8 x.1 ++ B8 [bt])) Hf.out Q0.out Q1.out Ho.out Hbel.out (by rw [B8_append]; rfl) (show k + 1 ≤ n by omega) (by rw [Htk.out, Hst.out.name_nil]; exact Hst.out.name hbn hbn2))
              clear hb hbt hbn hbn2
              generalize B8 [bt] = sb at hx hb1 Hfin
              go_wp2
              go_region
              all_goals
                go_wp2
                go_roundw
                case rel => exact ⟨k + 1, false, by go_num, rfl, Hfin.out⟩
                case measure => simp [intOf]; omega
      · obtain rfl : k = n := by omega
        have htk : s.take k = s := List.take_of_length_le (by rw [← Hn.out]; exact Nat.le_refl _)
        rw [htk] at hst
        have Hst := Lib.hid hst
        obtain ⟨l1, l2, l3, _⟩ := hst.len
        rw [← Hn.out] at l1 l2 l3
        have hk63 : out.length + 1 ≤ maxLen := by unfold maxLen; omega
        have hk8 : (out.length + 1) * 32 ≤ 140737488355328 := by omega
        have s1l : (B8 x.1).size ≤ 100000 := by rw [B8_size]; omega
        have s2l : (B8 x.2).size ≤ 100000 := by rw [B8_size]; omega
        clear htk hst l1 l2 l3
        cases v with
        | false =>
          have Hpn := Lib.hid (Hst.out.fail []).2
          go_wp2
          (try simp only [Exit.inBlock, Exit.then])
          have HB3 := ((Q0.out.set_ 0 (.int .i64 1)).set_ 1 (.int .i64 (-1))).alloc (.cells #[.int .i64 1, .int .i64 (-1)] 57)
          refine bodyPost_ret (res_of _ _ f _ _ _ rfl rfl HB3) rfl ?_
          exact OPost.none_ Hpn.out rfl (Below.alloc ((Hbel.out.setCell (p := ⟨f, 0, none⟩) (Nat.le_of_eq Hf.out.symm) _).setCell (p := ⟨f, 1, none⟩) (Nat.le_of_eq Hf.out.symm) _) (by have := Hbel.out.size; simp; omega) _)
        | true =>
          have Hcm := Lib.hid Hst.out.done
          have HoA := Lib.hid (Ho.out.alloc (.cells #[.string (B8 x.1), .string (B8 x.2)] 171))
          have HrA := Lib.hid (rd_new2 wr 171 (.string (B8 x.1)) (.string (B8 x.2)))
          have HzA := Lib.hid (show f + 2 ≤ (wr.alloc (.cells #[.string (B8 x.1), .string (B8 x.2)] 171)).heap.size by simp; omega)
          go_wp2_with (at_builtin; refine wpList_append_rd _ rfl (.tmp 29) (.tmp 31) _ rfl (f + 2) 171 i0 (.agg #[.string ⟨#[]⟩, .string ⟨#[]⟩]) 2 32 Tryz.underlying116 Hi.out Hz0.out Hz1.out Hz2.out rfl (by decide) (.slice Ao out.length co) out.length _ rfl HoA.out _ _ 1 1 [.string (B8 x.1), .string (B8 x.2)] rfl HrA.out (str2_one _ _) hk63 hk8 HzA.out ?_; intro v' wa hown' hgr hat2; have Hfin := Lib.hid (OInv.pushed Hf.out Q0.out Q1.out Ho.out Hbel.out hgr hown' (n := k) (.inr ⟨rfl, Hcm.out⟩)); obtain ⟨A2, c2, rfl, _, _, _⟩ := own_form hown'; have z0 := Hfin.out.1.cell 0; have z1 := Hfin.out.1.cell 1; have zf := Hfin.out.1.frozen 0; have zg := Hfin.out.1.frozen 1; simp only [List.getElem?_toArray, List.getElem?_cons_zero, List.getElem?_cons_succ] at z0 z1; clear hown' hgr hat2)
          go_roundw
          case rel => exact ⟨k + 1, false, by go_num, rfl, Hfin.out.2⟩
          case measure => simp [intOf]
    · have hnn : ¬ ((n : Int) + 1 ≤ (n : Int)) := by omega
      have Hpl := Lib.hid hpl
      obtain ⟨c1, c2, hc⟩ : ∃ c1 c2, (c1, c2) = lbF out := ⟨_, _, rfl⟩
      have hq := parse_len hpl
      rw [← Hn.out] at hq
      have hlf := labelsFault_u Ao out.length co out wr Hro.out (fun p hp => by have := hq.2 p hp; omega)
      rw [← hc, show fV (c1, c2) = .agg #[.int .i64 (c1 : Int), .int .i64 c2] from rfl] at hlf
      have Hlf := Lib.hid hlf; have Hc := Lib.hid hc
      clear hpl hc hq hlf
      go_wp2_with fail
      refine Hlf.out.mono ?_
      rintro e w1 ⟨rfl, hb⟩
      have Hb := Lib.hid (Below.call Hbel.out hb Hbel.out.size)
      have Q0b := Lib.hid (Q0.out.below hb hf0)
      have Hob := Lib.hid (own_below Ho.out hb (Nat.le_refl _))
      have z0 : w1.cell? ⟨f, 0, none⟩ = some (.int .i64 0) := Q0b.out.cell 0
      have z1 : w1.cell? ⟨f, 1, none⟩ = some (.int .i64 0) := Q0b.out.cell 1
      have za := Q0b.out.frozen 0; have zb := Q0b.out.frozen 1
      have hf1 : f < w1.heap.size := Q0b.out.lt
      clear hb y0 y1 x0 x1 fa fb fc fd
      by_cases h0 : c1 = 0
      · subst h0
        go_wp2
        go_region
        all_goals
          go_wp2
          (try simp only [Exit.inBlock, Exit.then])
          have HB3 := (((Q0b.out.set_ 0 (.int .i64 0)).set_ 1 (.int .i64 c2)).alloc (.cells #[.int .i64 0, .int .i64 c2] 57)).drew
          refine bodyPost_ret (res_of _ _ f _ _ _ rfl rfl HB3) rfl ?_
          have HBf := (Below.alloc ((Hb.out.setCell (p := ⟨f, 0, none⟩) (Nat.le_of_eq Hf.out.symm) (.int .i64 0)).setCell (p := ⟨f, 1, none⟩) (Nat.le_of_eq Hf.out.symm) (.int .i64 c2)) (by have := Hb.out.size; simp; omega) (.cells #[.int .i64 0, .int .i64 c2] 57)).drew
          have ne : some f ≠ (Value.slice Ao out.length co).ownBlock := fun e => by
            have h : f + 2 ≤ f := (own_lt Hob.out _ e.symm).1
            omega
          exact OPost.done Hpl.out Hc.out rfl rfl (own_drew (World.ownsRow.alloc (own_set (own_set (own_base Hob.out (by rw [Hf.out]; omega)) (p := ⟨f, 0, none⟩) ne _) (p := ⟨f, 1, none⟩) ne _) _)) HBf
      · have h0' : (0 : Int) < (c1 : Int) := by omega
        go_wp2
        go_region
        all_goals
          go_wp2
          (try simp only [Exit.inBlock, Exit.then])
          have HB3 := (((Q0b.out.set_ 0 (.int .i64 (c1 : Int))).set_ 1 (.int .i64 c2)).alloc (.cells #[.int .i64 (c1 : Int), .int .i64 c2] 57)).drew
          refine bodyPost_ret (res_of _ _ f _ _ _ rfl rfl HB3) rfl ?_
          have HBf := (Below.alloc ((Hb.out.setCell (p := ⟨f, 0, none⟩) (Nat.le_of_eq Hf.out.symm) (.int .i64 (c1 : Int))).setCell (p := ⟨f, 1, none⟩) (Nat.le_of_eq Hf.out.symm) (.int .i64 c2)) (by have := Hb.out.size; simp; omega) (.cells #[.int .i64 (c1 : Int), .int .i64 c2] 57)).drew
          exact OPost.bad Hpl.out Hc.out h0 rfl HBf
theorem labelsOf_u (s : Bs) (hs : s.length ≤ 100000) (w : World) :
    Calls Tryz.prog 60 #[.string (B8 s)] w fun e w' => ∃ u l, e = .returned (.tuple #[u, fV (rdF s)]) ∧ w'.ownsRow w.heap.size 171 2 u l.length (lbC l) ∧ ((rdF s).1 = 0 → parseL s = some l) ∧ ((rdF s).1 ≠ 0 → l = []) ∧ Below w.heap.size w w' :=
  labelsOf_any s hs w
end Go.Proofs.YtfkklcmepcocoaaGreatDoor
