/- The reference's LabelsOf by its contract. -/
import Derived.Test.YtpbgonpmpjpljaaGreatDoorMkfX
import Derived.Test.YtpbgonpmpjpljaaGreatDoorMkkX
import Derived.Test.YtpbgonpmpjpljaaGreatDoorChunkEncQX
import Derived.Test.YtpbgonpmpjpljaaGreatDoorBaseX
import Derived.OrdersHeld
import Derived.Deep.RegionHeld
namespace Go.Proofs.YtpbgonpmpjpljaaGreatDoor
open Go.RowKit
set_option linter.unusedVariables false

/-- What LabelsOf answers. -/
def OPost (s : Bs) (w : World) (e : Ending) (w' : World) : Prop :=
  ∃ u l, e = .returned (.tuple #[u, fV (rdF s)]) ∧ w'.ownsRow w.heap.size 91 2 u l.length (lbC l) ∧ ((rdF s).1 = 0 → parseL s = some l) ∧ ((rdF s).1 ≠ 0 → l = []) ∧ Below w.heap.size w w'
theorem res_of (tmps : Array Value) (W : World) (b : Nat) (v v0 v1 : Value) (hv : tmps.getD 2 undef = v) (ha : tmps.getD 3 undef = .pointer (some ⟨b, 0, none⟩)) (hB : Blk W b 29 #[v0, v1]) :
    (results Tryz.f23 tmps).run Tryz.prog W = .ok (.tuple #[v, .agg #[v0, v1]]) W := by
  obtain ⟨z0, z1⟩ := hB.duo2
  simp only [Array.getD_eq_getD_getElem?] at ha hv
  simp [results, Tryz.results23, go_sem, ha, hv, z0, z1]
/-- Between two rounds. -/
def OInv (s : Bs) (n f : Nat) (w : World) (k : Nat) (o : Value) (v : Bool) (wr : World) : Prop :=
  ∃ (out : List Lb) (x : Lb), Blk wr f 29 #[.int .i64 0, .int .i64 0] ∧ Blk wr (f + 1) 91 #[.string (B8 x.1), .string (B8 x.2)] ∧ wr.ownsRow (f + 2) 91 2 o out.length (lbC out) ∧ Below w.heap.size w wr ∧
    ((k ≤ n ∧ RefSt (s.take k) out x v) ∨ (k = n + 1 ∧ parseL s = some out))

theorem OPost.none_ {s : Bs} {w w' : World} {e : Ending} (h : parseL s = none) (he : e = .returned (.tuple #[.slice none 0 0, .agg #[.int .i64 1, .int .i64 (-1)]])) (hb : Below w.heap.size w w') : OPost s w e w' := by
  have e1 := rdF_none h
  refine ⟨_, [], by rw [e1]; exact he, World.ownsRow_nil _ _ _ _, fun h => ?_, fun _ => rfl, hb⟩
  rw [e1] at h; cases h
theorem OPost.done {s : Bs} {w w' : World} {e : Ending} {l : List Lb} {u : Value} {c : Nat × Int} (h : parseL s = some l) (hc : c = lbF l) (h0 : c.1 = 0) (he : e = .returned (.tuple #[u, fV c])) (ho : w'.ownsRow w.heap.size 91 2 u l.length (lbC l)) (hb : Below w.heap.size w w') : OPost s w e w' := by
  have e1 := rdF_some h
  refine ⟨_, l, by rw [e1, ← hc]; exact he, ho, fun _ => h, fun h => ?_, hb⟩
  rw [e1, ← hc, h0] at h; exact absurd rfl h
theorem OPost.bad {s : Bs} {w w' : World} {e : Ending} {l : List Lb} {c : Nat × Int} (h : parseL s = some l) (hc : c = lbF l) (h0 : c.1 ≠ 0) (he : e = .returned (.tuple #[.slice none 0 0, fV c])) (hb : Below w.heap.size w w') : OPost s w e w' := by
  have e1 := rdF_some h
  refine ⟨_, [], by rw [e1, ← hc]; exact he, World.ownsRow_nil _ _ _ _, fun h => ?_, fun _ => rfl, hb⟩
  rw [e1, ← hc] at h; exact absurd h h0
theorem rd_new2 (W : World) (t : TypeId) (u0 u1 : Value) : Rd (W.alloc (.cells #[u0, u1] t)) (W.alloc (.cells #[u0, u1] t)).heap.size 2 (some ⟨W.heap.size, 0, none⟩) 1 [u0, u1] := by
  refine ⟨rfl, fun _ => ⟨W.heap.size, 0, rfl, by simp, fun j u hu => ?_⟩⟩
  rw [Nat.zero_add, (Blk.new W t #[u0, u1]).cell j]
  simpa using hu
theorem str2_one (s1 s2 : ByteArray) : ∀ u ∈ [Value.string s1, Value.string s2], u.oneCell' = true := by
  intro u hu; simp at hu; rcases hu with rfl | rfl <;> rfl
theorem OInv.pushed {s : Bs} {n f k : Nat} {w wr wa : World} {out : List Lb} {x : Lb} {o v' : Value} {o1 : Obj} (hfw : f = w.heap.size) (q0 : Blk wr f 29 #[.int .i64 0, .int .i64 0]) (q1 : Blk wr (f + 1) 91 #[.string (B8 x.1), .string (B8 x.2)]) (ho : wr.ownsRow (f + 2) 91 2 o out.length (lbC out)) (hb : Below w.heap.size w wr)
    (hgr : (wr.alloc o1).grownBy wa o.ownBlock) (hown' : wa.ownsRow (f + 2) 91 2 v' (out.length + 1) (lbC out ++ [.string (B8 x.1), .string (B8 x.2)]))
    (hst : (k ≤ n ∧ RefSt (s.take k) (out ++ [x]) ([], []) false) ∨ (k = n + 1 ∧ parseL s = some (out ++ [x]))) :
    Blk wa (f + 1) 91 #[.string (B8 x.1), .string (B8 x.2)] ∧ OInv s n f w k v' false ((wa.setCell ⟨f + 1, 0, none⟩ (.string ⟨#[]⟩)).setCell ⟨f + 1, 1, none⟩ (.string ⟨#[]⟩)) := by
  have hfz : Fr (fun k => f + 2 ≤ k) wr wa := ((Fr.refl _ wr).alloc _).grown hgr (fun k hk => .inr (own_lt ho k hk).1)
  have h1 : Blk wa (f + 1) 91 #[.string (B8 x.1), .string (B8 x.2)] := hfz.blk q1 (by omega)
  have h0 : Blk wa f 29 #[.int .i64 0, .int .i64 0] := hfz.blk q0 (by omega)
  refine ⟨h1, out ++ [x], ([], []), (h0.far (p := ⟨f + 1, 0, none⟩) (by simp) _).far (p := ⟨f + 1, 1, none⟩) (by simp) _, (h1.set_ 0 _).set_ 1 _, ?_, ?_, hst⟩
  · rw [lbC_snoc, List.length_append, List.length_singleton]
    have hne : some (f + 1) ≠ v'.ownBlock := fun e => by
      have h : f + 2 ≤ f + 1 := (own_lt hown' _ e.symm).1
      omega
    exact own_set (own_set hown' (p := ⟨f + 1, 0, none⟩) hne _) (p := ⟨f + 1, 1, none⟩) hne _
  · have hs := hb.size
    have h2 : Below w.heap.size w wa := hb.trans (hfz.below hs (fun k hk => by omega))
    exact (h2.setCell (p := ⟨f + 1, 0, none⟩) (by simp; omega) _).setCell (p := ⟨f + 1, 1, none⟩) (by simp; omega) _
theorem OInv.word {s : Bs} {n f k : Nat} {w wr : World} {out : List Lb} {x x' : Lb} {o : Value} {v v2 : Bool} (i : Nat) (u : Value) (hfw : f = w.heap.size) (q0 : Blk wr f 29 #[.int .i64 0, .int .i64 0]) (q1 : Blk wr (f + 1) 91 #[.string (B8 x.1), .string (B8 x.2)]) (ho : wr.ownsRow (f + 2) 91 2 o out.length (lbC out)) (hb : Below w.heap.size w wr)
    (hx : (#[Value.string (B8 x.1), .string (B8 x.2)]).setIfInBounds i u = #[.string (B8 x'.1), .string (B8 x'.2)]) (hk : k ≤ n) (hst : RefSt (s.take k) out x' v2) :
    OInv s n f w k o v2 (wr.setCell ⟨f + 1, i, none⟩ u).drew := by
  refine ⟨out, x', (q0.far (p := ⟨f + 1, i, none⟩) (by simp) _).drew, ?_, own_drew (own_set ho (p := ⟨f + 1, i, none⟩) (fun e => ?_) _), (hb.setCell (p := ⟨f + 1, i, none⟩) (by simp; omega) _).drew, .inl ⟨hk, hst⟩⟩
  · rw [← hx]; exact (q1.set_ i u).drew
  · have h : f + 2 ≤ f + 1 := (own_lt ho _ e.symm).1
    omega

set_option maxRecDepth 100000 in
set_option maxHeartbeats 8000000 in
theorem labelsOf_any (s : Bs) (hs : s.length ≤ 100000) (w : World) :
    Calls Tryz.prog 23 #[.string (B8 s)] w (OPost s w) := by
  obtain ⟨n, hn⟩ : ∃ n, n = s.length := ⟨_, rfl⟩
  have hsz : (B8 s).size = n := by rw [B8_size, hn]
  have Hat := Lib.hid (fun k (h : k < (B8 s).size) => B8_at s k h)
  have Hex := Lib.hid (fun k (h : k < n) => show (B8 s).extract k (k + 1) = B8 [s.getD k 0] from by
    rw [B8_extract]
    have hg : s[k]? = some (s.getD k 0) := by rw [List.getD_eq_getElem?_getD, List.getElem?_eq_getElem (by omega)]; rfl
    rw [take_snoc hg, List.drop_append, List.drop_of_length_le (by rw [List.length_take]; omega), List.length_take, show k - min k s.length = 0 by omega]; rfl)
  have Hn := Lib.hid hn
  have hn' : n ≤ 100000 := by omega
  obtain ⟨i0, hi, hz0, hz1, hz2⟩ := info_parts infoLb
  have Hi := Lib.hid hi; have Hz0 := Lib.hid hz0; have Hz1 := Lib.hid hz1; have Hz2 := Lib.hid hz2
  clear hn hs hi hz0 hz1 hz2
  generalize B8 s = st at hsz Hat Hex ⊢
  go_enter Tryz.func23, Tryz.ntmps23
  go_wp2
  go_loopw [4, 6, 7] (fun o vv iv wr => ∃ (k : Nat) (v : Bool), iv = .int .i64 k ∧ vv = .bool v ∧ OInv s n w.heap.size w k o v wr) (fun _ _ iv _ => n + 1 - (intOf iv).toNat)
  case atStart =>
    refine ⟨0, false, rfl, rfl, [], ([], []), (Blk.new w _ _).alloc _, ?_, World.ownsRow_nil _ _ _ _, by go_grown, .inl ⟨Nat.zero_le _, RefSt.start⟩⟩
    have h := Blk.new (w.alloc (.cells #[.int .i64 0, .int .i64 0] 29)) 91 #[.string ⟨#[]⟩, .string ⟨#[]⟩]
    rw [World.size_alloc] at h
    exact h
  case round =>
    obtain ⟨k, v, rfl, rfl, out, x, q0, q1, ho, hbel, hst⟩ := hrel
    obtain ⟨f, hf⟩ : ∃ f, f = w.heap.size := ⟨_, rfl⟩
    have Hf := Lib.hid hf
    rw [← hf] at q0 q1 ho ⊢
    obtain ⟨Ao, co, rfl, _, _, hro⟩ := own_form ho
    have Q0 := Lib.hid q0; have Q1 := Lib.hid q1; have Ho := Lib.hid ho; have Hbel := Lib.hid hbel; have Hro := Lib.hid hro
    have hfr : f + 1 < wr.heap.size := q1.lt
    have hf0 : f < wr.heap.size := by omega
    have y0 : wr.cell? ⟨f, 0, none⟩ = some (.int .i64 0) := q0.cell 0
    have y1 : wr.cell? ⟨f, 1, none⟩ = some (.int .i64 0) := q0.cell 1
    have x0 : wr.cell? ⟨f + 1, 0, none⟩ = some (.string (B8 x.1)) := q1.cell 0
    have x1 : wr.cell? ⟨f + 1, 1, none⟩ = some (.string (B8 x.2)) := q1.cell 1
    have fa := q0.frozen 0; have fb := q0.frozen 1; have fc := q1.frozen 0; have fd := q1.frozen 1
    clear hf q0 q1 ho hbel hro
    rcases hst with ⟨hk, hst⟩ | ⟨rfl, hpl⟩
    · by_cases hkn : k < n
      · have hks : k < st.size := by omega
        have hat := Hat.out k hks
        obtain ⟨bt, hbt⟩ : ∃ bt, bt = s.getD k 0 := ⟨_, rfl⟩
        have hgd : s[k]? = some bt := by rw [hbt, List.getD_eq_getElem?_getD, List.getElem?_eq_getElem (by rw [← Hn.out]; exact hkn)]; rfl
        have htk : s.take (k + 1) = s.take k ++ [bt] := take_snoc hgd
        have hdr : s = s.take k ++ bt :: s.drop (k + 1) := by
          conv => lhs; rw [← List.take_append_drop (k + 1) s, htk, List.append_assoc]
          rfl
        obtain ⟨b, hb⟩ : ∃ b, b = bt.toNat := ⟨_, rfl⟩
        rw [← hbt, ← hb] at hat
        have hkl : (k : Int) < (n : Int) := by omega
        have hkn0 : ((k : Int) == (n : Int)) = false := by rw [beq_eq_false_iff_ne]; omega
        have Htk := Lib.hid htk; have Hdr := Lib.hid hdr; have Hst := Lib.hid hst
        obtain ⟨l1, l2, l3, _⟩ := hst.len
        have htl : (s.take k).length ≤ 100000 := by rw [List.length_take]; omega
        have hk63 : out.length + 1 ≤ maxLen := by unfold maxLen; omega
        have hk8 : (out.length + 1) * 32 ≤ 140737488355328 := by omega
        have s1l : (B8 x.1).size ≤ 100000 := by rw [B8_size]; omega
        have s2l : (B8 x.2).size ≤ 100000 := by rw [B8_size]; omega
        clear hgd htk hdr hst l1 l2 l3 htl
        by_cases hc : b = 44
        · have hbt44 : bt = 44 := UInt8.toNat_inj.1 (by rw [← hb, hc]; rfl)
          subst hc
          subst hbt44
          cases v with
          | false =>
            have hpn : parseL s = none := by rw [Hdr.out]; exact (Hst.out.fail _).1
            have Hpn := Lib.hid hpn
            clear hpn hb hbt
            go_wp2
            (try simp only [Exit.inBlock, Exit.then])
            have HB3 := ((Q0.out.set_ 0 (.int .i64 1)).set_ 1 (.int .i64 (-1))).alloc (.cells #[.int .i64 1, .int .i64 (-1)] 29)
            refine bodyPost_ret (res_of _ _ f _ _ _ rfl rfl HB3) rfl ?_
            exact OPost.none_ Hpn.out rfl (Below.alloc ((Hbel.out.setCell (p := ⟨f, 0, none⟩) (Nat.le_of_eq Hf.out.symm) _).setCell (p := ⟨f, 1, none⟩) (Nat.le_of_eq Hf.out.symm) _) (by have := Hbel.out.size; simp; omega) _)
          | true =>
            have Hcm := Lib.hid (show RefSt (s.take (k + 1)) (out ++ [x]) ([], []) false by rw [Htk.out]; exact Hst.out.comma)
            clear hb hbt
            have HoA := Lib.hid (Ho.out.alloc (.cells #[.string (B8 x.1), .string (B8 x.2)] 91))
            have HrA := Lib.hid (rd_new2 wr 91 (.string (B8 x.1)) (.string (B8 x.2)))
            have HzA := Lib.hid (show f + 2 ≤ (wr.alloc (.cells #[.string (B8 x.1), .string (B8 x.2)] 91)).heap.size by simp; omega)
            go_wp2_with (at_builtin; refine wpList_append_rd _ rfl (.tmp 29) (.tmp 31) _ rfl (f + 2) 91 i0 (.agg #[.string ⟨#[]⟩, .string ⟨#[]⟩]) 2 32 Tryz.underlying66 Hi.out Hz0.out Hz1.out Hz2.out rfl (by decide) (.slice Ao out.length co) out.length _ rfl HoA.out _ _ 1 1 [.string (B8 x.1), .string (B8 x.2)] rfl HrA.out (str2_one _ _) hk63 hk8 HzA.out ?_; intro v' wa hown' hgr hat2; have Hfin := Lib.hid (OInv.pushed Hf.out Q0.out Q1.out Ho.out Hbel.out hgr hown' (.inl ⟨show k + 1 ≤ n by omega, Hcm.out⟩)); obtain ⟨A2, c2, rfl, _, _, _⟩ := own_form hown'; have z0 := Hfin.out.1.cell 0; have z1 := Hfin.out.1.cell 1; have zf := Hfin.out.1.frozen 0; have zg := Hfin.out.1.frozen 1; simp only [List.getElem?_toArray, List.getElem?_cons_zero, List.getElem?_cons_succ] at z0 z1; clear hown' hgr hat2)
            go_roundw
            case rel => exact ⟨k + 1, false, by go_num, rfl, Hfin.out.2⟩
            case measure => simp [intOf]; omega
        · have hc44 : ((b : Int) == 44) = false := by rw [beq_eq_false_iff_ne]; omega
          have hbn : bt ≠ 44 := fun e => hc (by rw [hb, e]; rfl)
          have hx := Hex.out k hkn
          rw [← hbt] at hx
          have hcat1 : ¬ 9223372036854775807 < (B8 x.1).size + 1 := by omega
          have hcat2 : ¬ 9223372036854775807 < (B8 x.2).size + 1 := by omega
          have n1 : IntKind.i64.wrap ((k : Int) + 1) = (k : Int) + 1 := by rw [IntKind.wrap_i64]; omega
          have hk1 : (k : Int) + 1 ≤ (n : Int) := by omega
          have hb1 : (B8 [bt]).size = 1 := B8_size _
          cases v with
          | true =>
            have Hfin := Lib.hid (OInv.word (v := true) (x' := (x.1, x.2 ++ [bt])) 1 (.string (B8 x.2 ++ B8 [bt])) Hf.out Q0.out Q1.out Ho.out Hbel.out (by rw [B8_append]; rfl) (show k + 1 ≤ n by omega) (by rw [Htk.out]; exact Hst.out.value hbn))
            clear hb hbt hbn
            generalize B8 [bt] = sb at hx hb1 Hfin
            go_wp2
            go_region
            all_goals
              go_wp2
              go_roundw
              case rel => exact ⟨k + 1, true, by go_num, rfl, Hfin.out⟩
              case measure => simp [intOf]; omega
          | false =>
            by_cases h61 : b = 61
            · have hbt61 : bt = 61 := UInt8.toNat_inj.1 (by rw [← hb, h61]; rfl)
              subst hbt61
              subst h61
              have Hfin := Lib.hid (show RefSt (s.take (k + 1)) out x true by rw [Htk.out]; exact Hst.out.eq)
              clear hb hbt hbn
              go_wp2
              go_roundw
              case rel => exact ⟨k + 1, true, by go_num, rfl, out, x, Q0.out, Q1.out, Ho.out, Hbel.out, .inl ⟨show k + 1 ≤ n by omega, Hfin.out⟩⟩
              case measure => simp [intOf]; omega
            · have hc61 : ((b : Int) == 61) = false := by rw [beq_eq_false_iff_ne]; omega
              have hbn2 : bt ≠ 61 := fun e => h61 (by rw [hb, e]; rfl)
              have Hfin := Lib.hid (OInv.word (v := false) (x' := (x.1 ++ [bt], x.2)) 0 (.string (B8 x.1 ++ B8 [bt])) Hf.out Q0.out Q1.out Ho.out Hbel.out (by rw [B8_append]; rfl) (show k + 1 ≤ n by omega) (by rw [Htk.out, Hst.out.name_nil]; exact Hst.out.name hbn hbn2))
              clear hb hbt hbn hbn2
              generalize B8 [bt] = sb at hx hb1 Hfin
              go_wp2
              go_region
              all_goals
                go_wp2
                go_roundw
                case rel => exact ⟨k + 1, false, by go_num, rfl, Hfin.out⟩
                case measure => simp [intOf]; omega
      · obtain rfl : k = n := by omega
        have htk : s.take k = s := List.take_of_length_le (by rw [← Hn.out]; exact Nat.le_refl _)
        rw [htk] at hst
        have Hst := Lib.hid hst
        obtain ⟨l1, l2, l3, _⟩ := hst.len
        rw [← Hn.out] at l1 l2 l3
        have hk63 : out.length + 1 ≤ maxLen := by unfold maxLen; omega
        have hk8 : (out.length + 1) * 32 ≤ 140737488355328 := by omega
        have s1l : (B8 x.1).size ≤ 100000 := by rw [B8_size]; omega
        have s2l : (B8 x.2).size ≤ 100000 := by rw [B8_size]; omega
        clear htk hst l1 l2 l3
        cases v with
        | false =>
          have Hpn := Lib.hid (Hst.out.fail []).2
          go_wp2
          (try simp only [Exit.inBlock, Exit.then])
          have HB3 := ((Q0.out.set_ 0 (.int .i64 1)).set_ 1 (.int .i64 (-1))).alloc (.cells #[.int .i64 1, .int .i64 (-1)] 29)
          refine bodyPost_ret (res_of _ _ f _ _ _ rfl rfl HB3) rfl ?_
          exact OPost.none_ Hpn.out rfl (Below.alloc ((Hbel.out.setCell (p := ⟨f, 0, none⟩) (Nat.le_of_eq Hf.out.symm) _).setCell (p := ⟨f, 1, none⟩) (Nat.le_of_eq Hf.out.symm) _) (by have := Hbel.out.size; simp; omega) _)
        | true =>
          have Hcm := Lib.hid Hst.out.done
          have HoA := Lib.hid (Ho.out.alloc (.cells #[.string (B8 x.1), .string (B8 x.2)] 91))
          have HrA := Lib.hid (rd_new2 wr 91 (.string (B8 x.1)) (.string (B8 x.2)))
          have HzA := Lib.hid (show f + 2 ≤ (wr.alloc (.cells #[.string (B8 x.1), .string (B8 x.2)] 91)).heap.size by simp; omega)
          go_wp2_with (at_builtin; refine wpList_append_rd _ rfl (.tmp 29) (.tmp 31) _ rfl (f + 2) 91 i0 (.agg #[.string ⟨#[]⟩, .string ⟨#[]⟩]) 2 32 Tryz.underlying66 Hi.out Hz0.out Hz1.out Hz2.out rfl (by decide) (.slice Ao out.length co) out.length _ rfl HoA.out _ _ 1 1 [.string (B8 x.1), .string (B8 x.2)] rfl HrA.out (str2_one _ _) hk63 hk8 HzA.out ?_; intro v' wa hown' hgr hat2; have Hfin := Lib.hid (OInv.pushed Hf.out Q0.out Q1.out Ho.out Hbel.out hgr hown' (n := k) (.inr ⟨rfl, Hcm.out⟩)); obtain ⟨A2, c2, rfl, _, _, _⟩ := own_form hown'; have z0 := Hfin.out.1.cell 0; have z1 := Hfin.out.1.cell 1; have zf := Hfin.out.1.frozen 0; have zg := Hfin.out.1.frozen 1; simp only [List.getElem?_toArray, List.getElem?_cons_zero, List.getElem?_cons_succ] at z0 z1; clear hown' hgr hat2)
          go_roundw
          case rel => exact ⟨k + 1, false, by go_num, rfl, Hfin.out.2⟩
          case measure => simp [intOf]
    · have hnn : ¬ ((n : Int) + 1 ≤ (n : Int)) := by omega
      have Hpl := Lib.hid hpl
      obtain ⟨c1, c2, hc⟩ : ∃ c1 c2, (c1, c2) = lbF out := ⟨_, _, rfl⟩
      have hq := parse_len hpl
      rw [← Hn.out] at hq
      have hlf := labelsFault_u Ao out.length co out wr Hro.out (fun p hp => by have := hq.2 p hp; omega)
      rw [← hc, show fV (c1, c2) = .agg #[.int .i64 (c1 : Int), .int .i64 c2] from rfl] at hlf
      have Hlf := Lib.hid hlf; have Hc := Lib.hid hc
      clear hpl hc hq hlf
      go_wp2_with fail
      refine Hlf.out.mono ?_
      rintro e w1 ⟨rfl, hb⟩
      have Hb := Lib.hid (Below.call Hbel.out hb Hbel.out.size)
      have Q0b := Lib.hid (Q0.out.below hb hf0)
      have Hob := Lib.hid (own_below Ho.out hb (Nat.le_refl _))
      have z0 : w1.cell? ⟨f, 0, none⟩ = some (.int .i64 0) := Q0b.out.cell 0
      have z1 : w1.cell? ⟨f, 1, none⟩ = some (.int .i64 0) := Q0b.out.cell 1
      have za := Q0b.out.frozen 0; have zb := Q0b.out.frozen 1
      have hf1 : f < w1.heap.size := Q0b.out.lt
      clear hb y0 y1 x0 x1 fa fb fc fd
      by_cases h0 : c1 = 0
      · subst h0
        go_wp2
        go_region
        all_goals
          go_wp2
          (try simp only [Exit.inBlock, Exit.then])
          have HB3 := (((Q0b.out.set_ 0 (.int .i64 0)).set_ 1 (.int .i64 c2)).alloc (.cells #[.int .i64 0, .int .i64 c2] 29)).drew
          refine bodyPost_ret (res_of _ _ f _ _ _ rfl rfl HB3) rfl ?_
          have HBf := (Below.alloc ((Hb.out.setCell (p := ⟨f, 0, none⟩) (Nat.le_of_eq Hf.out.symm) (.int .i64 0)).setCell (p := ⟨f, 1, none⟩) (Nat.le_of_eq Hf.out.symm) (.int .i64 c2)) (by have := Hb.out.size; simp; omega) (.cells #[.int .i64 0, .int .i64 c2] 29)).drew
          have ne : some f ≠ (Value.slice Ao out.length co).ownBlock := fun e => by
            have h : f + 2 ≤ f := (own_lt Hob.out _ e.symm).1
            omega
          exact OPost.done Hpl.out Hc.out rfl rfl (own_drew (World.ownsRow.alloc (own_set (own_set (own_base Hob.out (by rw [Hf.out]; omega)) (p := ⟨f, 0, none⟩) ne _) (p := ⟨f, 1, none⟩) ne _) _)) HBf
      · have h0' : (0 : Int) < (c1 : Int) := by omega
        go_wp2
        go_region
        all_goals
          go_wp2
          (try simp only [Exit.inBlock, Exit.then])
          have HB3 := (((Q0b.out.set_ 0 (.int .i64 (c1 : Int))).set_ 1 (.int .i64 c2)).alloc (.cells #[.int .i64 (c1 : Int), .int .i64 c2] 29)).drew
          refine bodyPost_ret (res_of _ _ f _ _ _ rfl rfl HB3) rfl ?_
          have HBf := (Below.alloc ((Hb.out.setCell (p := ⟨f, 0, none⟩) (Nat.le_of_eq Hf.out.symm) (.int .i64 (c1 : Int))).setCell (p := ⟨f, 1, none⟩) (Nat.le_of_eq Hf.out.symm) (.int .i64 c2)) (by have := Hb.out.size; simp; omega) (.cells #[.int .i64 (c1 : Int), .int .i64 c2] 29)).drew
          exact OPost.bad Hpl.out Hc.out h0 rfl HBf
theorem labelsOf_u (s : Bs) (hs : s.length ≤ 100000) (w : World) :
    Calls Tryz.prog 23 #[.string (B8 s)] w fun e w' => ∃ u l, e = .returned (.tuple #[u, fV (rdF s)]) ∧ w'.ownsRow w.heap.size 91 2 u l.length (lbC l) ∧ ((rdF s).1 = 0 → parseL s = some l) ∧ ((rdF s).1 ≠ 0 → l = []) ∧ Below w.heap.size w w' :=
  labelsOf_any s hs w
end Go.Proofs.YtpbgonpmpjpljaaGreatDoor

namespace Go.Proofs.YtpbgonpmpjpljaaGreatDoor
open Go.RowKit
set_option linter.unusedVariables false

/-- A row, with the value that holds its points. -/
structure RowV where
  nm : Bs
  pts : List (Int × Int)
  v : Value
def rowC (l : List RowV) : List Value := l.flatMap fun r => [.string (B8 r.nm), r.v]
theorem rowC_snoc (l : List RowV) (r : RowV) : rowC (l ++ [r]) = rowC l ++ [.string (B8 r.nm), r.v] := by unfold rowC; rw [List.flatMap_append]; simp
def RowsOwn (base : Nat) (w : World) (l : List RowV) : Prop := ∀ r ∈ l, w.ownsRow base 57 2 r.v r.pts.length (ptsC r.pts)
theorem RowsOwn.below {base C : Nat} {w w' : World} {l : List RowV} (h : RowsOwn base w l) (hb : Below C w w') (hC : w.heap.size ≤ C) : RowsOwn base w' l := fun r hr => own_below (h r hr) hb hC
theorem RowsOwn.nil (base : Nat) (w : World) : RowsOwn base w [] := fun r hr => (by cases hr)
theorem RowsOwn.snoc {base : Nat} {w : World} {l : List RowV} {r : RowV} (h : RowsOwn base w l) (hr : w.ownsRow base 57 2 r.v r.pts.length (ptsC r.pts)) : RowsOwn base w (l ++ [r]) := fun x hx => by
  rcases List.mem_append.1 hx with hx | hx
  · exact h x hx
  · obtain rfl := List.mem_singleton.1 hx
    exact hr
theorem RowsOwn.after {base base' : Nat} {w wa : World} {l : List RowV} {v' : Value} {n' : Nat} {xs' : List Value} (h : RowsOwn base w l) (h' : w.ownsRow base' 59 2 v' n' xs') (hg : w.grownBy wa v'.ownBlock) : RowsOwn base wa l :=
  fun r hr => own_after (h r hr) h' (by decide) hg

def okL : PRes → List (Int × Int) | .ok l => l | .err _ => []
/-- The first of n that is wrong: its error and its place. -/
def firstBad (g : Nat → PRes) : Nat → Option (Nat × Nat)
  | 0 => none
  | n + 1 => match firstBad g n with
    | some x => some x
    | none => match g n with
      | .err c => some (c, n)
      | .ok _ => none
theorem firstBad_ok {g : Nat → PRes} {n : Nat} {l : List (Int × Int)} (h : firstBad g n = none) (h2 : g n = .ok l) : firstBad g (n + 1) = none := by
  unfold firstBad; rw [h, h2]
theorem firstBad_err {g : Nat → PRes} {n c : Nat} (h : firstBad g n = none) (h2 : g n = .err c) : ∀ m, n < m → firstBad g m = some (c, n) := by
  intro m
  induction m with
  | zero => intro h3; omega
  | succ m ih =>
    intro h3
    rcases Nat.lt_or_ge n m with h4 | h4
    · unfold firstBad; rw [ih h4]
    · obtain rfl : n = m := by omega
      unfold firstBad; rw [h, h2]
/-- What (Block).rows answers: number and place of what is wrong; names and points. -/
def rowsR (fr sp : Int) (ser : List Bs) (ch : List (List Nat)) : (Nat × Int) × List (Bs × List (Int × Int)) :=
  if bndB fr sp = false then ((2, -1), []) else if 60 < ser.length then ((2, -1), []) else if ch.length ≠ ser.length then ((3, -1), []) else
  match firstBad (oneR fr (fr + sp) ser ch) ser.length with
  | some (c, i) => ((c + 1, (i : Int)), [])
  | none => ((0, -1), (List.range ser.length).map fun i => (ser.getD i [], okL (oneR fr (fr + sp) ser ch i)))
theorem infoRow : (Tryz.prog.info? 59).map (fun i => (i.zero, i.size, i.bytes)) = some (some (.agg #[.string ⟨#[]⟩, .slice none 0 0]), 2, 40) := by kernel_rfl
theorem row_one (nm : Bs) (A : Option Addr) (n c : Nat) : ∀ u ∈ [Value.string (B8 nm), Value.slice A n c], u.oneCell' = true := by
  intro u hu; simp at hu; rcases hu with rfl | rfl <;> rfl
theorem rdF_le (s : Bs) : (rdF s).1 ≤ 5 := by
  cases hp : parseL s with
  | none => rw [rdF_none hp]; decide
  | some l =>
    rw [rdF_some hp]
    rcases lbF_cases l with ⟨_, e⟩ | ⟨_, e⟩ | ⟨i, _, _, _, _, _, e⟩ | ⟨_, _, _, e⟩
    · rw [e]; decide
    · rw [e]; decide
    · rw [e]; have := lbCode_lt l i; simp only; omega
    · rw [e]; decide
theorem decR_code2 {xs : List Nat} {c : Nat} (h : decR xs = .err c) : c = 0 ∨ c = 8 := by
  unfold decR at h
  split at h
  · injection h with h; exact .inl h.symm
  split at h
  · injection h with h; exact .inr h.symm
  split at h
  · injection h with h; exact .inl h.symm
  · split at h
    · cases h
    · injection h with h; exact .inl h.symm
theorem oneR_code {fr en : Int} {ser : List Bs} {ch : List (List Nat)} {i c : Nat} (h : oneR fr en ser ch i = .err c) : c < 11 := by
  unfold oneR oneV at h
  split at h
  · injection h with h
    have := rdF_le (ser.getD i [])
    omega
  split at h
  · injection h with h; omega
  split at h
  · rename_i k hk
    injection h with h
    rcases decR_code2 hk with h2 | h2 <;> omega
  · split at h
    · injection h with h; omega
    split at h
    · cases h
    · injection h with h; omega
end Go.Proofs.YtpbgonpmpjpljaaGreatDoor

namespace Go.Proofs.YtpbgonpmpjpljaaGreatDoor
open Go.RowKit
set_option linter.unusedVariables false

/-- rows' answer: nothing and what is wrong; or rows of its own. -/
def RowsPost (es : Nat → Addr) (R : (Nat × Int) × List (Bs × List (Int × Int))) (w : World) (e : Ending) (w' : World) : Prop :=
  ∃ v u ls, e = .returned (.tuple #[u, v]) ∧ EV es w.heap.size w' v R.1 ∧ w'.ownsRow w.heap.size 59 2 u ls.length (rowC ls) ∧ RowsOwn w.heap.size w' ls ∧ ls.map (fun r => (r.nm, r.pts)) = R.2 ∧ (R.1.1 ≠ 0 → u = .slice none 0 0) ∧ Below w.heap.size w w'
theorem RowsPost.sent {es : Nat → Addr} {w w' : World} {e : Ending} {k : Nat} (hk : k < 11) (he : e = .returned (.tuple #[.slice none 0 0, sentV (es k)])) (hb : Below w.heap.size w w') : RowsPost es ((k + 1, -1), []) w e w' :=
  ⟨_, _, [], he, .inr (.inl ⟨k, hk, rfl, rfl⟩), World.ownsRow_nil _ _ _ _, RowsOwn.nil _ _, rfl, fun _ => rfl, hb⟩
set_option maxRecDepth 100000 in
set_option maxHeartbeats 4000000 in
theorem rows_any {es : Nat → Addr} {B : Nat} (fr sp : Int) (A A' : Option Addr) (n c n' c' : Nat) (ser : List Bs) (ch : List (List Nat)) (w : World) (hS : SBk es B w) (hT : TabAt w) (hTB : 15 < B) (hB0 : B ≤ w.heap.size)
    (hA : Rd w w.heap.size 1 A n (ser.map fun s => .string (B8 s))) (hC : Rd w w.heap.size 1 A' n' (ch.map fun x => .string (bytesOf x))) (hsl : ∀ s ∈ ser, s.length ≤ 100000) (hcl : ∀ x ∈ ch, x.length ≤ 100000 ∧ ∀ b ∈ x, b < 256) :
    Calls Tryz.prog 27 #[.agg #[.int .i64 fr, .int .i64 sp, .slice A n c, .slice A' n' c']] w fun e w' => RowsPost es (rowsR fr sp ser ch) w e w' := by
  have hln : ser.length = n := by have := hA.1; simpa using this
  have hlc : ch.length = n' := by have := hC.1; simpa using this
  have hb1 : Below w.heap.size w (w.alloc (.cells #[.int .i64 fr, .int .i64 sp, .slice A n c, .slice A' n' c'] 37)) := Below.alloc (Below.refl _ _) (Nat.le_refl _) _
  have hk1 := Blk.new w 37 #[.int .i64 fr, .int .i64 sp, .slice A n c, .slice A' n' c']
  have Hg := Lib.hid (fun W (hb : Below w.heap.size w W) => show W.cell? ⟨1, 0, none⟩ = some (sentV (es 1)) ∧ W.cell? ⟨0, 0, none⟩ = some (sentV (es 2)) from
    ⟨(hS.below hb hB0).var 1 (by decide), (hS.below hb hB0).var 2 (by decide)⟩)
  have Hbd := Lib.hid (fun W (hb : Below w.heap.size w W) => bounds_any fr sp W (hS.below hb hB0).vl)
  have Hone := Lib.hid (fun W (hb : Below w.heap.size w W) (hn : n ≤ 60) (hnn : n' = n) (i : Nat) (hi : i < n) (h1 : -9223372036854775808 ≤ fr + sp) (h2 : fr + sp < 9223372036854775808) =>
    one_any fr sp (fr + sp) A A' n c c' ser ch i W (hS.below hb hB0) (hT.call hb (Nat.le_refl _)) hTB (Nat.le_trans hB0 hb.size) ((hA.below hb).more hb.size) (by rw [← hnn]; exact (hC.below hb).more hb.size) hn hi hsl hcl rfl h1 h2)
  have Hat := Lib.hid (fun W (hb : Below w.heap.size w W) (i : Nat) (hi : i < n) => (hA.below hb).at1 hi)
  have HB1 := Lib.hid hb1; have HK1 := Lib.hid hk1; have Hln := Lib.hid hln; have Hlc := Lib.hid hlc
  clear hb1 hk1 hS hT hTB hA hC hsl hcl hB0 hln hlc
  have q0 := HK1.out.cell 0
  have q1 := HK1.out.cell 1
  have q2 := HK1.out.cell 2
  have q3 := HK1.out.cell 3
  obtain ⟨e1, e2⟩ := Hg.out _ HB1.out
  by_cases hbd : bndB fr sp = true
  case neg =>
    have hbf : bndB fr sp = false := by simpa using hbd
    have Hr := Lib.hid (show rowsR fr sp ser ch = ((2, -1), []) by unfold rowsR; rw [if_pos hbf])
    rw [Hr.out]
    have Hbf := Lib.hid hbf
    clear hbd hbf
    go_enter Tryz.func27, Tryz.ntmps27
    go_wp2_with fail
    refine (Hbd.out _ HB1.out).mono ?_
    rintro e w2 ⟨_, g2, rfl⟩
    obtain rfl := g2 Hbf.out
    clear g2
    go_wp2
    go_ret2
    exact RowsPost.sent (by decide) rfl HB1.out
  have hbs : 1 ≤ sp ∧ sp ≤ 100000 ∧ -1099511627776 ≤ fr ∧ fr ≤ 1099511627776 := by simpa [bndB] using hbd
  have Hbt := Lib.hid hbd
  clear hbd
  by_cases hn60 : 60 < n
  · have hn60' : (60 : Int) < n := by omega
    have Hr := Lib.hid (show rowsR fr sp ser ch = ((2, -1), []) by unfold rowsR; rw [if_neg (by rw [Hbt.out]; decide), if_pos (by rw [Hln.out]; exact hn60)])
    rw [Hr.out]
    clear hbs hn60
    go_enter Tryz.func27, Tryz.ntmps27
    go_wp2_with fail
    refine (Hbd.out _ HB1.out).mono ?_
    rintro e w2 ⟨g2, _, rfl⟩
    obtain rfl := g2 Hbt.out
    clear g2
    go_wp2
    go_quiet (fail)
    go_wp2
    go_ret2
    exact RowsPost.sent (by decide) rfl (by first | exact HB1.out | exact Below.drewN HB1.out _ | exact Below.drewN (Below.drewN HB1.out _) _)
  have hn60' : ¬ (60 : Int) < n := by omega
  by_cases hnn : n' = n
  case neg =>
    have hnn' : ((n' : Int) == (n : Int)) = false := by rw [beq_eq_false_iff_ne]; omega
    have Hr := Lib.hid (show rowsR fr sp ser ch = ((3, -1), []) by unfold rowsR; rw [if_neg (by rw [Hbt.out]; decide), if_neg (by rw [Hln.out]; exact hn60), if_pos (by rw [Hln.out, Hlc.out]; exact hnn)])
    rw [Hr.out]
    clear hbs hn60 hnn
    go_enter Tryz.func27, Tryz.ntmps27
    go_wp2_with fail
    refine (Hbd.out _ HB1.out).mono ?_
    rintro e w2 ⟨g2, _, rfl⟩
    obtain rfl := g2 Hbt.out
    clear g2
    go_wp2
    go_quiet (fail)
    go_wp2
    go_ret2
    exact RowsPost.sent (by decide) rfl (by first | exact HB1.out | exact Below.drewN HB1.out _ | exact Below.drewN (Below.drewN HB1.out _) _)
  have hfs1 : -9223372036854775808 ≤ fr + sp := by omega
  have hfs2 : fr + sp < 9223372036854775808 := by omega
  have hn1 : n ≤ 60 := by omega
  have Hon := Lib.hid (fun W hb i hi => Hone.out W hb hn1 hnn i hi hfs1 hfs2)
  have Hr := Lib.hid (show rowsR fr sp ser ch = match firstBad (oneR fr (fr + sp) ser ch) n with
      | some (c, i) => ((c + 1, (i : Int)), [])
      | none => ((0, -1), (List.range n).map fun i => (ser.getD i [], okL (oneR fr (fr + sp) ser ch i))) by
    unfold rowsR; rw [if_neg (by rw [Hbt.out]; decide), if_neg (by rw [Hln.out]; exact hn60), if_neg (by rw [Hln.out, Hlc.out]; simpa using hnn), Hln.out]; try rfl)
  have hnn2 := hnn.symm
  subst hnn2
  clear hnn
  obtain ⟨i0, hi, hz0, hz1, hz2⟩ := info_parts infoRow
  have Hi := Lib.hid hi; have Hz0 := Lib.hid hz0; have Hz1 := Lib.hid hz1; have Hz2 := Lib.hid hz2
  clear hi hz0 hz1 hz2 hbs hn60 hfs1 hfs2
  generalize hoo : oneR fr (fr + sp) ser ch = R at Hon Hr ⊢
  have HRc := Lib.hid (show ∀ i c, R i = .err c → c < 11 from fun i c h => oneR_code (by rw [hoo]; exact h))
  clear hoo
  go_enter Tryz.func27, Tryz.ntmps27
  go_wp2_with fail
  refine (Hbd.out _ HB1.out).mono ?_
  rintro e w2 ⟨g2, _, rfl⟩
  obtain rfl := g2 Hbt.out
  clear g2
  go_wp2
  generalize hwx : w.alloc (.cells #[.int .i64 fr, .int .i64 sp, .slice A n c, .slice A' n c'] 37) = wx at HB1 HK1 ⊢
  go_loopw [5, 34] (fun ov kv wr => ∃ (k : Nat) (ls : List RowV), k ≤ n ∧ kv = .int .i64 k ∧ wr.ownsRow w.heap.size 59 2 ov k (rowC ls) ∧ ls.length = k ∧ RowsOwn w.heap.size wr ls ∧ firstBad R k = none ∧ ls.map (fun r => (r.nm, r.pts)) = ((List.range k).map fun i => (ser.getD i [], okL (R i))) ∧ Below w.heap.size w wr ∧ Blk wr w.heap.size 37 #[.int .i64 fr, .int .i64 sp, .slice A n c, .slice A' n c']) (fun _ kv _ => n - (intOf kv).toNat)
  case atStart => exact ⟨0, [], Nat.zero_le _, rfl, World.ownsRow_nil _ _ _ _, rfl, RowsOwn.nil _ _, rfl, rfl, HB1.out, HK1.out⟩
  case round =>
    obtain ⟨k, ls, hk, rfl, hown, hll, hro, hfb, hmap, hb, hkb⟩ := hrel
    obtain ⟨Ao, co, rfl, _, _, _⟩ := own_form hown
    have Hown := Lib.hid hown; have Hro := Lib.hid hro; have Hfb := Lib.hid hfb; have Hmap := Lib.hid hmap; have HB := Lib.hid hb; have HK := Lib.hid hkb; have Hll := Lib.hid hll
    have q0 := hkb.cell 0
    have q1 := hkb.cell 1
    have q2 := hkb.cell 2
    have q3 := hkb.cell 3
    clear hown hro hfb hmap hb hkb hll
    by_cases hkn : k < n
    · have hkn' : (k : Int) < n := by omega
      obtain ⟨b0, o0, s, hA0, had0, hs, x0⟩ := Hat.out _ HB.out k hkn
      subst hA0
      have Hsg := Lib.hid (show ser.getD k [] = s by rw [List.getD_eq_getElem?_getD, hs]; rfl)
      have Hok := Lib.hid (Hon.out _ HB.out k hkn)
      clear hs
      rcases hR : R k with cd | ps
      · have Hfin := Lib.hid (firstBad_err Hfb.out hR n hkn)
        have HR := Lib.hid hR
        clear hR
        go_wp2_with fail
        refine Hok.out.mono ?_
        rintro e w3 ⟨g1, _, hb3⟩
        obtain rfl := g1 cd HR.out
        have HB3 := Lib.hid (Below.call HB.out hb3 HB.out.size)
        clear hb3 g1
        go_wp2
        go_ret2
        rw [Hr.out, Hfin.out]
        have hq := Blk.new w3 89 #[.int .i64 (k : Int), sentV (es cd)]
        exact ⟨_, _, [], rfl, .inr (.inr ⟨cd, w3.heap.size, k, HRc.out _ _ HR.out, rfl, rfl, HB3.out.size, hq.lt, hq.cell 0, hq.cell 1⟩), World.ownsRow_nil _ _ _ _, RowsOwn.nil _ _, rfl, fun _ => rfl, Below.alloc HB3.out HB3.out.size _⟩
      · have Hfn := Lib.hid (firstBad_ok Hfb.out hR)
        have HR := Lib.hid hR
        clear hR
        go_wp2_with fail
        refine Hok.out.mono ?_
        rintro e w3 ⟨_, g1, hb3⟩
        obtain ⟨v, rfl, hpo⟩ := g1 ps HR.out
        obtain ⟨Ap, cp, rfl, _, _, _⟩ := own_form hpo
        have HB3 := Lib.hid (Below.call HB.out hb3 HB.out.size)
        have HK3 := Lib.hid (HK.out.below hb3 HK.out.lt)
        have HO3 := Lib.hid (own_below Hown.out hb3 (Nat.le_refl _))
        have HP3 := Lib.hid ((Hro.out.below hb3 (Nat.le_refl _)).snoc (r := ⟨s, ps, .slice Ap ps.length cp⟩) (own_base hpo HB.out.size))
        clear hb3 g1 hpo
        have HoA := Lib.hid (show (w3.alloc (.cells #[.string (B8 s), .slice Ap ps.length cp] 59)).ownsRow w.heap.size 59 2 (.slice Ao k co) k (rowC ls) from HO3.out.alloc _)
        have HrA := Lib.hid (rd_new2 w3 59 (.string (B8 s)) (.slice Ap ps.length cp))
        have HzA := Lib.hid (show w.heap.size ≤ (w3.alloc (.cells #[.string (B8 s), .slice Ap ps.length cp] 59)).heap.size by have := HB3.out.size; simp; omega)
        have HbA := Lib.hid (show Below w.heap.size w (w3.alloc (.cells #[.string (B8 s), .slice Ap ps.length cp] 59)) from Below.alloc HB3.out HB3.out.size _)
        have HkA := Lib.hid (HK3.out.alloc (.cells #[.string (B8 s), .slice Ap ps.length cp] 59))
        have HpA := Lib.hid (HP3.out.below (Below.alloc (Below.refl w3.heap.size w3) (Nat.le_refl _) (.cells #[.string (B8 s), .slice Ap ps.length cp] 59)) (Nat.le_refl _))
        have hk63 : k + 1 ≤ maxLen := by unfold maxLen; omega
        have hk8 : (k + 1) * 40 ≤ 140737488355328 := by omega
        go_wp2_with (at_builtin; refine wpList_append_rd _ rfl (.tmp 52) (.tmp 56) _ rfl w.heap.size 59 i0 (.agg #[.string ⟨#[]⟩, .slice none 0 0]) 2 40 Tryz.underlying60 Hi.out Hz0.out Hz1.out Hz2.out rfl (by decide) (.slice Ao k co) k _ rfl HoA.out _ _ 1 1 [.string (B8 s), .slice Ap ps.length cp] rfl HrA.out (row_one s Ap ps.length cp) hk63 hk8 HzA.out ?_; intro v' wa hown' hgr hat; have Hv := Lib.hid hown'; have HBb := Lib.hid (Below.grown HbA.out hgr HzA.out (fun g hg => (own_lt HoA.out g hg).1)); have HPb := Lib.hid (HpA.out.after HoA.out hgr); have HKb := Lib.hid (HkA.out.grown hgr (own_ne_blk HoA.out HkA.out (by decide))); clear hown' hgr hat)
        go_roundw
        case rel =>
          refine ⟨k + 1, ls ++ [⟨s, ps, .slice Ap ps.length cp⟩], by omega, by go_num, ?_, by rw [List.length_append, Hll.out]; rfl, HPb.out, Hfn.out, ?_, HBb.out, HKb.out⟩
          · rw [rowC_snoc]; exact Hv.out
          · rw [List.map_append, Hmap.out, List.range_succ, List.map_append, List.map_singleton, List.map_singleton, Hsg.out, HR.out]; rfl
        case measure => simp [intOf]; omega
    · obtain rfl : k = n := by omega
      have hkn' : ¬ (k : Int) < k := by omega
      clear q0 q1 q2 q3
      go_wp2
      go_ret2
      rw [Hr.out, Hfb.out]
      exact ⟨_, _, ls, rfl, .inl ⟨rfl, rfl⟩, by rw [Hll.out]; exact Hown.out, Hro.out, Hmap.out, fun h => absurd rfl h, HB.out⟩
end Go.Proofs.YtpbgonpmpjpljaaGreatDoor

namespace Go.Proofs.YtpbgonpmpjpljaaGreatDoor
open Go.RowKit
set_option linter.unusedVariables false

/-- The number and the place of what is wrong with points. -/
def ptF (l : List (Int × Int)) : Nat × Int := if 120 < l.length then (2, -1) else match (List.range l.length).find? fun i => decide (¬ okAt l i) with
  | some i => (codeAt l i + 1, (i : Int))
  | none => (0, -1)
theorem ptF_cases (l : List (Int × Int)) : (120 < l.length ∧ ptF l = (2, -1)) ∨ (l.length ≤ 120 ∧ ∃ i, i < l.length ∧ (∀ j, j < i → okAt l j) ∧ ¬ okAt l i ∧ ptF l = (codeAt l i + 1, (i : Int))) ∨ (l.length ≤ 120 ∧ (∀ j, j < l.length → okAt l j) ∧ ptF l = (0, -1)) := by
  unfold ptF
  by_cases h : 120 < l.length
  · exact .inl ⟨h, if_pos h⟩
  rw [if_neg h]
  cases hf : (List.range l.length).find? fun i => decide (¬ okAt l i) with
  | some i =>
    rw [List.find?_range_eq_some] at hf
    obtain ⟨h1, h2, h3⟩ := hf
    refine .inr (.inl ⟨by omega, i, by simpa using h2, fun j hj => ?_, by simpa using h1, rfl⟩)
    have := h3 j hj
    simpa using this
  | none =>
    rw [List.find?_range_eq_none] at hf
    exact .inr (.inr ⟨by omega, fun j hj => by have := hf j hj; simpa using this, rfl⟩)
theorem encode_u {es : Nat → Addr} {B : Nat} (A : Option Addr) (n c : Nat) (l : List (Int × Int)) (w : World) (hS : SV es B w) (hT : TabAt w) (hB0 : B ≤ w.heap.size) (hA : Rd w w.heap.size 2 A n (ptsC l)) (hl : ∀ p ∈ l, 0 ≤ p.2 ∧ p.2 < 18446744073709551616) :
    Calls Tryz.prog 66 #[.slice A n c] w fun e w' => ∃ v s, e = .returned (.tuple #[.string s, v]) ∧ EV es w.heap.size w' v (ptF l) ∧ ((ptF l).1 = 0 → s = bytesOf (chunkL l)) ∧ Below w.heap.size w w' := by
  have hlen : l.length = n := by have := hA.1; rw [flat_len (fun p : Int × Int => [Value.int .i64 p.1, Value.int .u64 p.2]) 2 (fun _ => rfl)] at this; omega
  rcases ptF_cases l with ⟨h, e⟩ | ⟨h, i, h1, h2, h3, e⟩ | ⟨h, h2, e⟩
  · refine (encode_long A n c w hS (by omega)).mono ?_
    rintro e' w' ⟨rfl, rfl⟩
    exact ⟨_, _, rfl, .inr (.inl ⟨1, by decide, e, rfl⟩), fun h => (by rw [e] at h; cases h), Below.refl _ _⟩
  · refine (encode_bad A n c l i w hS hB0 hA (by omega) (by omega) h2 h3).mono ?_
    rintro e' w' ⟨pb, rfl, q1, q2, q3, q4, q5⟩
    exact ⟨_, _, rfl, .inr (.inr ⟨codeAt l i, pb, i, (by unfold codeAt; split <;> omega), e, rfl, q1, q2, q3, q4⟩), fun h => (by rw [e] at h; simp at h), q5⟩
  · refine (encode_ok A n c l w hS hT hB0 hA (by omega) (fun j hj => h2 j (by omega)) hl).mono ?_
    rintro e' w' ⟨rfl, q⟩
    exact ⟨_, _, rfl, .inl ⟨e, rfl⟩, fun _ => rfl, q⟩
end Go.Proofs.YtpbgonpmpjpljaaGreatDoor

namespace Go.Proofs.YtpbgonpmpjpljaaGreatDoor
open Go.RowKit
set_option linter.unusedVariables false

/-- Rows that can be read. -/
def RowsRd (w : World) (B : Nat) (A : Option Addr) (n : Nat) (l : List RowV) : Prop :=
  Rd w B 2 A n (rowC l) ∧ ∀ r ∈ l, ∃ A' c', r.v = .slice A' r.pts.length c' ∧ Rd w B 2 A' r.pts.length (ptsC r.pts)
theorem RowsRd.below {w w' : World} {B C : Nat} {A : Option Addr} {n : Nat} {l : List RowV} (h : RowsRd w B A n l) (hb : Below C w w') (hC : B ≤ C) : RowsRd w' B A n l :=
  ⟨h.1.belowOf hb hC, fun r hr => by obtain ⟨A', c', h1, h2⟩ := h.2 r hr; exact ⟨A', c', h1, h2.belowOf hb hC⟩⟩
theorem RowsRd.more {w : World} {B B' : Nat} {A : Option Addr} {n : Nat} {l : List RowV} (h : RowsRd w B A n l) (hC : B ≤ B') : RowsRd w B' A n l :=
  ⟨h.1.more hC, fun r hr => by obtain ⟨A', c', h1, h2⟩ := h.2 r hr; exact ⟨A', c', h1, h2.more hC⟩⟩
theorem RowsRd.len {w : World} {B : Nat} {A : Option Addr} {n : Nat} {l : List RowV} (h : RowsRd w B A n l) : l.length = n := by
  have := h.1.1
  unfold rowC at this
  rw [flat_len (fun r : RowV => [Value.string (B8 r.nm), r.v]) 2 (fun _ => rfl)] at this; omega
def mkV (f : Nat × Int) (dup : Bool) (p : Nat × Int) (inn : Bool) : Option Nat :=
  if f.1 ≠ 0 then some (f.1 - 1) else if dup = true then some 2 else if p.1 ≠ 0 then some (p.1 - 1) else if inn = true then none else some 1
/-- What (Block).chunk finds wrong with row i. -/
def mkR (fr en : Int) (rows : List (Bs × List (Int × Int))) (i : Nat) : Option Nat :=
  mkV (rdF (rows.getD i ([], [])).1) (dupB (rows.map Prod.fst) i) (ptF (rows.getD i ([], [])).2) (allIn fr en (rows.getD i ([], [])).2)
def rowP2 (r : RowV) : Bs × List (Int × Int) := (r.nm, r.pts)
set_option maxRecDepth 100000 in
set_option maxHeartbeats 4000000 in
theorem bchunk_any {es : Nat → Addr} {B : Nat} (fr sp en : Int) (A1 A2 A : Option Addr) (n1 c1 n2 c2 n c : Nat) (rows : List RowV) (i : Nat) (w : World) (hS : SBk es B w) (hT : TabAt w) (hB0 : B ≤ w.heap.size)
    (hA : RowsRd w w.heap.size A n rows) (hn : n ≤ 60) (hi : i < n) (hsl : ∀ r ∈ rows, r.nm.length ≤ 100000 ∧ ∀ p ∈ r.pts, 0 ≤ p.2 ∧ p.2 < 18446744073709551616) (hE : en = fr + sp) (hE1 : -9223372036854775808 ≤ fr + sp) (hE2 : fr + sp < 9223372036854775808) :
    Calls Tryz.prog 41 #[.agg #[.int .i64 fr, .int .i64 sp, .slice A1 n1 c1, .slice A2 n2 c2], .slice A n c, .int .i64 (i : Int)] w fun e w' =>
      (∀ k, mkR fr en (rows.map rowP2) i = some k → e = .returned (.tuple #[.string ⟨#[]⟩, sentV (es k)])) ∧
      (mkR fr en (rows.map rowP2) i = none → e = .returned (.tuple #[.string (bytesOf (chunkL ((rows.map rowP2).getD i ([], [])).2)), .nilIface])) ∧ Below w.heap.size w w' := by
  obtain ⟨b0, o0, r, rfl, had0, hr, x0, y0⟩ := hA.1.at2 hi
  obtain ⟨hsl1, hpv⟩ := hsl r (List.mem_of_getElem? hr)
  obtain ⟨Ap, cp, hrv, hrp⟩ := hA.2 r (List.mem_of_getElem? hr)
  rw [hrv] at y0
  clear hrv
  obtain ⟨j, s', hj1, hj2, hj3, xj, hdup⟩ : ∃ (j : Nat) (s' : Bs), (0 < i → i ≤ j + 1) ∧ (0 < i → j + 1 ≤ i) ∧ j < n ∧ w.cell? ⟨b0, o0 + j * 2, none⟩ = some (.string (B8 s')) ∧ dupB ((rows.map rowP2).map Prod.fst) i = (decide (0 < i) && leS r.nm s') := by
    have hj : i - 1 < n := by omega
    obtain ⟨b2, o2, r', e2, _, hs', x2, _⟩ := hA.1.at2 hj
    injection e2 with e2
    injection e2 with e2 e3
    subst e2; subst e3
    refine ⟨i - 1, r'.nm, fun h => by omega, fun h => by omega, hj, x2, ?_⟩
    unfold dupB
    rw [List.getD_eq_getElem?_getD, List.getD_eq_getElem?_getD, List.getElem?_map, List.getElem?_map, List.getElem?_map, List.getElem?_map, hr, hs']
    rfl
  have hg0 : (rows.map rowP2).getD i ([], []) = (r.nm, r.pts) := by rw [List.getD_eq_getElem?_getD, List.getElem?_map, hr]; rfl
  have hone : mkR fr en (rows.map rowP2) i = mkV (rdF r.nm) (decide (0 < i) && leS r.nm s') (ptF r.pts) (allIn fr en r.pts) := by
    unfold mkR
    rw [hdup, hg0]
  rw [hone, hg0]
  clear hone hdup hr hsl hg0 hA
  obtain ⟨s, hsn⟩ : ∃ s, r.nm = s := ⟨_, rfl⟩
  obtain ⟨ps, hps⟩ : ∃ ps, r.pts = ps := ⟨_, rfl⟩
  rw [hsn] at x0 hsl1 ⊢
  rw [hps] at y0 hpv hrp ⊢
  clear hsn hps r
  obtain ⟨m, hm⟩ : ∃ m, m = ps.length := ⟨_, rfl⟩
  rw [← hm] at y0 hrp
  have Hm := Lib.hid hm
  clear hm
  have hb1 : Below w.heap.size w (w.alloc (.cells #[.int .i64 fr, .int .i64 sp, .slice A1 n1 c1, .slice A2 n2 c2] 37)) := Below.alloc (Below.refl _ _) (Nat.le_refl _) _
  have hk1 := Blk.new w 37 #[.int .i64 fr, .int .i64 sp, .slice A1 n1 c1, .slice A2 n2 c2]
  have Hl := Lib.hid (fun W (hb : Below w.heap.size w W) => lread_u s hsl1 W (hS.below hb hB0).vl (Nat.le_trans hB0 hb.size))
  have He := Lib.hid (fun W (hb : Below w.heap.size w W) => encode_u Ap m cp ps W (hS.below hb hB0).v (hT.call hb (Nat.le_refl _)) (Nat.le_trans hB0 hb.size) ((hrp.below hb).more hb.size) hpv)
  have Hw := Lib.hid (fun W (hb : Below w.heap.size w W) (hn : m ≤ 100000) => within_any Ap m cp ps fr en W ((hrp.below hb).more hb.size) hn)
  have Hbare := Lib.hid (fun C v c W (hb : Below w.heap.size w W) (hv : EV es C W v c) (hc : c.1 ≠ 0) => cbare_any v c W hv hc (hS.below hb hB0) (Nat.le_trans hB0 hb.size))
  have Hx := Lib.hid (fun W (hb : Below w.heap.size w W) => show W.cell? ⟨b0, o0 + i * 2, none⟩ = some (.string (B8 s)) ∧ W.cell? ⟨b0, o0 + j * 2, none⟩ = some (.string (B8 s')) ∧ W.cell? ⟨b0, o0 + i * 2 + 1, none⟩ = some (.slice Ap m cp) from
    ⟨(hb.cell (p := ⟨b0, o0 + i * 2, none⟩) had0).trans x0, (hb.cell (p := ⟨b0, o0 + j * 2, none⟩) had0).trans xj, (hb.cell (p := ⟨b0, o0 + i * 2 + 1, none⟩) had0).trans y0⟩)
  have Hg := Lib.hid (fun W (hb : Below w.heap.size w W) => show W.cell? ⟨1, 0, none⟩ = some (sentV (es 1)) ∧ W.cell? ⟨0, 0, none⟩ = some (sentV (es 2)) from
    ⟨(hS.below hb hB0).var 1 (by decide), (hS.below hb hB0).var 2 (by decide)⟩)
  have Hend := Lib.hid (fun W => bend_any fr sp en A1 A2 n1 c1 n2 c2 hE hE1 hE2 W)
  have HB1 := Lib.hid hb1; have HK1 := Lib.hid hk1
  have hin : (i : Int) < n := by omega
  have hcmp : (Op.bytesLess (B8 s).toList (B8 s').toList || (B8 s).toList == (B8 s').toList) = leS s s' := by rw [B8_toList, B8_toList]; rfl
  have Hcmp := Lib.hid hcmp
  clear x0 xj y0 hsl1 hpv hS hT hb1 hk1 hE hE1 hE2 hB0 hcmp hrp
  obtain ⟨x0, xj, y0⟩ := Hx.out _ HB1.out
  obtain ⟨fc, hfc⟩ : ∃ fc, rdF s = fc := ⟨_, rfl⟩
  rw [hfc] at Hl ⊢
  obtain ⟨pf, hpf⟩ : ∃ pf, ptF ps = pf := ⟨_, rfl⟩
  have Hpf := Lib.hid hpf
  rw [hpf] at He ⊢
  clear hfc hpf
  go_enter Tryz.func41, Tryz.ntmps41
  go_wp2_with fail
  have hkr := Blk.new (w.alloc (.cells #[.int .i64 fr, .int .i64 sp, .slice A1 n1 c1, .slice A2 n2 c2] 37)) 59 #[.string (B8 s), .slice Ap m cp]
  rw [World.size_alloc] at hkr
  have HK2 := Lib.hid (HK1.out.alloc (.cells #[.string (B8 s), .slice Ap m cp] 59))
  have HB2 := Lib.hid (Below.alloc HB1.out HB1.out.size (.cells #[.string (B8 s), .slice Ap m cp] 59))
  have HR2 := Lib.hid hkr
  clear hkr x0 xj y0
  generalize (w.alloc (.cells #[.int .i64 fr, .int .i64 sp, .slice A1 n1 c1, .slice A2 n2 c2] 37)).alloc (.cells #[.string (B8 s), .slice Ap m cp] 59) = w2 at HK2 HB2 HR2 ⊢
  refine (Hl.out _ HB2.out).mono ?_
  rintro e w3 ⟨v, u, l, rfl, hev, hown, _, _, hb3⟩
  obtain ⟨Au, cu, rfl, _, _, _⟩ := own_form hown
  have HB3 := Lib.hid (Below.call HB2.out hb3 HB2.out.size)
  have HK3 := Lib.hid (HK2.out.below hb3 HK2.out.lt)
  have HR3 := Lib.hid (HR2.out.below hb3 HR2.out.lt)
  obtain ⟨x0, xj, y0⟩ := Hx.out _ HB3.out
  obtain ⟨e1, e2⟩ := Hg.out _ HB3.out
  have q0 := HK3.out.cell 0
  have q1 := HK3.out.cell 1
  have q2 := HK3.out.cell 2
  have q3 := HK3.out.cell 3
  have r0 := HR3.out.cell 0
  have r1 := HR3.out.cell 1
  have Hev := Lib.hid hev
  clear hown hb3
  by_cases hc0 : fc.1 = 0
  case neg =>
    obtain ⟨t, p, rfl⟩ := hev.pos hc0
    have Hbb := Lib.hid (Hbare.out _ _ _ _ HB3.out Hev.out hc0)
    have Hone := Lib.hid (show mkV fc (decide (0 < i) && leS s s') pf (allIn fr en ps) = some (fc.1 - 1) from if_pos hc0)
    clear hev hc0
    go_wp2_with fail
    refine Hbb.out.mono ?_
    rintro e w4 ⟨rfl, hb4⟩
    have HB4 := Lib.hid (Below.call HB3.out hb4 HB3.out.size)
    clear hb4
    go_wp2
    go_ret2
    exact ⟨fun k h => (by rw [Hone.out] at h; injection h with h; subst h; rfl), fun h => (by rw [Hone.out] at h; cases h), HB4.out⟩
  obtain rfl := hev.zero hc0
  clear hev
  by_cases hdu : (decide (0 < i) && leS s s') = true
  · have Hone := Lib.hid (show mkV fc (decide (0 < i) && leS s s') pf (allIn fr en ps) = some 2 by unfold mkV; rw [if_neg (by simpa using hc0), if_pos hdu])
    have hi0 : 0 < i := by rw [Bool.and_eq_true, decide_eq_true_eq] at hdu; exact hdu.1
    have hle := Hcmp.out
    rw [show leS s s' = true by rw [Bool.and_eq_true] at hdu; exact hdu.2] at hle
    have hi0' : (0 : Int) < i := by omega
    have hd0 : decide ((0 : Int) < i) = true := decide_eq_true hi0'
    have hd1 : decide (0 < i) = true := decide_eq_true hi0
    have hw : IntKind.i64.wrap ((i : Int) - 1) = (j : Int) := by rw [IntKind.wrap_i64]; have := hj1 hi0; have := hj2 hi0; omega
    have hjn : (j : Int) < n := by omega
    clear hdu hj1 hj2 hc0
    go_wp2
    go_quiet (fail)
    go_wp2
    go_quiet (fail)
    go_wp2
    go_ret2
    exact ⟨fun k h => (by rw [Hone.out] at h; injection h with h; subst h; rfl), fun h => (by rw [Hone.out] at h; cases h), by first | exact HB3.out | exact Below.drewN HB3.out _ | exact Below.drewN (Below.drewN HB3.out _) _⟩
  have Hdu := Lib.hid (show (decide (0 < i) && leS s s') = false by simpa using hdu)
  have hov : mkV fc (decide (0 < i) && leS s s') pf (allIn fr en ps) = if pf.1 ≠ 0 then some (pf.1 - 1) else if allIn fr en ps = true then none else some 1 := by
    unfold mkV; rw [if_neg (by simpa using hc0), if_neg hdu]
  clear hdu hc0
  have Hov := Lib.hid hov
  clear hov
  have hw : 0 < i → IntKind.i64.wrap ((i : Int) - 1) = (j : Int) := fun h => by rw [IntKind.wrap_i64]; have := hj1 h; have := hj2 h; omega
  have hjn : (j : Int) < n := by omega
  clear hj1 hj2
  rcases Nat.eq_zero_or_pos i with h0 | h0
  case' inl =>
    have hd0 : decide ((0 : Int) < i) = false := decide_eq_false (by omega)
    have hd1 : decide (0 < i) = false := decide_eq_false (by omega)
    clear hw h0
    go_wp2
    go_quiet (fail)
  case' inr =>
    have hd0 : decide ((0 : Int) < i) = true := decide_eq_true (by omega)
    have hd1 : decide (0 < i) = true := decide_eq_true h0
    have hle := Hcmp.out
    rw [show leS s s' = false by have := Hdu.out; rw [decide_eq_true h0, Bool.true_and] at this; exact this] at hle
    replace hw := hw h0
    clear h0
    go_wp2
    go_quiet (fail)
    clear hle hw
  all_goals
    have HB4 := Lib.hid (show Below w.heap.size w (w3.drewN nq) from Below.drewN HB3.out nq)
    have HK4 := Lib.hid (HK3.out.drewN nq)
    have HR4 := Lib.hid (HR3.out.drewN nq)
    clear x0 xj y0 e1 e2 q0 q1 q2 q3 r0 r1 hd0 hd1
    generalize w3.drewN nq = w4 at HB4 HK4 HR4 ⊢
    have r1 := HR4.out.cell 1
    go_wp2_with fail
    refine (He.out _ HB4.out).mono ?_
    rintro e w5 ⟨v, st, rfl, hev, hst, hb5⟩
    have HB5 := Lib.hid (Below.call HB4.out hb5 HB4.out.size)
    have HK5 := Lib.hid (HK4.out.below hb5 HK4.out.lt)
    have HR5 := Lib.hid (HR4.out.below hb5 HR4.out.lt)
    have Hev5 := Lib.hid hev
    clear hb5 r1
    by_cases hp0 : pf.1 = 0
    case' neg =>
      obtain ⟨t, p, rfl⟩ := hev.pos hp0
      have Hbb := Lib.hid (Hbare.out _ _ _ _ HB5.out Hev5.out hp0)
      have Hone := Lib.hid (show mkV fc (decide (0 < i) && leS s s') pf (allIn fr en ps) = some (pf.1 - 1) by rw [Hov.out, if_pos hp0])
      clear hev hp0 hst
      go_wp2_with fail
      refine Hbb.out.mono ?_
      rintro e w6 ⟨rfl, hb6⟩
      have HB6 := Lib.hid (Below.call HB5.out hb6 HB5.out.size)
      clear hb6
      go_wp2
      go_ret2
      exact ⟨fun k h => (by rw [Hone.out] at h; injection h with h; subst h; rfl), fun h => (by rw [Hone.out] at h; cases h), HB6.out⟩
    obtain rfl := hev.zero hp0
    obtain rfl := hst hp0
    have hm100 : m ≤ 100000 := by
      rw [Hm.out]
      rcases ptF_cases ps with ⟨_, e⟩ | ⟨h, _⟩ | ⟨h, _⟩
      · rw [Hpf.out] at e; rw [e] at hp0; cases hp0
      · omega
      · omega
    have Hno := Lib.hid (show mkV fc (decide (0 < i) && leS s s') pf (allIn fr en ps) = if allIn fr en ps = true then none else some 1 by rw [Hov.out, if_neg (by simpa using hp0)])
    have Hw5 := Lib.hid (fun W (hb : Below w.heap.size w W) => Hw.out W hb hm100)
    clear hev hst hp0 hm100
    obtain ⟨ai, hai⟩ : ∃ ai, allIn fr en ps = ai := ⟨_, rfl⟩
    rw [hai] at Hw5
    have Hai := Lib.hid hai
    clear hai
    have HBd := Lib.hid (show Below w.heap.size w w5.drew from HB5.out.drew)
    have HKd := Lib.hid (HK5.out.drew)
    have HRd := Lib.hid (HR5.out.drew)
    have Hkc := Lib.hid (fun W (h : Blk W w.heap.size 37 #[.int .i64 fr, .int .i64 sp, .slice A1 n1 c1, .slice A2 n2 c2]) (h2 : Blk W (w.heap.size + 1) 59 #[.string (B8 s), .slice Ap m cp]) => show W.cell? ⟨w.heap.size, 0, none⟩ = some (.int .i64 fr) ∧ W.cell? ⟨w.heap.size, 1, none⟩ = some (.int .i64 sp) ∧ W.cell? ⟨w.heap.size, 2, none⟩ = some (.slice A1 n1 c1) ∧ W.cell? ⟨w.heap.size, 3, none⟩ = some (.slice A2 n2 c2) ∧ W.cell? ⟨w.heap.size + 1, 1, none⟩ = some (.slice Ap m cp) from ⟨h.cell 0, h.cell 1, h.cell 2, h.cell 3, h2.cell 1⟩)
    go_wp2
    go_region_held3 (fun w' => w'.cell? ⟨w.heap.size, 0, none⟩ = some (.int .i64 fr) ∧ w'.cell? ⟨w.heap.size, 1, none⟩ = some (.int .i64 sp) ∧ w'.cell? ⟨w.heap.size, 2, none⟩ = some (.slice A1 n1 c1) ∧ w'.cell? ⟨w.heap.size, 3, none⟩ = some (.slice A2 n2 c2) ∧ w'.cell? ⟨w.heap.size + 1, 1, none⟩ = some (.slice Ap m cp))
      (first | with_reducible exact Hkc.out _ HKd.out HRd.out | with_reducible exact Hkc.out _ HK6.out HR6.out | with_reducible exact Hkc.out _ HK7.out HR7.out)
      (first | (go_at_call 36; refine (Hend.out _).mono ?_; rintro e w6 ⟨rfl, hb⟩; have HB6 := Lib.hid (Below.call HBd.out hb HBd.out.size); have HK6 := Lib.hid (HKd.out.below hb HKd.out.lt); have HR6 := Lib.hid (HRd.out.below hb HRd.out.lt); clear hb) | (go_at_call 67; refine (Hw5.out _ HB6.out).mono ?_; rintro e w7 ⟨rfl, hb⟩; have HB7 := Lib.hid (Below.call HB6.out hb HB6.out.size); have HK7 := Lib.hid (HK6.out.below hb HK6.out.lt); have HR7 := Lib.hid (HR6.out.below hb HR6.out.lt); clear hb))
    all_goals
      obtain ⟨e1, _⟩ := Hg.out _ HB7.out
      cases ai
      · have Hre := Lib.hid (show mkV fc (decide (0 < i) && leS s s') pf (allIn fr en ps) = some 1 by rw [Hno.out, Hai.out]; rfl)
        go_wp2
        go_quiet (fail)
        go_wp2
        go_ret2
        exact ⟨fun k h => (by rw [Hre.out] at h; injection h with h; subst h; rfl), fun h => (by rw [Hre.out] at h; cases h), by first | exact HB7.out | exact Below.drewN HB7.out _ | exact Below.drewN (Below.drewN HB7.out _) _⟩
      · have Hre := Lib.hid (show mkV fc (decide (0 < i) && leS s s') pf (allIn fr en ps) = none by rw [Hno.out, Hai.out]; rfl)
        go_wp2
        go_ret2
        exact ⟨fun k h => (by rw [Hre.out] at h; cases h), fun h => rfl, by first | exact HB7.out | exact Below.drewN HB7.out _ | exact Below.drewN (Below.drewN HB7.out _) _⟩
end Go.Proofs.YtpbgonpmpjpljaaGreatDoor

namespace Go.Proofs.YtpbgonpmpjpljaaGreatDoor
open Go.RowKit
set_option linter.unusedVariables false

/-- The first of n that is wrong. -/
def firstM (g : Nat → Option Nat) : Nat → Option (Nat × Nat)
  | 0 => none
  | n + 1 => match firstM g n with
    | some x => some x
    | none => match g n with
      | some c => some (c, n)
      | none => none
theorem firstM_ok {g : Nat → Option Nat} {n : Nat} (h : firstM g n = none) (h2 : g n = none) : firstM g (n + 1) = none := by
  unfold firstM; rw [h, h2]
theorem firstM_err {g : Nat → Option Nat} {n c : Nat} (h : firstM g n = none) (h2 : g n = some c) : ∀ m, n < m → firstM g m = some (c, n) := by
  intro m
  induction m with
  | zero => intro h3; omega
  | succ m ih =>
    intro h3
    rcases Nat.lt_or_ge n m with h4 | h4
    · unfold firstM; rw [ih h4]
    · obtain rfl : n = m := by omega
      unfold firstM; rw [h, h2]
/-- The rows that have points. -/
def keepR (rows : List (Bs × List (Int × Int))) : List (Bs × List (Int × Int)) := rows.filter fun r => decide (r.2 ≠ [])
/-- What Make answers: number and place of what is wrong; the names and the chunks. -/
def makeR (fr sp : Int) (rows : List (Bs × List (Int × Int))) : (Nat × Int) × List (Bs × List Nat) :=
  if bndB fr sp = false then ((2, -1), []) else if 60 < rows.length then ((2, -1), []) else
  match firstM (mkR fr (fr + sp) rows) rows.length with
  | some (c, i) => ((c + 1, (i : Int)), [])
  | none => ((0, -1), (keepR rows).map fun r => (r.1, chunkL r.2))
theorem mkR_code {fr en : Int} {rows : List (Bs × List (Int × Int))} {i c : Nat} (h : mkR fr en rows i = some c) : c < 11 := by
  unfold mkR mkV at h
  split at h
  · injection h with h
    have := rdF_le (rows.getD i ([], [])).1
    omega
  split at h
  · injection h with h; omega
  split at h
  · injection h with h
    rcases ptF_cases (rows.getD i ([], [])).2 with ⟨_, e⟩ | ⟨_, k, _, _, _, e⟩ | ⟨_, _, e⟩
    · rw [e] at h; simp only at h; omega
    · rw [e] at h; simp only at h; unfold codeAt at h; split at h <;> omega
    · rw [e] at h; simp only at h; omega
  split at h
  · cases h
  · injection h with h; omega
/-- Two slices of one kind, apart. -/
structure Pair (w : World) (base : Nat) (e : TypeId) (v1 : Value) (n1 : Nat) (xs1 : List Value) (v2 : Value) (n2 : Nat) (xs2 : List Value) : Prop where
  l : w.ownsRow base e 1 v1 n1 xs1
  r : w.ownsRow base e 1 v2 n2 xs2
  ap : ∀ k, v1.ownBlock = some k → v2.ownBlock ≠ some k
section
variable {w w' wa : World} {base n1 n2 : Nat} {e : TypeId} {v1 v2 v' : Value} {xs1 xs2 ys : List Value}
theorem Pair.fr (h : Pair w base e v1 n1 xs1 v2 n2 xs2) (hf : Fr (fun _ => False) w w') : Pair w' base e v1 n1 xs1 v2 n2 xs2 :=
  ⟨hf.own h.l fun _ _ h => h, hf.own h.r fun _ _ h => h, h.ap⟩
theorem Pair.left {m : Nat} (h : Pair w base e v1 n1 xs1 v2 n2 xs2) (hf : Fr (fun _ => False) w w') (hg : w'.grownBy wa v1.ownBlock) (ho : wa.ownsRow base e 1 v' m ys) (hat : v'.ownBlock = v1.ownBlock ∨ v'.ownBlock = some w'.heap.size) : Pair wa base e v' m ys v2 n2 xs2 :=
  ⟨ho, ((Fr.refl (fun k => v1.ownBlock = some k) w').grown hg (fun k hk => .inr hk)).own (hf.own h.r fun _ _ h => h) (fun k hk hs => h.ap k hs hk), fun k hk => by
    rcases hat with h1 | h1
    · rw [h1] at hk; exact h.ap k hk
    · rw [h1] at hk
      injection hk with hk
      intro h2
      have := (own_lt h.r k h2).2
      have := hf.size
      omega⟩
theorem Pair.right {m : Nat} (h : Pair w base e v1 n1 xs1 v2 n2 xs2) (hf : Fr (fun _ => False) w w') (hg : w'.grownBy wa v2.ownBlock) (ho : wa.ownsRow base e 1 v' m ys) (hat : v'.ownBlock = v2.ownBlock ∨ v'.ownBlock = some w'.heap.size) : Pair wa base e v1 n1 xs1 v' m ys :=
  ⟨((Fr.refl (fun k => v2.ownBlock = some k) w').grown hg (fun k hk => .inr hk)).own (hf.own h.l fun _ _ h => h) (fun k hk hs => h.ap k hk hs), ho, fun k hk => by
    rcases hat with h1 | h1
    · rw [h1]; exact h.ap k hk
    · rw [h1]
      intro h2
      injection h2 with h2
      have := (own_lt h.l k hk).2
      have := hf.size
      omega⟩
end
def txS (l : List (Bs × List Nat)) : List Value := l.map fun r => .string (B8 r.1)
def chS (l : List (Bs × List Nat)) : List Value := l.map fun r => .string (bytesOf r.2)
end Go.Proofs.YtpbgonpmpjpljaaGreatDoor

namespace Go.Proofs.YtpbgonpmpjpljaaGreatDoor
open Go.RowKit
set_option linter.unusedVariables false

section
variable {P : Program} {ops : Array Oper} {Q : Exit → Act → World → Prop} {md : Region.Mode} {S : World → Prop} {gs : List Nat}

/-- Has none of gs come up? -/
def noneUp (gs : List Nat) (listed : Array Bool) : Bool := gs.all fun g => !listed.getD g true
/-- Whatever order is picked from here on; S holds behind every operation, so long as none of gs has come up. -/
def wpAnyG (P : Program) (md : Region.Mode) (ops : Array Oper) (Q : Exit → Act → World → Prop) (S : World → Prop) (gs : List Nat) : Nat → Array Bool → Act → World → Prop
  | 0, listed, a, w => Region.ready md ops listed = [] ∧ Q .normal a w
  | fuel + 1, listed, a, w =>
    (Region.ready md ops listed = [] → Q .normal a w) ∧
    ∀ i ∈ Region.ready md ops listed, wpOp P ops Q i (fun a' w' => (noneUp gs (listed.setIfInBounds i true) = true → S w') ∧ wpAnyG P md ops Q S gs fuel (listed.setIfInBounds i true) a' w') a w
theorem wpAny_of_G : ∀ (fuel : Nat) (listed : Array Bool) (a : Act) (w : World), wpAnyG P md ops Q S gs fuel listed a w → wpAny P md ops Q fuel listed a w
  | 0, _, _, _, h => h
  | fuel + 1, _, _, _, h => ⟨h.1, fun i hi => wpOp_mono (fun a' w' h' => wpAny_of_G fuel _ a' w' h'.2) (h.2 i hi)⟩
theorem noneUp_set {listed : Array Bool} {i : Nat} (hi : i ∉ gs) : noneUp gs (listed.setIfInBounds i true) = noneUp gs listed := by
  unfold noneUp
  rw [Bool.eq_iff_iff, List.all_eq_true, List.all_eq_true]
  refine forall_congr' fun g => forall_congr' fun hg => ?_
  have e : i ≠ g := fun e => hi (by rw [e]; exact hg)
  rw [getD_set_ne true e]
/-- Every store of gs waits for i. -/
def waitAll (md : Region.Mode) (ops : Array Oper) (gs : List Nat) (i : Nat) : Bool := gs.all fun g => match ops[g]? with
  | some o => o.after.any fun e => Region.binds md e && e.on == i
  | none => true
theorem waitAll_spec {i g : Nat} {o : Oper} (h : waitAll md ops gs i = true) (hg : g ∈ gs) (ho : ops[g]? = some o) : ∃ e ∈ o.after, Region.binds md e = true ∧ e.on = i := by
  have := (List.all_eq_true.1 h) g hg
  rw [ho] at this
  simp only at this
  obtain ⟨e, he, hb⟩ := Array.any_eq_true'.1 this
  rw [Bool.and_eq_true, beq_iff_eq] at hb
  exact ⟨e, he, hb.1, hb.2⟩
theorem wpAnyG_first {i : Nat} {oi : Oper} {v : Value} (hi : ops[i]? = some oi) (hsel : ∀ (j : Nat) (o : Oper) cs b, ops[j]? = some o → o.op ≠ .select cs b)
    (hQ : ∀ c a w, Q (.panic c) (a.put oi.dst v) w → Q (.panic c) a w) (hig : i ∉ gs) (hwt : waitAll md ops gs i = true) :
    ∀ (fuel : Nat) (listed : Array Bool) (a : Act) (w : World),
      (∀ j oj, ops[j]? = some oj → j ≠ i → listed.getD j true = false → (∀ e ∈ oj.after, Region.binds md e = true → e.on ≠ i) → oi.apart ops oj = true) → noneUp gs listed = true →
      i ∈ Region.ready md ops listed → YieldsIf P ops S oi v a → S w →
      wpAnyG P md ops Q S gs fuel (listed.setIfInBounds i true) (a.put oi.dst v) w → wpAnyG P md ops Q S gs (fuel + 1) listed a w := by
  intro fuel
  induction fuel with
  | zero =>
    intro listed a w _ hn hr hy hS H
    refine ⟨fun h => (by rw [h] at hr; cases hr), fun j hj => ?_⟩
    by_cases hji : j = i
    · subst hji; exact hy.wpOp hi hS ⟨fun _ => hS, H⟩
    · have := ready_mono hj hji
      rw [H.1] at this
      cases this
  | succ fuel ih =>
    intro listed a w hfree hn hr hy hS H
    refine ⟨fun h => (by rw [h] at hr; cases hr), fun j hj => ?_⟩
    by_cases hji : j = i
    · subst hji; exact hy.wpOp hi hS ⟨fun _ => hS, H⟩
    · have h1 := H.2 j (ready_mono hj hji)
      obtain ⟨hjun, oj, hoj, hall⟩ := mem_ready.1 hj
      have hnot : ∀ e ∈ oj.after, Region.binds md e = true → e.on ≠ i := fun e he hb heq => by
        have h1 := hall e he hb
        have h0 := (mem_ready.1 hr).1
        rw [heq] at h1
        rcases Nat.lt_or_ge i listed.size with h' | h'
        · simp [h'] at h0 h1; rw [h0] at h1; cases h1
        · simp [Array.getElem?_eq_none h'] at h1
      have hjg : j ∉ gs := fun hg => by
        obtain ⟨e, he, hb, heq⟩ := waitAll_spec hwt hg hoj
        exact hnot e he hb heq
      have hn' : noneUp gs (listed.setIfInBounds j true) = true := by rw [noneUp_set hjg]; exact hn
      have hn2 : noneUp gs ((listed.setIfInBounds i true).setIfInBounds j true) = true := by rw [noneUp_set hjg, noneUp_set hig]; exact hn
      have h2 := wpOp_putIf hoj (hfree j oj hoj hji hjun hnot) (fun cs b => hsel i oi cs b hi) (fun cs b => hsel j oj cs b hoj) hQ hy h1
      have hfree' : ∀ k ok, ops[k]? = some ok → k ≠ i → (listed.setIfInBounds j true).getD k true = false →
          (∀ e ∈ ok.after, Region.binds md e = true → e.on ≠ i) → oi.apart ops ok = true := fun k ok hk hki hun hno => by
        refine hfree k ok hk hki ?_ hno
        by_cases hjk : j = k
        · subst hjk; exact hjun
        · rw [getD_set_ne true hjk] at hun; exact hun
      refine wpOp_mono (fun a' w' h3 => ⟨fun _ => h3.2.1 hn2, ih (listed.setIfInBounds j true) a' w' hfree' hn' (ready_mono hr (Ne.symm hji)) h3.1 (h3.2.1 hn2) ?_⟩) h2
      rw [Array.setIfInBounds_comm _ _ hji]
      exact h3.2.2
/-- What yields its value in whatever world may be taken first, whoever waits for it. -/
theorem wpAnyG_firstW {i : Nat} {oi : Oper} {v : Value} (hi : ops[i]? = some oi) (hsel : ∀ (j : Nat) (o : Oper) cs b, ops[j]? = some o → o.op ≠ .select cs b)
    (hQ : ∀ c a w, Q (.panic c) (a.put oi.dst v) w → Q (.panic c) a w) (hig : i ∉ gs) :
    ∀ (fuel : Nat) (listed : Array Bool) (a : Act) (w : World),
      (∀ j oj, ops[j]? = some oj → j ≠ i → listed.getD j true = false → (∀ e ∈ oj.after, Region.binds md e = true → e.on ≠ i) → oi.apart ops oj = true) →
      i ∈ Region.ready md ops listed → YieldsIf P ops (fun _ => True) oi v a → (noneUp gs listed = true → S w) →
      wpAnyG P md ops Q S gs fuel (listed.setIfInBounds i true) (a.put oi.dst v) w → wpAnyG P md ops Q S gs (fuel + 1) listed a w := by
  intro fuel
  induction fuel with
  | zero =>
    intro listed a w _ hr hy hS H
    refine ⟨fun h => (by rw [h] at hr; cases hr), fun j hj => ?_⟩
    by_cases hji : j = i
    · subst hji; exact hy.wpOp hi trivial ⟨fun h => hS (by rw [noneUp_set hig] at h; exact h), H⟩
    · have := ready_mono hj hji
      rw [H.1] at this
      cases this
  | succ fuel ih =>
    intro listed a w hfree hr hy hS H
    refine ⟨fun h => (by rw [h] at hr; cases hr), fun j hj => ?_⟩
    by_cases hji : j = i
    · subst hji; exact hy.wpOp hi trivial ⟨fun h => hS (by rw [noneUp_set hig] at h; exact h), H⟩
    · have h1 := H.2 j (ready_mono hj hji)
      obtain ⟨hjun, oj, hoj, hall⟩ := mem_ready.1 hj
      have hnot : ∀ e ∈ oj.after, Region.binds md e = true → e.on ≠ i := fun e he hb heq => by
        have h1 := hall e he hb
        have h0 := (mem_ready.1 hr).1
        rw [heq] at h1
        rcases Nat.lt_or_ge i listed.size with h' | h'
        · simp [h'] at h0 h1; rw [h0] at h1; cases h1
        · simp [Array.getElem?_eq_none h'] at h1
      have h2 := wpOp_putIf hoj (hfree j oj hoj hji hjun hnot) (fun cs b => hsel i oi cs b hi) (fun cs b => hsel j oj cs b hoj) hQ hy h1
      have hfree' : ∀ k ok, ops[k]? = some ok → k ≠ i → (listed.setIfInBounds j true).getD k true = false →
          (∀ e ∈ ok.after, Region.binds md e = true → e.on ≠ i) → oi.apart ops ok = true := fun k ok hk hki hun hno => by
        refine hfree k ok hk hki ?_ hno
        by_cases hjk : j = k
        · subst hjk; exact hjun
        · rw [getD_set_ne true hjk] at hun; exact hun
      have hsame : noneUp gs ((listed.setIfInBounds i true).setIfInBounds j true) = noneUp gs (listed.setIfInBounds j true) := by
        rw [Array.setIfInBounds_comm _ _ (Ne.symm hji), noneUp_set hig]
      refine wpOp_mono (fun a' w' h3 => ⟨fun h => h3.2.1 (by rw [hsame]; exact h), ih (listed.setIfInBounds j true) a' w' hfree' (ready_mono hr (Ne.symm hji)) h3.1 (fun h => h3.2.1 (by rw [hsame]; exact h)) ?_⟩) h2
      rw [Array.setIfInBounds_comm _ _ hji]
      exact h3.2.2
/-- Take number i first: it yields in whatever world. -/
theorem wpAnyG_takeW {i : Nat} {oi : Oper} {v : Value} {fuel : Nat} {listed : Array Bool} {a : Act} {w : World} (hi : ops[i]? = some oi)
    (hs : Region.noSelect ops = true) (hf : Region.free md ops listed i = true) (hr : (Region.ready md ops listed).contains i = true) (hg : (!gs.contains i) = true)
    (hQ : ∀ c a w, Q (.panic c) (a.put oi.dst v) w → Q (.panic c) a w) (hy : YieldsIf P ops (fun _ => True) oi v a) (hS : noneUp gs listed = true → S w)
    (h : wpAnyG P md ops Q S gs fuel (listed.setIfInBounds i true) (a.put oi.dst v) w) : wpAnyG P md ops Q S gs (fuel + 1) listed a w :=
  wpAnyG_firstW hi (Region.noSelect_spec hs) hQ (fun h => by rw [List.contains_iff_mem.2 h] at hg; exact absurd hg (by decide)) fuel listed a w (Region.free_spec hi hf) (by simpa using hr) hy hS h
/-- Take number i first. -/
theorem wpAnyG_take {i : Nat} {oi : Oper} {v : Value} {fuel : Nat} {listed : Array Bool} {a : Act} {w : World} (hi : ops[i]? = some oi)
    (hs : Region.noSelect ops = true) (hf : Region.free md ops listed i = true) (hr : (Region.ready md ops listed).contains i = true) (hg : (!gs.contains i && waitAll md ops gs i && noneUp gs listed) = true)
    (hQ : ∀ c a w, Q (.panic c) (a.put oi.dst v) w → Q (.panic c) a w) (hy : YieldsIf P ops S oi v a) (hS : S w)
    (h : wpAnyG P md ops Q S gs fuel (listed.setIfInBounds i true) (a.put oi.dst v) w) : wpAnyG P md ops Q S gs (fuel + 1) listed a w := by
  rw [Bool.and_eq_true, Bool.and_eq_true] at hg
  exact wpAnyG_first hi (Region.noSelect_spec hs) hQ (fun h => by rw [List.contains_iff_mem.2 h] at hg; exact absurd hg.1.1 (by decide)) hg.1.2 fuel listed a w (Region.free_spec hi hf) hg.2 (by simpa using hr) hy hS h
def AllReadyG (P : Program) (md : Region.Mode) (ops : Array Oper) (Q : Exit → Act → World → Prop) (S : World → Prop) (gs : List Nat) (fuel : Nat) (listed : Array Bool) (a : Act) (w : World) (rs : List Nat) : Prop :=
  ∀ i ∈ rs, wpOp P ops Q i (fun a' w' => (noneUp gs (listed.setIfInBounds i true) = true → S w') ∧ wpAnyG P md ops Q S gs fuel (listed.setIfInBounds i true) a' w') a w
theorem AllReadyG.nil {fuel : Nat} {listed : Array Bool} {a : Act} {w : World} : AllReadyG P md ops Q S gs fuel listed a w [] := fun _ h => by cases h
theorem AllReadyG.cons {fuel : Nat} {listed : Array Bool} {a : Act} {w : World} {i : Nat} {o : Oper} {rs : List Nat} (ho : ops[i]? = some o)
    (h : ∀ K' : Act → World → Prop, Shut (∀ a w, (noneUp gs (listed.setIfInBounds i true) = true → S w) → ((noneUp gs (listed.setIfInBounds i true) = true → S w) → wpAnyG P md ops Q S gs fuel (listed.setIfInBounds i true) a w) → K' a w) → if Region.wanted o (yielded ops a.tmps) = true then Oper.wp P o a w K' Q else K' (a.put o.dst undef) w)
    (hs : AllReadyG P md ops Q S gs fuel listed a w rs) : AllReadyG P md ops Q S gs fuel listed a w (i :: rs) := fun j hj => by
  rcases List.mem_cons.1 hj with rfl | hj
  · exact wpOp_step ho (fun K' hK => h K' (fun a w hS hW => hK a w ⟨hS, hW hS⟩))
  · exact hs j hj
theorem wpAnyG_ready {rs : List Nat} {fuel : Nat} {listed : Array Bool} {a : Act} {w : World} (hr : Region.ready md ops listed = rs) (hne : rs ≠ [])
    (h : AllReadyG P md ops Q S gs fuel listed a w rs) : wpAnyG P md ops Q S gs (fuel + 1) listed a w := ⟨fun h0 => absurd (hr ▸ h0) hne, hr ▸ h⟩
theorem wpAnyG_done {listed : Array Bool} {a : Act} {w : World} (hr : Region.ready md ops listed = []) (h : Q .normal a w) : ∀ fuel, wpAnyG P md ops Q S gs fuel listed a w
  | 0 => ⟨hr, h⟩
  | _ + 1 => ⟨fun _ => h, by rw [hr]; simp⟩
theorem wp_region_heldG {id : Nat} {a : Act} {w : World} (hm : P.follows .mixedOrders = true)
    (h : wpAnyG P .any ops Q S gs ops.size (Array.replicate ops.size false) a w.drew) : (Code.region id ops true).wp P Q a w :=
  wp_region_any hm (wpAny_of_G _ _ _ _ h)

/-! ### Straight on -/
end
end Go.Proofs.YtpbgonpmpjpljaaGreatDoor
