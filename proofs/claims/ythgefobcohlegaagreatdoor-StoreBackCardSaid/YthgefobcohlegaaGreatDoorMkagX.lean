/- A store's Blocks: a copy of its blocks. -/
import Derived.Test.YthgefobcohlegaaGreatDoorMkaeX
import Derived.Test.YthgefobcohlegaaGreatDoorMkyX
import Derived.Deep.RegionHeld3
import Derived.Test.YthgefobcohlegaaGreatDoorMkaaX
import Derived.Test.YthgefobcohlegaaGreatDoorMkacX
import Derived.Test.YthgefobcohlegaaGreatDoorMkvX
import Derived.Test.YthgefobcohlegaaGreatDoorMkafX
import Derived.Test.YthgefobcohlegaaGreatDoorStSelQX
import Derived.Test.YthgefobcohlegaaGreatDoorMktX
namespace Go.Proofs.YthgefobcohlegaaGreatDoor
open Go.RowKit Go.Maps
set_option linter.unusedVariables false

/-- A cell of one's own row is written. -/
theorem own_put {w : World} {base : Nat} {e : TypeId} {size n g c i : Nat} {xs : List Value} (h : w.ownsRow base e size (.slice (some ⟨g, 0, none⟩) n c) n xs) (u : Value) :
    (w.setCell ⟨g, i, none⟩ u).ownsRow base e size (.slice (some ⟨g, 0, none⟩) n c) n (xs.set i u) := by
  refine ⟨by rw [List.length_set]; exact h.1, ?_⟩
  rcases h.2 with ⟨h1, _⟩ | ⟨g', cap, cur, h1, h2, h3, h4, h5, h6, h7⟩
  · cases h1
  · injection h1 with h1 _ h8
    injection h1 with h1
    injection h1 with h1 _ _
    subst h1
    subst h8
    refine .inr ⟨g, c, cur.setIfInBounds i u, rfl, h2, Blk.set_ (h3 : Blk w g e cur) i u, h4, h5, by rw [Array.size_setIfInBounds]; exact h6, ?_⟩
    rw [Array.toList_setIfInBounds, List.take_set, h7]
theorem own_blk {w : World} {base : Nat} {e : TypeId} {size n g c : Nat} {xs : List Value} (h : w.ownsRow base e size (.slice (some ⟨g, 0, none⟩) n c) n xs) : ∃ cur, Blk w g e cur ∧ base ≤ g := by
  rcases h.2 with ⟨h1, _⟩ | ⟨g', cap, cur, h1, h2, h3, _⟩
  · cases h1
  · injection h1 with h1 _ _
    injection h1 with h1
    injection h1 with h1 _ _
    subst h1
    exact ⟨cur, h3, h2⟩
def bkL (b : BkV) : List Value := [.int .i64 b.fr, .int .i64 b.sp, .slice b.A b.rows.length b.a, .slice b.C b.rows.length b.c]
theorem bkC_put {l : List BkV} {k : Nat} {b : BkV} (h : l[k]? = some b) (A C : Option Addr) (a c : Nat) :
    ((bkC l).set (k * 4 + 2) (.slice A b.rows.length a)).set (k * 4 + 3) (.slice C b.rows.length c) = bkC (l.set k ⟨b.fr, b.sp, b.rows, A, a, C, c⟩) := by
  induction l generalizing k with
  | nil => cases h
  | cons x l ih =>
    have hc : bkC (x :: l) = bkL x ++ bkC l := rfl
    cases k with
    | zero =>
      obtain rfl := Option.some.inj h
      rw [hc]
      rfl
    | succ k =>
      have h' : l[k]? = some b := h
      rw [hc, List.set_cons_succ]
      have e2 : (k + 1) * 4 + 2 = (bkL x).length + (k * 4 + 2) := by show _ = 4 + _; omega
      have e3 : (k + 1) * 4 + 3 = (bkL x).length + (k * 4 + 3) := by show _ = 4 + _; omega
      rw [e2, e3, List.set_append_right _ _ (by omega), Nat.add_sub_cancel_left, List.set_append_right _ _ (by omega), Nat.add_sub_cancel_left, ih h']
      rfl
/-- Between the rounds of Blocks. -/
structure BcI (w wr : World) (gb c n k : Nat) (Bl Lk : List BkV) : Prop where
  own : wr.ownsRow w.heap.size 85 4 (.slice (some ⟨gb, 0, none⟩) n c) n (bkC Lk)
  bk : ∀ b ∈ Lk, BkAt wr b
  mp : Lk.map (fun b => ((b.fr, b.sp), b.rows)) = Bl.map (fun b => ((b.fr, b.sp), b.rows))
  bel : Below w.heap.size w wr
theorem BcI.below {w wr w' : World} {gb c n k : Nat} {Bl Lk : List BkV} (h : BcI w wr gb c n k Bl Lk) (hb : Below wr.heap.size wr w') : BcI w w' gb c n k Bl Lk :=
  ⟨own_below h.own hb (Nat.le_refl _), fun b hm => (h.bk b hm).below hb, h.mp, Below.call h.bel hb h.bel.size⟩
theorem BcI.put {w wr : World} {gb c n k : Nat} {Bl Lk : List BkV} (h : BcI w wr gb c n k Bl Lk) {b : BkV} (hk : Lk[k]? = some b) {A C : Option Addr} {a c' : Nat} (hn : wr.ownsRow 0 9 1 (.slice A b.rows.length a) b.rows.length (txS (encR b.rows)))
    (hc : wr.ownsRow 0 9 1 (.slice C b.rows.length c') b.rows.length (chS (encR b.rows))) :
    BcI w ((wr.setCell ⟨gb, k * 4 + 2, none⟩ (.slice A b.rows.length a)).setCell ⟨gb, k * 4 + 3, none⟩ (.slice C b.rows.length c')) gb c n (k + 1) Bl (Lk.set k ⟨b.fr, b.sp, b.rows, A, a, C, c'⟩) := by
  obtain ⟨cur, hB, hgb⟩ := own_blk h.own
  have hf : Fr (fun j => j = gb) wr ((wr.setCell ⟨gb, k * 4 + 2, none⟩ (.slice A b.rows.length a)).setCell ⟨gb, k * 4 + 3, none⟩ (.slice C b.rows.length c')) :=
    Fr.setCell (S := fun j => j = gb) (Fr.setCell (S := fun j => j = gb) (Fr.refl _ _) (p := ⟨gb, k * 4 + 2, none⟩) (.inr rfl) _) (p := ⟨gb, k * 4 + 3, none⟩) (.inr rfl) _
  have ho : Odd (fun j => j = gb) wr [9] := Odd.of_blk hB (by decide)
  refine ⟨?_, fun x hx => ?_, ?_, ?_⟩
  · have := own_put (i := k * 4 + 3) (own_put (i := k * 4 + 2) h.own (.slice A b.rows.length a)) (.slice C b.rows.length c')
    rw [bkC_put hk] at this
    exact this
  · rcases List.mem_or_eq_of_mem_set hx with hx | rfl
    · exact (h.bk x hx).fr hf ho
    · exact ⟨hf.own hn (ho.own hn (by simp)), hf.own hc (ho.own hc (by simp)), (h.bk b (List.mem_of_getElem? hk)).ok⟩
  · rw [List.map_set, ← h.mp]
    have e : (Lk.map (fun b => ((b.fr, b.sp), b.rows)))[k]? = some ((b.fr, b.sp), b.rows) := by rw [List.getElem?_map, hk]; rfl
    obtain ⟨hl, hv⟩ := List.getElem?_eq_some_iff.1 e
    rw [← hv]
    exact List.set_getElem_self hl
  · exact Below.setCell (Below.setCell h.bel hgb _) hgb _
def SBlPost (n : Nat) (Bs : List Bk) (w : World) (e : Ending) (w' : World) : Prop :=
  ∃ A c Lk, e = .returned (.slice A n c) ∧ w'.ownsRow w.heap.size 85 4 (.slice A n c) n (bkC Lk) ∧ (∀ b ∈ Lk, BkAt w' b) ∧ Lk.map (fun b => ((b.fr, b.sp), b.rows)) = Bs ∧ Below w.heap.size w w'
set_option maxRecDepth 100000 in
set_option maxHeartbeats 8000000 in
theorem sblocks_any {B q dq : Nat} {G : Nat → Prop} {S : StM} (w : World) (hI : StI B w q dq G S) (hB40 : S.B.length ≤ 40) :
    Calls Tryz.prog 16 #[.pointer (some ⟨q, 0, none⟩)] w (SBlPost S.B.length S.B w) := by
  obtain ⟨hb, mb, D, L, dv, bv, Bl, h, hG, hlo⟩ := hI
  have hbl : Bl.length = S.B.length := by rw [← h.bm, List.length_map]
  obtain ⟨Ab, cb, hbv, hcb, _, hrb⟩ := own_form h.bl.own
  have z4 : w.cell? ⟨q, 4, none⟩ = some (.slice Ab Bl.length cb) := by rw [← hbv]; exact h.hd.cell 4
  have Hcl := Lib.hid (cloneBk_any Ab Bl.length cb (bkC Bl) w hrb (bkC_one _) (by omega))
  have Hbk := Lib.hid (show ∀ b ∈ Bl, BkAt w b from h.bl.bk)
  have Hbm := Lib.hid h.bm
  rw [← hbl]
  obtain ⟨n, hn⟩ : ∃ n, n = Bl.length := ⟨_, rfl⟩
  rw [← hn] at z4 Hcl ⊢
  have hn40 : n ≤ 40 := by omega
  have Hn := Lib.hid hn
  clear h hG hlo hbv hrb hcb hbl hn
  go_enter Tryz.func16, Tryz.ntmps16
  go_wp2_with fail
  refine Hcl.out.mono ?_
  rintro e w1 ⟨v1, rfl, hown1, hb1⟩
  obtain ⟨A1, c1, rfl, _, _, _⟩ := own_form hown1
  by_cases hn0 : n = 0
  · have HO := Lib.hid hown1
    have HB1 := Lib.hid hb1
    have HBl := Lib.hid (show Bl = [] from List.eq_nil_of_length_eq_zero (by rw [← Hn.out]; exact hn0))
    subst hn0
    clear hown1 hb1
    go_wp2
    go_loopw [13] (fun iv wr => iv = .int .i64 0 ∧ w1 = wr) (fun _ _ => 0)
    case atStart => exact ⟨rfl, rfl⟩
    case round =>
      obtain ⟨rfl, rfl⟩ := hrel
      go_wp2
      go_ret
      exact ⟨A1, c1, Bl, rfl, HO.out, fun b hb => (by rw [HBl.out] at hb; cases hb), Hbm.out, HB1.out⟩
  obtain ⟨gb, cg, hA1, _, _⟩ := own_some hown1 (by omega)
  injection hA1 with hA1 _ hA3
  subst hA1
  subst hA3
  have HI1 := Lib.hid (show BcI w w1 gb c1 n 0 Bl Bl from ⟨hown1, fun b hm => (Hbk.out b hm).below hb1, rfl, hb1⟩)
  clear hown1 hb1 hn0
  go_wp2
  go_loopw [13] (fun iv wr => ∃ (k : Nat) (Lk : List BkV), k ≤ n ∧ iv = .int .i64 k ∧ Lk.length = n ∧ BcI w wr gb c1 n k Bl Lk) (fun iv _ => n - (intOf iv).toNat)
  case atStart => exact ⟨0, Bl, Nat.zero_le _, rfl, Hn.out.symm, HI1.out⟩
  case round =>
    obtain ⟨k, Lk, hk, rfl, hlk, hI⟩ := hrel
    have HI := Lib.hid hI
    have Hlk := Lib.hid hlk
    by_cases hkn : k < n
    · have hkn' : (k : Int) < n := by omega
      obtain ⟨b0, o0, b, hA0, had0, hbk, x0, x1, x2, x3⟩ := (Rd.of_own hI.own).at4 hkn
      injection hA0 with hA0
      injection hA0 with hA0 hA2 _
      subst hA0
      subst hA2
      have hba : Below wr.heap.size wr (wr.alloc (.cells #[.int .i64 b.fr, .int .i64 b.sp, .slice b.A b.rows.length b.a, .slice b.C b.rows.length b.c] 85)).drew := (Below.alloc (Below.refl _ _) (Nat.le_refl _) _).drew
      have HBk := Lib.hid hbk
      have hat := (hI.bk b (List.mem_of_getElem? hbk))
      have HK := Lib.hid (show Blk (wr.alloc (.cells #[.int .i64 b.fr, .int .i64 b.sp, .slice b.A b.rows.length b.a, .slice b.C b.rows.length b.c] 85)).drew wr.heap.size 85 #[.int .i64 b.fr, .int .i64 b.sp, .slice b.A b.rows.length b.a, .slice b.C b.rows.length b.c] from (Blk.new wr _ _).drew)
      have HI2 := Lib.hid (HI.out.below hba)
      have h60 := hat.ok.n60
      have e1 : (encR b.rows).length = b.rows.length := by unfold encR; rw [List.length_map]
      have Hc1 := Lib.hid (cloneTx_any b.A b.rows.length b.a (txS (encR b.rows)) _ (Rd.of_own (hat.below hba).nm) (by intro u hu; unfold txS at hu; obtain ⟨r, _, rfl⟩ := List.mem_map.1 hu; rfl) (by omega))
      have Hc2 := Lib.hid (fun W (hb' : Below (wr.alloc (.cells #[.int .i64 b.fr, .int .i64 b.sp, .slice b.A b.rows.length b.a, .slice b.C b.rows.length b.c] 85)).drew.heap.size (wr.alloc (.cells #[.int .i64 b.fr, .int .i64 b.sp, .slice b.A b.rows.length b.a, .slice b.C b.rows.length b.c] 85)).drew W) => cloneTx_any b.C b.rows.length b.c (chS (encR b.rows)) W (Rd.of_own ((hat.below hba).below hb').ch) (by intro u hu; unfold chS at hu; obtain ⟨r, _, rfl⟩ := List.mem_map.1 hu; rfl) (by omega))
      obtain ⟨BX, hwd⟩ : ∃ BX, BX = wr.alloc (.cells #[.int .i64 b.fr, .int .i64 b.sp, .slice b.A b.rows.length b.a, .slice b.C b.rows.length b.c] 85) := ⟨_, rfl⟩
      simp only [Nat.zero_add] at x0 x1 x2 x3
      obtain ⟨rl, hrl⟩ : ∃ rl, rl = b.rows.length := ⟨_, rfl⟩
      have HRl := Lib.hid hrl
      rw [← hrl] at x2 x3 Hc1 Hc2 HK hwd HI2
      rw [← hwd] at Hc1 Hc2 HK HI2
      have Hwd := Lib.hid hwd
      have hbd : Below wr.heap.size wr BX.drew := by rw [hwd, hrl]; exact hba
      have hgw : gb < wr.heap.size := had0
      have hne : wr.heap.size ≠ gb := by omega
      have Hac := Lib.hid (fun W (hk : Blk W wr.heap.size 85 #[.int .i64 b.fr, .int .i64 b.sp, .slice b.A rl b.a, .slice b.C rl b.c]) => show W.cell? ⟨wr.heap.size, 2, none⟩ = some (.slice b.A rl b.a) ∧ W.cell? ⟨wr.heap.size, 3, none⟩ = some (.slice b.C rl b.c) from ⟨hk.cell 2, hk.cell 3⟩)
      have Hxx := Lib.hid (fun W (hb' : Below wr.heap.size wr W) => show (W.cell? ⟨gb, k * 4 + 2, none⟩ = some (.slice b.A rl b.a) ∧ W.cell? ⟨gb, k * 4 + 3, none⟩ = some (.slice b.C rl b.c)) ∧ W.frozen? ⟨gb, k * 4 + 2, none⟩ = false ∧ W.frozen? ⟨gb, k * 4 + 3, none⟩ = false ∧ gb < W.heap.size from by
        obtain ⟨cur, hB, _⟩ := own_blk HI.out.own
        have hB2 := hB.below hb' hB.lt
        exact ⟨⟨(hb'.cell (p := ⟨gb, k * 4 + 2, none⟩) had0).trans x2, (hb'.cell (p := ⟨gb, k * 4 + 3, none⟩) had0).trans x3⟩, hB2.frozen _, hB2.frozen _, hB2.lt⟩)
      have HBd := Lib.hid hbd
      clear hbk hat e1 hba hI hrl hwd hbd h60 had0
      go_wp2
      rw [← Hwd.out]
      go_region_held3 (fun w' => w'.cell? ⟨wr.heap.size, 2, none⟩ = some (.slice b.A rl b.a) ∧ w'.cell? ⟨wr.heap.size, 3, none⟩ = some (.slice b.C rl b.c))
        (first | with_reducible exact Hac.out _ HK.out | with_reducible exact Hac.out _ HK5.out | with_reducible exact Hac.out _ HK6.out | with_reducible exact Hac.out _ (Blk.far HK6.out hne _) | with_reducible exact Hac.out _ (Blk.far (Blk.far HK6.out hne _) hne _) | exact Hac.out _ HK.out)
        (first | (go_at_call 40; (with_reducible refine Hc1.out.mono ?_); rintro e5 w5 ⟨v5, rfl, ho5, hb5⟩; obtain ⟨A5, c5, rfl, _, _, _⟩ := own_form ho5; have HO5 := Lib.hid (own_base ho5 (Nat.zero_le _)); have HB5 := Lib.hid hb5; have HK5 := Lib.hid (HK.out.below hb5 HK.out.lt); clear ho5 hb5) | (have htok := HO5; go_at_call 40; (with_reducible refine (Hc2.out _ HB5.out).mono ?_); rintro e6 w6 ⟨v6, rfl, ho6, hb6⟩; obtain ⟨A6, c6, rfl, _, _, _⟩ := own_form ho6; have HO6 := Lib.hid (own_base ho6 (Nat.zero_le _)); have HB6 := Lib.hid (Below.call HB5.out hb6 HB5.out.size); have HOo := Lib.hid (own_below HO5.out hb6 (Nat.le_refl _)); have HK6 := Lib.hid (HK5.out.below hb6 HK5.out.lt); obtain ⟨⟨y2, y3⟩, f2, f3, hg6⟩ := Hxx.out _ (Below.call HBd.out HB6.out HBd.out.size); clear ho6 hb6))
      all_goals
        have HP := Lib.hid ((HI2.out.below HB6.out).put HBk.out (by rw [← HRl.out]; exact HOo.out) (by rw [← HRl.out]; exact HO6.out))
        go_wp2
        go_roundw
        case rel =>
          refine ⟨k + 1, Lk.set k ⟨b.fr, b.sp, b.rows, A5, c5, A6, c6⟩, by omega, by go_num, (by rw [List.length_set]; exact Hlk.out), ?_⟩
          have := HP.out
          rw [← HRl.out] at this
          exact this
        case measure => simp [intOf]; omega
    · obtain rfl : k = n := by omega
      have hkn' : ¬ (k : Int) < k := by omega
      clear hI
      go_wp2
      go_ret
      exact ⟨some ⟨gb, 0, none⟩, c1, Lk, rfl, HI.out.own, HI.out.bk, HI.out.mp.trans Hbm.out, HI.out.bel⟩
end Go.Proofs.YthgefobcohlegaaGreatDoor

namespace Go.Proofs.YthgefobcohlegaaGreatDoor
open Go.RowKit
set_option linter.unusedVariables false

theorem bytC_take (b : Bs) (k : Nat) : bytC (b.take k) = (bytC b).take k := by unfold bytC; rw [List.map_take]
theorem rec_done {w w2 : World} {q n c k : Nat} {v : Value} {d : Dk} {A : Option Addr} (h : DStep w w2 q v v ⟨d.b, false, -1⟩) (hv : v = .slice A n c) (hn : n = d.b.length) (hk : k ≤ n) (hm : n ≤ 65536) :
    DStep w (w2.setCell ⟨q, 0, none⟩ (.slice A k k)) q v (.slice A k k) ⟨d.b.take k, false, -1⟩ := by
  have hob : ∀ j, (Value.slice A k k).ownBlock = some j → v.ownBlock = some j := by
    intro j hj
    rw [hv]
    cases A with
    | none => cases hj
    | some a => exact hj
  obtain ⟨A', c', hv', _, _, hr, _⟩ := h.at_.buf.form
  rw [hv] at hv'
  injection hv' with e1 e2 e3
  subst e1
  dsimp only at hr
  rw [← hn] at hr
  have hr2 := hr.take hk
  rw [Nat.mul_one, ← bytC_take] at hr2
  have hl : (d.b.take k).length = k := by rw [List.length_take]; omega
  have hz := fr_set w2 q 0 (.slice A k k)
  refine ⟨⟨h.at_.hd.set_ 0 _, ⟨⟨A, k, by dsimp only; rw [hl], by dsimp only; omega, by unfold maxLen; omega, ?_, fun hlt => (by dsimp only at hlt; omega)⟩, fun j hj => ?_⟩, h.at_.ok⟩, Fr.trans h.fr (hz.mono (fun _ _ h => .inl h)) (fun _ _ h => h), fun j hj => .inl (hob j hj)⟩
  · dsimp only
    rw [hl]
    exact rd_fr (c := k) hr2 hz (fun j hj e => h.at_.ne (by rw [hob j hj, e]))
  · exact (h.at_.buf.row j (hob j hj)).set _
set_option maxHeartbeats 4000000 in
set_option maxRecDepth 100000 in
theorem drecover_any {es : Nat → Addr} {B q : Nat} {v : Value} {d : Dk} (w : World) (hW : WalW es B w) (hB : B ≤ w.heap.size) (hD : DiskAt w q v d) (hlo : DkLo B q v) (hd : d.b.length ≤ 65536) :
    Calls Tryz.prog 23 #[.pointer (some ⟨q, 0, none⟩)] w fun e w' => ∃ l k u v', e = .returned (.tuple #[u, .nilIface]) ∧ IsRead d.b l k ∧ w'.ownsRow w.heap.size 80 3 u l.length (enC l) ∧ DStep w w' q v v' ⟨d.b.take k, false, -1⟩ := by
  have Hon := Lib.hid (don_any w hD)
  have HW := Lib.hid (fun W (hb : Below B w W) => hW.below hb (Nat.le_refl _))
  have Hlo := Lib.hid hlo; have HB := Lib.hid hB; have H0 := Lib.hid hD
  clear hW hD hlo hB
  go_enter Tryz.func23, Tryz.ntmps23
  go_wp2_with fail
  refine Hon.out.mono ?_
  rintro e w1 ⟨rfl, hst⟩
  have HS1 := Lib.hid hst
  have HB1 := Lib.hid (hst.below Hlo.out HB.out)
  have c0 : w1.cell? ⟨q, 0, none⟩ = some v := hst.at_.hd.cell 0
  obtain ⟨A, c, hv, hnc, hcm, hr, _⟩ := hst.at_.buf.form
  dsimp only at hv hnc hr
  have hr2 := hr
  rw [bytC_nats] at hr
  have hcv := conv_bytes w1 A _ c _ hr (natsOf_256 d.b)
  rw [bytesOf_nats] at hcv
  have Hrd := Lib.hid (wread_any d.b (by omega) w1 (HW.out _ HB1.out) (Nat.le_trans HB.out HB1.out.size))
  rw [hv] at c0
  have Hv := Lib.hid hv
  obtain ⟨n, hn⟩ : ∃ n, n = d.b.length := ⟨_, rfl⟩
  rw [← hn] at c0 hcv hd hnc
  have Hn := Lib.hid hn
  have Hv2 := Lib.hid (show v = .slice A n c by rw [hn]; exact hv)
  clear hst hr hr2 hv hn
  generalize B8 d.b = sb at hcv Hrd
  go_wp2_with fail
  refine Hrd.out.mono ?_
  rintro e w2 ⟨l, k, u, rfl, hir, hown, hb2⟩
  have HI := Lib.hid hir
  have hkn : k ≤ n := by rw [Hn.out]; exact hir.le
  have HO := Lib.hid hown
  have HS2 := Lib.hid (HS1.out.behind hb2 (Nat.le_refl _))
  have c0 : w2.cell? ⟨q, 0, none⟩ = some (.slice A n c) := by rw [Hn.out, ← Hv.out]; exact HS2.out.at_.hd.cell 0
  have f0 := HS2.out.at_.hd.frozen 0
  obtain ⟨Au, cu, rfl, _, _, _⟩ := own_form hown
  clear hir hown hb2 hcv
  go_wp2
  go_ret2
  have hq := HS2.out.at_.hd
  refine ⟨l, k, _, _, rfl, HI.out, own_base (own_set HO.out (own_ne_blk HO.out hq (by decide)) _) HS1.out.fr.size, rec_done HS2.out Hv2.out Hn.out hkn hd⟩
end Go.Proofs.YthgefobcohlegaaGreatDoor

namespace Go.Proofs.YthgefobcohlegaaGreatDoor
open Go.RowKit
set_option linter.unusedVariables false
theorem en_at {W : World} {B n : Nat} {A : Option Addr} {l : List En} (h : Rd W B 3 A n (enC l)) {k : Nat} (hk : k < n) :
    ∃ b o e, A = some ⟨b, o, none⟩ ∧ b < B ∧ l[k]? = some e ∧ W.cell? ⟨b, o + k * 3, none⟩ = some (.string (B8 e.nm)) ∧ W.cell? ⟨b, o + k * 3 + 1, none⟩ = some (.int .i64 e.tick) ∧ W.cell? ⟨b, o + k * 3 + 2, none⟩ = some (.int .u64 (e.bit : Int)) := by
  obtain ⟨b, o, e, hb, hc⟩ := h.2 (by omega)
  have hl : k < l.length := by
    have := h.1
    unfold enC at this
    rw [flat_len enL 3 (fun _ => rfl)] at this; omega
  have hy : l[k]? = some l[k] := List.getElem?_eq_getElem hl
  have hg : ∀ j, j < 3 → (enC l)[k * 3 + j]? = (enL l[k])[j]? := fun j hj => flat_get enL 3 (fun _ => rfl) l k j l[k] hy hj
  refine ⟨b, o, l[k], e, hb, hy, hc (k * 3) _ (hg 0 (by decide)), ?_, ?_⟩
  · rw [Nat.add_assoc]; exact hc (k * 3 + 1) _ (hg 1 (by decide))
  · rw [Nat.add_assoc]; exact hc (k * 3 + 2) _ (hg 2 (by decide))
end Go.Proofs.YthgefobcohlegaaGreatDoor

namespace Go.Proofs.YthgefobcohlegaaGreatDoor
open Go.RowKit Go.Maps
set_option linter.unusedVariables false

/-- What a log leaves in a head. -/
structure TryOk (A : List HA) (n : Nat) : Prop where
  len : A.length ≤ 60
  srt : hSrt A
  cnt : hCount A ≤ n
theorem TryOk.nil : TryOk [] 0 := ⟨Nat.zero_le _, List.Pairwise.nil, Nat.le_refl _⟩
theorem TryOk.step {A : List HA} {n : Nat} (h : TryOk A n) (e : En) : TryOk (hTry A e) (n + 1) := by
  unfold hTry
  split
  · exact ⟨h.len, h.srt, Nat.le_succ_of_le h.cnt⟩
  split
  · rename_i h1
    exact ⟨hAdd_len h1 h.len, hAdd_srt h.srt, by rw [hCount_add h.srt]; exact Nat.succ_le_succ h.cnt⟩
  · exact ⟨h.len, h.srt, Nat.le_succ_of_le h.cnt⟩
theorem hAll_snoc (l : List En) (e : En) : hAll (l ++ [e]) = hTry (hAll l) e := by unfold hAll; rw [List.foldl_append]; rfl
theorem TryOk.all (l : List En) : TryOk (hAll l) l.length := by
  induction l using snoc_ind with
  | h0 => exact TryOk.nil
  | h1 l e ih => rw [hAll_snoc, List.length_append]; exact ih.step e
theorem rec_count : ∀ (l : List En), (∀ e ∈ l, EnOk e) → l.length * 25 ≤ (l.flatMap recL).length
  | [], _ => Nat.zero_le _
  | e :: l, h => by
    have ih := rec_count l fun x hx => h x (List.mem_cons_of_mem _ hx)
    have h1 : 25 ≤ (recL e).length := by
      have := (body_len (h e List.mem_cons_self)).1
      have e1 : (recL e).length = (bodyL e).length + 6 := recB_len _
      omega
    rw [List.flatMap_cons, List.length_append, List.length_cons]
    omega
theorem IsRead.count {b : Bs} {l : List En} {k : Nat} (h : IsRead b l k) (hb : b.length ≤ 65536) : l.length ≤ 2622 := by
  have h1 := rec_count l h.ok
  have h2 := h.len
  have h3 := h.le
  omega
theorem HAPost.any {es : Nat → Addr} {F : Nat → Prop} {q mb : Nat} {D : DataW Unit} {L : List HLn} {s : Bs} {p : Int × Int} {w w' : World} {e : Ending} (hH : HeadAt w F q mb D L) (h : HAPost es F q mb D L s p w e w') :
    ∃ v D' L', e = .returned v ∧ HeadAt w' (fun k => F k ∨ w.heap.size ≤ k) q mb D' L' ∧ absL L' = (if (hFault (absL L) s p).1 = 0 then hAdd (absL L) s p else absL L) ∧ Fr F w w' := by
  by_cases h0 : (hFault (absL L) s p).1 = 0
  · obtain ⟨rfl, D', L', h1, h2, h3⟩ := h.2 h0
    exact ⟨_, D', L', rfl, h1, by rw [if_pos h0]; exact h2, h3⟩
  · obtain ⟨v, rfl, _, hb⟩ := h.1 h0
    exact ⟨v, D, L, rfl, (hH.below hb).mono (fun _ h => .inl h), by rw [if_neg h0], (Fr.ofBelow hb).mono (fun _ _ h => h.elim)⟩
def SNewPost (es : Nat → Addr) (B dq : Nat) (dv : Value) (d : Dk) (sp kp : Int) (w : World) (e : Ending) (w' : World) : Prop :=
  ((newF sp kp).1 ≠ 0 → e = .returned (.tuple #[.pointer none, sentV (es 1)]) ∧ Below w.heap.size w w') ∧
  ((newF sp kp).1 = 0 → ∃ l k q G, e = .returned (.tuple #[.pointer (some ⟨q, 0, none⟩), .nilIface]) ∧ IsRead d.b l k ∧ StI B w' q dq G (newS l k d sp kp) ∧ Fr (DkS dq dv) w w' ∧ ∀ j, G j → DkS dq dv j ∨ w.heap.size ≤ j)
theorem newF_bad {sp kp : Int} (h : sp < 1 ∨ 100000 < sp ∨ kp < 1 ∨ 40 < kp) : newF sp kp = (2, -1) := if_pos h
theorem newF_ok {sp kp : Int} (h : ¬ (sp < 1 ∨ 100000 < sp ∨ kp < 1 ∨ 40 < kp)) : newF sp kp = (0, -1) := if_neg h
theorem SNewPost.bad {es : Nat → Addr} {B dq : Nat} {dv : Value} {d : Dk} {sp kp : Int} {w w' : World} (h : sp < 1 ∨ 100000 < sp ∨ kp < 1 ∨ 40 < kp) (hb : Below w.heap.size w w') : SNewPost es B dq dv d sp kp w (.returned (.tuple #[.pointer none, sentV (es 1)])) w' :=
  ⟨fun _ => ⟨rfl, hb⟩, fun h0 => by rw [newF_bad h] at h0; cases h0⟩
set_option maxRecDepth 100000 in
set_option maxHeartbeats 8000000 in
theorem snew_any {es : Nat → Addr} {B dq : Nat} {dv : Value} {d : Dk} (sp kp : Int) (w : World) (hW : StW es B w) (hD : DiskAt w dq dv d) (hlo : DkLo B dq dv) (hd : d.b.length ≤ 65536) :
    Calls Tryz.prog 8 #[.pointer (some ⟨dq, 0, none⟩), .int .i64 sp, .int .i64 kp] w (SNewPost es B dq dv d sp kp w) := by
  have g1 : w.cell? ⟨0, 0, none⟩ = some (sentV (es 1)) := hW.wal.svl.var 1 (by decide)
  by_cases hbad : sp < 1 ∨ 100000 < sp ∨ kp < 1 ∨ 40 < kp
  · clear hW hD hlo hd
    rcases hbad with h1 | h1 | h1 | h1
    · have Hf := Lib.hid (fun w' (hb : Below w.heap.size w w') => SNewPost.bad (es := es) (B := B) (dq := dq) (dv := dv) (d := d) (sp := sp) (kp := kp) (.inl h1) hb)
      go_enter Tryz.func8, Tryz.ntmps8
      go_wp2
      go_quiet (fail)
      go_wp2
      go_ret2
      exact Hf.out _ (Below.drewN (Below.refl _ _) _)
    · have Hf := Lib.hid (fun w' (hb : Below w.heap.size w w') => SNewPost.bad (es := es) (B := B) (dq := dq) (dv := dv) (d := d) (sp := sp) (kp := kp) (.inr (.inl h1)) hb)
      have h0 : ¬ sp < 1 := by omega
      go_enter Tryz.func8, Tryz.ntmps8
      go_wp2
      go_quiet (fail)
      go_wp2
      go_ret2
      exact Hf.out _ (Below.drewN (Below.refl _ _) _)
    · have Hf := Lib.hid (fun w' (hb : Below w.heap.size w w') => SNewPost.bad (es := es) (B := B) (dq := dq) (dv := dv) (d := d) (sp := sp) (kp := kp) (.inr (.inr (.inl h1))) hb)
      by_cases h0 : sp < 1
      all_goals by_cases h2 : 100000 < sp
      all_goals
        go_enter Tryz.func8, Tryz.ntmps8
        go_wp2
        go_quiet (fail)
        go_wp2
        go_ret2
        exact Hf.out _ (Below.drewN (Below.refl _ _) _)
    · have Hf := Lib.hid (fun w' (hb : Below w.heap.size w w') => SNewPost.bad (es := es) (B := B) (dq := dq) (dv := dv) (d := d) (sp := sp) (kp := kp) (.inr (.inr (.inr h1))) hb)
      have h3 : ¬ kp < 1 := by omega
      by_cases h0 : sp < 1
      all_goals by_cases h2 : 100000 < sp
      all_goals
        go_enter Tryz.func8, Tryz.ntmps8
        go_wp2
        go_quiet (fail)
        go_wp2
        go_ret2
        exact Hf.out _ (Below.drewN (Below.refl _ _) _)
  have Hok := Lib.hid (newF_ok hbad)
  have c1 : ¬ sp < 1 := by omega
  have c2 : ¬ 100000 < sp := by omega
  have c3 : ¬ kp < 1 := by omega
  have c4 : ¬ 40 < kp := by omega
  have Hrc := Lib.hid (drecover_any (es := es) w hW.wal hW.b0 hD hlo hd)
  have HW := Lib.hid (fun W (hb' : Below B w W) => hW.below hb' (Nat.le_refl _))
  have HBB := Lib.hid hW.b0; have Hlo := Lib.hid hlo; have Hdb := Lib.hid hd
  clear hW hD hlo hd g1 hbad
  go_enter Tryz.func8, Tryz.ntmps8
  go_wp2_with fail
  refine Hrc.out.mono ?_
  rintro e w2 ⟨l, k0, u, dv2, rfl, hir, hown, hst⟩
  obtain ⟨Ae, ce, rfl, _, _, hre⟩ := own_form hown
  have Hir := Lib.hid hir; have Hst := Lib.hid hst
  have HB2 := Lib.hid (hst.below Hlo.out HBB.out)
  have HB2s := Lib.hid (show B ≤ w2.heap.size from Nat.le_trans HBB.out HB2.out.size)
  have Hat := Lib.hid (fun W (hb : Below w2.heap.size w2 W) (k : Nat) (hk : k < l.length) => en_at (hre.below hb) hk)
  have hl := hir.count Hdb.out
  obtain ⟨n, hn⟩ : ∃ n, n = l.length := ⟨_, rfl⟩
  rw [← hn] at hl Hat
  have Hn := Lib.hid hn
  clear hir hown hre hst
  have Hnew := Lib.hid (hnew_any w2)
  rw [← hn]
  clear hn
  go_wp2_with fail
  refine Hnew.out.mono ?_
  rintro e w3 ⟨hb, mb, rfl, hh, hb3⟩
  have HB3 := Lib.hid (Below.alloc hb3 hb3.size (.cells #[.pointer (some ⟨hb, 0, none⟩), .pointer (some ⟨dq, 0, none⟩), .int .i64 sp, .int .i64 kp, .slice none 0 0] 78))
  have HS3 := Lib.hid (show StAt (w3.alloc (.cells #[.pointer (some ⟨hb, 0, none⟩), .pointer (some ⟨dq, 0, none⟩), .int .i64 sp, .int .i64 kp, .slice none 0 0] 78)) w3.heap.size hb mb (.map []) [] dq dv2 (.slice none 0 0) [] ⟨hAll [], ⟨d.b.take k0, false, -1⟩, sp, kp, []⟩ ∧ (∀ j, HdS hb mb [] j → w2.heap.size ≤ j) from
    ⟨⟨Blk.new w3 _ _, (hh.below (Below.alloc (Below.refl _ _) (Nat.le_refl _) _)).tight, rfl, Hst.out.at_.below HB3.out (Nat.le_refl _), BksAt.nil _, rfl⟩, hh.hds⟩)
  have hq3 : w2.heap.size ≤ w3.heap.size := hb3.size
  clear hh hb3
  go_wp2
  go_loopw [44] (fun iv wr => ∃ (k : Nat) (D : DataW Unit) (L : List HLn), k ≤ n ∧ iv = .int .i64 k ∧ StAt wr w3.heap.size hb mb D L dq dv2 (.slice none 0 0) [] ⟨hAll (l.take k), ⟨d.b.take k0, false, -1⟩, sp, kp, []⟩ ∧ (∀ j, HdS hb mb L j → w2.heap.size ≤ j) ∧ Below w2.heap.size w2 wr) (fun iv _ => n - (intOf iv).toNat)
  case atStart => exact ⟨0, _, _, Nat.zero_le _, rfl, HS3.out.1, HS3.out.2, HB3.out⟩
  case round =>
    obtain ⟨k, D, L, hk, rfl, hS, hF, hbr⟩ := hrel
    have HS := Lib.hid hS; have HF := Lib.hid hF; have HBr := Lib.hid hbr
    clear hS hF
    by_cases hkn : k < n
    · have hkn' : (k : Int) < n := by omega
      obtain ⟨b0, o0, en, hA0, had, hen, x0, x1, x2⟩ := Hat.out _ hbr k hkn
      subst hA0
      have hok := Hir.out.ok en (List.mem_of_getElem? hen)
      have Hta := Lib.hid (show hAll (l.take (k + 1)) = hTry (hAll (l.take k)) en by rw [take_snoc hen, hAll_snoc])
      have Htk := Lib.hid (TryOk.all (l.take k))
      have hnm : en.nm.length ≤ 100000 := Nat.le_trans (nm_len hok.1) (by decide)
      have hba : Below wr.heap.size wr (wr.alloc (.cells #[.string (B8 en.nm), .int .i64 en.tick, .int .u64 (en.bit : Int)] 80)) := Below.alloc (Below.refl _ _) (Nat.le_refl _) _
      have hka := Blk.new wr 80 #[.string (B8 en.nm), .int .i64 en.tick, .int .u64 (en.bit : Int)]
      have HBa := Lib.hid hba; have HKa := Lib.hid hka
      have HSa := Lib.hid (HS.out.below hba)
      by_cases ht : en.tick < 0
      · have He := Lib.hid (show hAll (l.take (k + 1)) = hAll (l.take k) by rw [Hta.out]; exact if_pos ht)
        clear hbr hen hok hba hka had
        generalize B8 en.nm = sn at *
        go_wp2
        go_roundw
        case rel => exact ⟨k + 1, D, L, by omega, by go_num, by rw [He.out]; exact HSa.out, HF.out, Below.call HBr.out HBa.out HBr.out.size⟩
        case measure => simp [intOf]; omega
      · have He := Lib.hid (show hAll (l.take (k + 1)) = if (hFault (hAll (l.take k)) en.nm (en.tick, (en.bit : Int))).1 = 0 then hAdd (hAll (l.take k)) en.nm (en.tick, (en.bit : Int)) else hAll (l.take k) by rw [Hta.out]; exact if_neg ht)
        have ht' : (0 : Int) ≤ en.tick := by omega
        have hbd : Below wr.heap.size wr (wr.alloc (.cells #[.string (B8 en.nm), .int .i64 en.tick, .int .u64 (en.bit : Int)] 80)).drew := hba.drew
        have HBd := Lib.hid hbd
        have HSd := Lib.hid (HS.out.below hbd)
        have HKd := Lib.hid hka.drew
        have hBw : Below B w (wr.alloc (.cells #[.string (B8 en.nm), .int .i64 en.tick, .int .u64 (en.bit : Int)] 80)).drew := Below.call HB2.out (Below.call hbr hbd hbr.size) HB2s.out
        have hWd := HW.out _ hBw
        have hLl : L.length ≤ 60 := by have := Htk.out.len; have e := HS.out.ab; dsimp only at e; rw [← e] at this; unfold absL at this; rwa [List.length_map] at this
        have hLp : ∀ x ∈ L, x.pts.length ≤ 100000 := fun x hx => by
          have h1 := hCount_ge (show (x.nm, x.pts, x.last) ∈ hAll (l.take k) from by have e := HS.out.ab; dsimp only at e; rw [← e]; exact List.mem_map.2 ⟨x, hx, rfl⟩)
          have h2 := Htk.out.cnt
          have h3 : (l.take k).length ≤ k := List.length_take_le _ _
          dsimp only at h1
          omega
        have Had := Lib.hid (hadd_any en.nm (en.tick, (en.bit : Int)) _ hnm hWd.wal.svl hWd.b0 HSd.out.he (by omega) hLp)
        have Hc0 := Lib.hid (show (wr.alloc (.cells #[.string (B8 en.nm), .int .i64 en.tick, .int .u64 (en.bit : Int)] 80)).drew.cell? ⟨w3.heap.size, 0, none⟩ = some (.pointer (some ⟨hb, 0, none⟩)) ∧ (wr.alloc (.cells #[.string (B8 en.nm), .int .i64 en.tick, .int .u64 (en.bit : Int)] 80)).drew.cell? ⟨wr.heap.size, 0, none⟩ = some (.string (B8 en.nm)) ∧ (wr.alloc (.cells #[.string (B8 en.nm), .int .i64 en.tick, .int .u64 (en.bit : Int)] 80)).drew.cell? ⟨wr.heap.size, 1, none⟩ = some (.int .i64 en.tick) ∧ (wr.alloc (.cells #[.string (B8 en.nm), .int .i64 en.tick, .int .u64 (en.bit : Int)] 80)).drew.cell? ⟨wr.heap.size, 2, none⟩ = some (.int .u64 (en.bit : Int)) from
          ⟨HSd.out.hd.cell 0, HKd.out.cell 0, HKd.out.cell 1, HKd.out.cell 2⟩)
        have Hnot := Lib.hid (show ¬ HdS hb mb L wr.heap.size from (HSd.out.he.odd (T := [80]) (by decide) (by decide) (by decide)).not HKd.out (by simp))
        clear hbr hen hok hba hka had hbd hBw hWd hLl hLp ht
        obtain ⟨sn, hsn⟩ : ∃ sn, sn = B8 en.nm := ⟨_, rfl⟩
        obtain ⟨tk, htk⟩ : ∃ tk, tk = en.tick := ⟨_, rfl⟩
        obtain ⟨bi, hbi⟩ : ∃ bi, bi = (en.bit : Int) := ⟨_, rfl⟩
        rw [← hsn, ← htk, ← hbi] at Hc0 HBd HSd HKd
        rw [← hsn] at x0 Had
        rw [← htk] at x1 ht' He Had
        rw [← hbi] at x2 He Had
        dsimp only at Had
        obtain ⟨wd, hwd⟩ : ∃ wd, wd = (wr.alloc (.cells #[.string sn, .int .i64 tk, .int .u64 bi] 80)).drew := ⟨_, rfl⟩
        clear hsn htk hbi
        go_wp2
        go_region_held3 (fun w' => w'.cell? ⟨w3.heap.size, 0, none⟩ = some (.pointer (some ⟨hb, 0, none⟩)) ∧ w'.cell? ⟨wr.heap.size, 0, none⟩ = some (.string sn) ∧ w'.cell? ⟨wr.heap.size, 1, none⟩ = some (.int .i64 tk) ∧ w'.cell? ⟨wr.heap.size, 2, none⟩ = some (.int .u64 bi))
          (first | with_reducible exact Hc0.out | with_reducible exact H6c.out | exact Hc0.out)
          (first | (go_at_call 25; refine Had.out.mono ?_; rintro e6 w6 h6; obtain ⟨v6, D6, L6, rfl, hh6, hab6, hf6⟩ := h6.any HSd.out.he; have HS6 := Lib.hid (HSd.out.headStep hh6 hf6); have HF6 := Lib.hid hf6; have HH6 := Lib.hid hh6.hds; have Hab6 := Lib.hid hab6; have H6c := Lib.hid (show w6.cell? ⟨w3.heap.size, 0, none⟩ = some (.pointer (some ⟨hb, 0, none⟩)) ∧ w6.cell? ⟨wr.heap.size, 0, none⟩ = some (.string sn) ∧ w6.cell? ⟨wr.heap.size, 1, none⟩ = some (.int .i64 tk) ∧ w6.cell? ⟨wr.heap.size, 2, none⟩ = some (.int .u64 bi) from ⟨HS6.out.1.hd.cell 0, (hf6.blk HKd.out Hnot.out).cell 0, (hf6.blk HKd.out Hnot.out).cell 1, (hf6.blk HKd.out Hnot.out).cell 2⟩); clear h6 hh6 hab6 hf6))
        all_goals
          go_wp2
          go_roundw
          case rel =>
            refine ⟨k + 1, D6, L6, by omega, by go_num, ?_, fun j hj => ?_, ?_⟩
            · have e1 := Hab6.out
              rw [show absL L = hAll (l.take k) from HS.out.ab] at e1
              have h1 := HS6.out.1
              rw [e1, ← He.out] at h1
              exact h1
            · rcases HH6.out j hj with h | h
              · exact HF.out j h
              · exact Nat.le_trans (Nat.le_trans HBr.out.size HBd.out.size) h
            · exact Below.call HBr.out HBd.out HBr.out.size |>.trans (HF6.out.below (Nat.le_trans HBr.out.size HBd.out.size) (fun j hj hk => by have := HF.out j hk; omega))
          case measure => simp [intOf]; omega
    · obtain rfl : k = n := by omega
      have hkn' : ¬ (k : Int) < k := by omega
      have He := Lib.hid (show l.take k = l from List.take_of_length_le (by rw [Hn.out]; exact Nat.le_refl _))
      clear hbr
      go_wp2
      go_ret2
      refine ⟨fun h => absurd (by rw [Hok.out]) h, fun _ => ⟨l, k0, w3.heap.size, StS w3.heap.size hb mb L dq dv2 (.slice none 0 0) [], rfl, Hir.out, ⟨hb, mb, D, L, dv2, .slice none 0 0, [], ?_, rfl, ?_⟩, ?_, ?_⟩⟩
      · have := HS.out
        rw [He.out] at this
        exact this
      · rintro j (rfl | hj | hj | hj)
        · exact Nat.le_trans HB2s.out hq3
        · exact Nat.le_trans HB2s.out (HF.out j hj)
        · rcases hj with hj | hj
          · exact Hlo.out j (.inl hj)
          · exact (Hst.out.mv j hj).elim (fun h => Hlo.out j (.inr h)) (fun h => Nat.le_trans HBB.out h)
        · rcases hj with hj | ⟨b, hb', _⟩
          · cases hj
          · cases hb'
      · exact Hst.out.fr.call HBr.out Hst.out.fr.size
      · rintro j (rfl | hj | hj | hj)
        · exact .inr (Nat.le_trans Hst.out.fr.size hq3)
        · exact .inr (Nat.le_trans Hst.out.fr.size (HF.out j hj))
        · rcases hj with hj | hj
          · exact .inl (.inl hj)
          · exact (Hst.out.mv j hj).imp .inr id
        · rcases hj with hj | ⟨b, hb', _⟩
          · cases hj
          · cases hb'
end Go.Proofs.YthgefobcohlegaaGreatDoor

namespace Go.Proofs.YthgefobcohlegaaGreatDoor
open Go.RowKit Go.Maps
set_option linter.unusedVariables false

def nA : Bs := [110, 61, 97]
def enA : En := ⟨[110, 61, 97], 3, 7⟩
theorem enA_rd : rdF nA = (0, -1) := by decide +kernel
theorem enA_ok : EnOk enA := ⟨by rw [show enA.nm = nA from rfl, enA_rd], by decide, by decide⟩
theorem enA_ap : apF ⟨[], false, -1⟩ enA = (0, -1) ∧ apD ⟨[], false, -1⟩ enA = ⟨recL enA, false, -1⟩ := by
  have h2 := recL_le enA_ok
  have hw := wrD_all (d := ⟨[], false, -1⟩) rfl (s := recL enA) (fun hh => absurd hh.1 (show ¬ (0 : Int) ≤ -1 by decide))
  have h4 := apF_4 (d := ⟨[], false, -1⟩) enA_ok.1 enA_ok.2.1 (by show ¬ 65536 < 0 + _; omega)
  rw [hw] at h4
  exact h4
def st0 : StM := ⟨[], ⟨[], false, -1⟩, 10, 2, []⟩
def st1 : StM := ⟨[(nA, [(3, 7)], 3)], ⟨recL enA, false, -1⟩, 10, 2, []⟩
def st2 : StM := ⟨[(nA, [], 3)], ⟨[], false, -1⟩, 10, 2, [((0, 10), [(nA, [(3, 7)])])]⟩
theorem read_nil {l : List En} {k : Nat} (h : IsRead [] l k) : l = [] := by
  have := (LogInv.start (-1)).read (d := ⟨[], false, -1⟩) h
  exact this.1
theorem st_new {l : List En} {k : Nat} (h : IsRead [] l k) : newS l k ⟨[], false, -1⟩ 10 2 = st0 := by
  rw [read_nil h]
  unfold newS st0 hAll
  simp
theorem st_pre : preF st0 nA (3, 7) = (0, -1) := by decide +kernel
theorem st_add : sAddF st0 nA (3, 7) = (0, -1) ∧ sAdd st0 nA (3, 7) = st1 := by
  obtain ⟨e1, e2⟩ := sAdd_2 (by rw [st_pre] : (preF st0 nA (3, 7)).1 = 0)
  have ea : apF st0.d (enOf nA (3, 7)) = (0, -1) := enA_ap.1
  have ed : apD st0.d (enOf nA (3, 7)) = ⟨recL enA, false, -1⟩ := enA_ap.2
  rw [e1, e2, ea, ed]
  exact ⟨rfl, rfl⟩
theorem st_inv : KInv False st1 [] := by
  have h := (KInv.start (Q := False) (sp := 10) ⟨by decide, by decide⟩ ⟨[], false, -1⟩ 2).add (s := nA) (p := (3, 7)) (by decide) ⟨by decide, by decide⟩ (by rw [show (⟨[], ⟨[], false, -1⟩, 10, 2, []⟩ : StM) = st0 from rfl, st_pre]) ⟨recL enA, false, -1⟩
  exact ⟨h.sp1, h.srt, h.inv, h.n60, h.nm, h.vl, h.bk, h.asc, h.top, fun hq => hq.elim⟩
theorem st_flush : flushS st1 10 = (st2, 1, (0, -1)) := by kernel_rfl
theorem st_pts : ptsS st2 nA 0 10 = [(3, 7)] := by decide +kernel
theorem st_names : namesS st2 = [nA] := by
  unfold namesS srtN
  have e : (hSeries st2.A ++ st2.B.flatMap fun b => b.2.map Prod.fst) = [nA] := rfl
  rw [e]
  have e2 : onceN ([nA].map (fun s => ((s, []) : Rw)) |>.map Prod.fst) = [nA] := by decide +kernel
  rw [e2]
  simp
theorem st_sel : (selM st2 [] 0 10).length = 1 := by
  unfold selM
  rw [st_names, show [nA] = [] ++ [nA] from rfl, selL_yes [] (by decide +kernel) (by rw [st_pts]; decide)]
  rfl
/-- A store and its disk, and the law's own blocks. -/
theorem StPost.go {es : Nat → Addr} {B q dq : Nat} {G : Nat → Prop} {S S' : StM} {w w1 w' : World} (hW : StW es B w) (hb : Below B w w1) (h : StI B w1 q dq G S) (hp : StPost B q dq G w1 w' S') : ∃ G', StI B w' q dq G' S' ∧ Below B w w' ∧ StW es B w' := by
  obtain ⟨G', h1, h2⟩ := hp
  have hlo : ∀ k, G k → B ≤ k := by obtain ⟨_, _, _, _, _, _, _, _, _, h3⟩ := h; exact h3
  have h3 := hb.trans (h2.low hlo (Nat.le_trans hW.b0 hb.size)).2
  exact ⟨G', h1, h3, hW.below h3 (Nat.le_refl _)⟩
set_option maxRecDepth 100000 in
set_option maxHeartbeats 8000000 in
theorem stored_any {es : Nat → Addr} (w : World) (hW : StW es w.heap.size w) :
    Calls Tryz.prog 6 #[] w fun e w' => e = .returned (.bool true) ∧ Below w.heap.size w w' := by
  have HW := Lib.hid hW
  have HWb := Lib.hid (fun W (hb : Below w.heap.size w W) => hW.below hb (Nat.le_refl _))
  clear hW
  go_enter Tryz.func6, Tryz.ntmps6
  go_wp2_with fail
  refine (dnew_any [] (by decide) w).mono ?_
  rintro e w1 ⟨dq, dv, rfl, hD, hlo, hb⟩
  have HB1 := Lib.hid hb
  have Hlo := Lib.hid hlo
  have Hnw := Lib.hid (snew_any 10 2 w1 (HWb.out _ hb) hD hlo (by decide))
  clear hD hlo hb
  go_wp2_with fail
  refine Hnw.out.mono ?_
  rintro e w2 ⟨_, hok⟩
  obtain ⟨l, k, q, G, rfl, hir, hI, hf, _⟩ := hok rfl
  rw [st_new hir] at hI
  have HI2 := Lib.hid hI
  have HB2 := Lib.hid (HB1.out.trans (hf.below HB1.out.size (fun k hk hd => by have := Hlo.out k hd; omega)))
  have Hin0 := Lib.hid (KInv.start (Q := False) (sp := 10) ⟨by decide, by decide⟩ ⟨[], false, -1⟩ 2)
  have Had := Lib.hid (sadd_any nA 3 7 w2 (by decide) ⟨by decide, by decide⟩ (HWb.out _ HB2.out) hI (Hin0.out.sok (by decide) (by decide) ⟨by decide, by decide⟩ (by decide)))
  have e1 : B8 nA = ⟨#[110, 61, 97]⟩ := rfl
  rw [e1] at Had
  clear hok hir hI hf e1
  go_wp2_with fail
  refine Had.out.mono ?_
  rintro e w3 ⟨v3, rfl, hev3, hp3⟩
  rw [st_add.1] at hev3
  rw [st_add.2] at hp3
  obtain rfl := hev3.zero rfl
  obtain ⟨G3, hI3, hb3, hW3⟩ := hp3.go HW.out HB2.out HI2.out
  have HI3 := Lib.hid hI3; have HB3 := Lib.hid hb3; have HW3 := Lib.hid hW3
  have Hfl := Lib.hid (sflush_any 10 w3 hW3 hI3 st_inv (by decide) (by decide) ⟨by decide, by decide⟩ (Nat.le_trans (recL_le enA_ok) (by decide)))
  rw [st_flush] at Hfl
  clear hev3 hp3 hI3 hb3 hW3
  go_wp2_with fail
  refine Hfl.out.mono ?_
  rintro e w4 ⟨v4, rfl, hev4, hp4⟩
  obtain rfl := hev4.zero rfl
  obtain ⟨G4, hI4, hb4, hW4⟩ := StPost.go HW.out HB3.out HI3.out hp4
  have HI4 := Lib.hid hI4; have HB4 := Lib.hid hb4; have HW4 := Lib.hid hW4
  have hk2 : KInv False st2 [] := by
    have h := st_inv.flush_any 10
    rw [st_flush] at h
    exact h
  have Hsl := Lib.hid (sselect_any none 0 0 [] 0 10 w4 hW4 hI4 (hk2.sok (by decide) (by decide) ⟨by decide, by decide⟩ (by decide)) (fun b hb => by rw [List.mem_singleton.1 hb]; decide) hk2.names Rd.nil (fun m h => by cases h))
  clear hev4 hp4 hI4 hb4 hW4 hk2
  go_wp2_with fail
  refine Hsl.out.mono ?_
  rintro e w5 ⟨A5, c5, ls, v5, rfl, hev5, _, hrow5, hb5⟩
  obtain rfl := hev5.zero (by decide)
  obtain ⟨_, _, hmap⟩ := hrow5 (by decide)
  have hl5 : ls.length = 1 := by
    have := congrArg List.length hmap
    rw [List.length_map, st_sel] at this
    exact this
  rw [hl5]
  have HB5 := Lib.hid (Below.call HB4.out hb5 HB4.out.size)
  have Hbl := Lib.hid (sblocks_any w5 (HI4.out.below hb5) (by decide))
  have e2 : st2.B.length = 1 := rfl
  rw [e2] at Hbl
  clear hev5 hrow5 hmap hb5 hl5 e2
  go_wp2_with fail
  refine Hbl.out.mono ?_
  rintro e w6 ⟨A6, c6, Lk, rfl, _, _, _, hb6⟩
  have HB6 := Lib.hid (Below.call HB5.out hb6 HB5.out.size)
  clear hb6
  go_wp2
  go_ret
  exact ⟨rfl, HB6.out⟩
end Go.Proofs.YthgefobcohlegaaGreatDoor
