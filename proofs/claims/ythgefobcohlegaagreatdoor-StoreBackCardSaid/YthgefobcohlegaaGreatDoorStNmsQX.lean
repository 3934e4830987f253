/- The names of all series of a store. -/
import Derived.Test.YthgefobcohlegaaGreatDoorMkyX
import Derived.Test.YthgefobcohlegaaGreatDoorMkafX
import Derived.Test.YthgefobcohlegaaGreatDoorMkvX
namespace Go.Proofs.YthgefobcohlegaaGreatDoor
open Go.RowKit Go.Maps Go.Sort
set_option linter.unusedVariables false

def boolR (v : Value) : Option (DataW Unit × List MemPlace) := match v with
  | .bool b => some (.lit (.bool b), [])
  | _ => none
/-- A set of names in memory: those of a list. -/
structure NmAt (w : World) (mb : Nat) (D : DataW Unit) (l : List Bs) : Prop where
  mp : w.ownsMap Tryz.prog 9 boolR mb l.length D
  has : ∀ s : Bs, Maps.has D (.string s) = true ↔ s ∈ l
theorem NmAt.new (w : World) : NmAt (w.alloc (.map #[] 0)) w.heap.size (.map []) [] :=
  ⟨World.ownsMap_made w Tryz.prog 9 boolR, fun s => ⟨fun h => (by cases h), fun h => (by cases h)⟩⟩
theorem NmAt.below {w w' : World} {mb : Nat} {D : DataW Unit} {l : List Bs} (h : NmAt w mb D l) (hb : Below w.heap.size w w') : NmAt w' mb D l := by
  obtain ⟨es, clock, h1, h2, h3, h4⟩ := h.mp
  exact ⟨⟨es, clock, (hb.block _ h.mp.lt).trans h1, h2, h3, h4⟩, h.has⟩
theorem NmAt.put {w w' : World} {mb : Nat} {D : DataW Unit} {l : List Bs} (h : NmAt w mb D l) (s : Bs) (hm : w'.ownsMap Tryz.prog 9 boolR mb (l.length + 1) (D.put (.string s) (.lit (.bool true)))) : NmAt w' mb (D.put (.string s) (.lit (.bool true))) (l ++ [s]) := by
  refine ⟨by rw [List.length_append, List.length_singleton]; exact hm, fun u => ?_⟩
  have ht := (h.mp.tidy mStrKeyed).isMap
  by_cases hu : s = u
  · subst hu
    rw [Maps.has_put_same ht (show WideAt.IsKeyLit (.string s) from trivial)]
    simp
  · rw [Maps.has_put_other (fun e => hu (by injection e with e; exact e.symm)), h.has u, List.mem_append, List.mem_singleton]
    exact ⟨.inl, fun h => h.elim id (fun e => absurd e.symm hu)⟩
theorem NmAt.keys {w : World} {mb : Nat} {D : DataW Unit} {l : List Bs} (h : NmAt w mb D l) {ss : List (List UInt8)} (hp : ss.Perm (strKeys D)) : ss.mergeSort leB = srtN (l.map fun s => (s, [])) := by
  obtain ⟨es, rfl, hes, _⟩ := h.mp.entries mStrKeyed
  obtain ⟨es2, he2, hk⟩ := h.mp.keysOf
  injection he2 with he2
  subst he2
  have e : (l.map fun s => ((s, []) : Rw)).map Prod.fst = l := by rw [List.map_map]; exact List.map_id _
  have hp2 : (onceN ((l.map fun s => ((s, []) : Rw)).map Prod.fst)).Perm (strKeys (.map es)) := by
    refine perm_strKeys hes (fun p hp => ?_) (onceN_nodup _) (fun x => ?_)
    · obtain ⟨v, hv⟩ := hk p hp
      obtain ⟨x, _, hx, _⟩ := Maps.keyOf_str Tryz.underlying9 hv
      exact ⟨x, hx⟩
    · rw [onceN_mem, e]
      exact (h.has x).symm
  exact mergeSort_of_perm (hp.trans hp2.symm)
/-- What is written to the set leaves everything else. -/
structure NmI (w wr : World) (mb : Nat) (D : DataW Unit) (l : List Bs) : Prop where
  nm : NmAt wr mb D l
  bel : Below w.heap.size w wr
  lo : w.heap.size ≤ mb
theorem NmI.put {w wr W w' : World} {mb : Nat} {D : DataW Unit} {l : List Bs} (h : NmI w wr mb D l) (hW : Below wr.heap.size wr W) (s : Bs) (hm : w'.ownsMap Tryz.prog 9 boolR mb (l.length + 1) (D.put (.string s) (.lit (.bool true)))) (hg : W.grownBy w' (some mb)) :
    NmI w w' mb (D.put (.string s) (.lit (.bool true))) (l ++ [s]) :=
  ⟨h.nm.put s hm, Below.grown (Below.call h.bel hW h.bel.size) hg (Nat.le_trans h.bel.size hW.size) (fun g hg => by injection hg with hg; rw [← hg]; exact h.lo), h.lo⟩
theorem namesB_len (Bl : List BkV) (h : ∀ b ∈ Bl, b.rows.length ≤ 60) : (Bl.flatMap fun b => b.rows.map Prod.fst).length ≤ 60 * Bl.length := by
  induction Bl with
  | nil => exact Nat.zero_le _
  | cons b l ih =>
    have ih := ih fun c hc => h c (List.mem_cons_of_mem _ hc)
    have hb := h b List.mem_cons_self
    rw [List.flatMap_cons, List.length_append, List.length_map, List.length_cons]
    omega
theorem take_flat {Bl : List BkV} {k : Nat} {b : BkV} (h : Bl[k]? = some b) : ((Bl.take (k + 1)).flatMap fun b => b.rows.map Prod.fst) = ((Bl.take k).flatMap fun b => b.rows.map Prod.fst) ++ b.rows.map Prod.fst := by
  rw [take_snoc h, List.flatMap_append, List.flatMap_singleton]
theorem txS_at {rows : List Rw} {w : World} {B n : Nat} {A : Option Addr} (h : Rd w B 1 A n (txS (encR rows))) {k : Nat} (hk : k < n) : ∃ b o r, A = some ⟨b, o, none⟩ ∧ b < B ∧ rows[k]? = some r ∧ w.cell? ⟨b, o + k, none⟩ = some (.string (B8 r.1)) := by
  have e : txS (encR rows) = rows.map fun r => Value.string (B8 r.1) := by unfold txS encR; rw [List.map_map]; rfl
  rw [e] at h
  exact h.at1 hk
set_option maxRecDepth 100000 in
set_option maxHeartbeats 8000000 in
theorem snames_any {q hb mb : Nat} {D : DataW Unit} {L : List HLn} {dq : Nat} {dv bv : Value} {Bl : List BkV} {S : StM} (w : World) (h : StAt w q hb mb D L dq dv bv Bl S) (hO : HdOk L) (hB40 : Bl.length ≤ 40) :
    Calls Tryz.prog 31 #[.pointer (some ⟨q, 0, none⟩)] w fun e w' => ∃ v, e = .returned v ∧ w'.ownsRow w.heap.size 9 1 v (namesS S).length (txC (namesS S)) ∧ Below w.heap.size w w' := by
  have hfin : namesS S = srtN ((hSer L ++ Bl.flatMap fun b => b.rows.map Prod.fst).map fun s => (s, [])) := by
    unfold namesS
    rw [← h.bm, ← h.ab, hSeries_of, List.flatMap_map]
  rw [hfin]
  clear hfin
  have hbm1 : Below w.heap.size w (w.alloc (.map #[] 0)) := Below.alloc (Below.refl _ _) (Nat.le_refl _) _
  have HBm1 := Lib.hid hbm1
  have HN1 := Lib.hid (NmAt.new w)
  have z0 : (w.alloc (.map #[] 0)).cell? ⟨q, 0, none⟩ = some (.pointer (some ⟨hb, 0, none⟩)) := (h.below hbm1).hd.cell 0
  have Hser := Lib.hid (hseries_any _ (h.below hbm1).he (by have := hO.n60; omega) (fun x hx => Nat.le_trans (hO.nm x hx) (by decide)))
  have hsl : (hSer L).length ≤ 60 := by unfold hSer; rw [List.length_map]; exact Nat.le_trans (lnsOf_len L) hO.n60
  have Hnm := Lib.hid (show ∀ s ∈ hSer L, s.length ≤ 1000000 from fun s hs => by
    obtain ⟨x, hx, rfl⟩ := List.mem_map.1 hs
    exact Nat.le_trans (hO.nm x (lnsOf_mem hx).1) (by decide))
  obtain ⟨Ab, cb, hbv, _, _, hrb⟩ := own_form h.bl.own
  have Hc4 := Lib.hid (fun W (hb' : Below w.heap.size w W) => show W.cell? ⟨q, 4, none⟩ = some bv from (h.below hb').hd.cell 4)
  rw [hbv] at Hc4
  have Hat := Lib.hid (fun W (hb : Below w.heap.size w W) (k : Nat) (hk : k < Bl.length) => (hrb.below hb).at4 hk)
  have Hbk := Lib.hid (fun W (hb : Below w.heap.size w W) b (hm : b ∈ Bl) => ((h.below hb).bl.bk b hm))
  have Hb60 := Lib.hid (show ∀ b ∈ Bl, b.rows.length ≤ 60 from fun b hb => (h.bl.bk b hb).ok.n60)
  have Hb200 := Lib.hid (show ∀ b ∈ Bl, ∀ r ∈ b.rows, r.1.length ≤ 200 from fun b hb => (h.bl.bk b hb).ok.nm)
  clear h hO hbm1 hbv hrb
  obtain ⟨N, hN⟩ : ∃ N, N = hSer L := ⟨_, rfl⟩
  rw [← hN] at Hser hsl Hnm ⊢
  clear hN
  obtain ⟨n, hn⟩ : ∃ n, n = N.length := ⟨_, rfl⟩
  rw [← hn] at Hser hsl
  have Hn := Lib.hid hn
  obtain ⟨m, hm⟩ : ∃ m, m = Bl.length := ⟨_, rfl⟩
  rw [← hm] at Hc4 Hat hB40
  have Hm := Lib.hid hm
  clear hn hm
  have hmm := @run_makeMap Tryz.prog
  go_enter Tryz.func31, Tryz.ntmps31
  go_wp2_with fail
  refine Hser.out.mono ?_
  rintro e w1 ⟨v1, rfl, hown, hb1⟩
  obtain ⟨A1, c1, rfl, _, _, hr1⟩ := own_form hown
  have HR1 := Lib.hid (fun W (hb : Below w1.heap.size w1 W) (k : Nat) (hk : k < n) => (show Rd W w1.heap.size 1 A1 n (N.map fun s => Value.string (B8 s)) from hr1.below hb).at1 hk)
  have HB1 := Lib.hid (Below.call HBm1.out hb1 HBm1.out.size)
  have HI1 := Lib.hid (show NmI w w1 w.heap.size (.map []) [] from ⟨HN1.out.below hb1, HB1.out, Nat.le_refl _⟩)
  have hmb1 : w.heap.size < w1.heap.size := HI1.out.nm.mp.lt
  clear hown hb1 hr1 z0
  go_wp2
  go_loopw [17] (fun iv wr => ∃ (k : Nat) (D : DataW Unit), k ≤ n ∧ iv = .int .i64 k ∧ NmI w wr w.heap.size D (N.take k) ∧ (∀ p : Addr, p.block < w1.heap.size → p.block ≠ w.heap.size → wr.cell? p = w1.cell? p) ∧ w1.heap.size ≤ wr.heap.size) (fun iv _ => n - (intOf iv).toNat)
  case atStart => exact ⟨0, _, Nat.zero_le _, rfl, HI1.out, fun _ _ _ => rfl, Nat.le_refl _⟩
  case round =>
    obtain ⟨k, D, hk, rfl, hI, hfr, hsz⟩ := hrel
    have HI := Lib.hid hI; have HF := Lib.hid hfr
    clear hI hfr
    by_cases hkn : k < n
    · obtain ⟨bb, off, s, hAe, had, hx, e0⟩ := HR1.out w1 (Below.refl _ _) k hkn
      subst hAe
      have hbm : bb ≠ w.heap.size := by
        rintro rfl
        obtain ⟨es, clock, h1, _⟩ := HI1.out.nm.mp
        simp [World.cell?, h1] at e0
      have e0 := (HF.out ⟨bb, off + k, none⟩ had hbm).trans e0
      have Hx := Lib.hid hx
      have Hkey := Lib.hid (mKeyStr (s := s) (Hnm.out s (List.mem_of_getElem? hx)))
      have HM := Lib.hid HI.out.nm.mp
      have hln : (N.take k).length < maxLen := by
        have : (N.take k).length ≤ k := List.length_take_le _ _
        unfold maxLen; omega
      generalize hsn : B8 s = sn at e0 Hkey
      clear hx hsn
      go_wp2_with (at_mapUpdate; refine wpList_mapUpdate_own _ rfl _ _ _ 129 rfl 9 4 mStrKeyed Tryz.underlying129 boolR w.heap.size _ D rfl HM.out hln _ _ _ rfl rfl Hkey.out (.lit (.bool true)) [] rfl ?_; intro w3 hown3 hgrow3; have HI3 := Lib.hid (HI.out.put (Below.refl _ _) s hown3 hgrow3); have HG3 := Lib.hid hgrow3; clear hown3 hgrow3)
      go_roundw
      case rel =>
        refine ⟨k + 1, _, by omega, by go_num, by rw [take_snoc Hx.out]; exact HI3.out, fun p h1 h2 => ?_, Nat.le_trans hsz HG3.out.size⟩
        exact (World.cell?_of_block (HG3.out.block p.block (Nat.lt_of_lt_of_le h1 hsz) (fun e => h2 (Option.some.inj e)))).trans (HF.out p h1 h2)
      case measure => simp [intOf]; omega
    · obtain rfl : k = n := by omega
      have hNt : N.take k = N := List.take_of_length_le (by rw [Hn.out]; exact Nat.le_refl _)
      have HI := Lib.hid (show NmI w wr w.heap.size D (N ++ (Bl.take 0).flatMap fun b => b.rows.map Prod.fst) by have := HI.out; rw [hNt] at this; simpa using this)
      have z4 := Hc4.out _ HI.out.bel
      clear hNt HF
      go_wp2
      go_loopw [29] (fun iv wr => ∃ (j : Nat) (D : DataW Unit), j ≤ m ∧ iv = .int .i64 j ∧ NmI w wr w.heap.size D (N ++ (Bl.take j).flatMap fun b => b.rows.map Prod.fst)) (fun iv _ => m - (intOf iv).toNat)
      case atStart => exact ⟨0, D, Nat.zero_le _, rfl, HI.out⟩
      case round =>
        obtain ⟨j, D2, hj, rfl, hI2⟩ := hrel
        have HI2 := Lib.hid hI2
        by_cases hjm : j < m
        · have hjm' : (j : Int) < m := by omega
          obtain ⟨b0, o0, b, hA0, had0, hbj, x0, x1, x2, x3⟩ := Hat.out _ hI2.bel j hjm
          subst hA0
          have hmem := List.mem_of_getElem? hbj
          have hba : Below wr.heap.size wr (wr.alloc (.cells #[.int .i64 b.fr, .int .i64 b.sp, .slice b.A b.rows.length b.a, .slice b.C b.rows.length b.c] 85)) := Below.alloc (Below.refl _ _) (Nat.le_refl _) _
          have hI3 : NmI w (wr.alloc (.cells #[.int .i64 b.fr, .int .i64 b.sp, .slice b.A b.rows.length b.a, .slice b.C b.rows.length b.c] 85)) w.heap.size D2 (N ++ (Bl.take j).flatMap fun b => b.rows.map Prod.fst) := ⟨hI2.nm.below hba, Below.call hI2.bel hba hI2.bel.size, hI2.lo⟩
          have HI3 := Lib.hid hI3
          have Hna := Lib.hid (fun W (hb : Below w.heap.size w W) (i : Nat) (hi : i < b.rows.length) => txS_at (Rd.of_own (Hbk.out W hb b hmem).nm) hi)
          have hr60 := Hb60.out b hmem
          have Hr200 := Lib.hid (Hb200.out b hmem)
          have Hbj := Lib.hid (take_flat hbj)
          have Hjl := Lib.hid (namesB_len (Bl.take j) (fun c hc => Hb60.out c (List.mem_of_mem_take hc)))
          have hjt : (Bl.take j).length ≤ j := List.length_take_le _ _
          obtain ⟨l0, hl0⟩ : ∃ l0, l0 = N ++ (Bl.take j).flatMap fun b => b.rows.map Prod.fst := ⟨_, rfl⟩
          have Hl0 := Lib.hid hl0
          have hll : l0.length ≤ 2460 := by rw [hl0, List.length_append]; have := Hjl.out; have := Hn.out; omega
          rw [← hl0] at HI3
          have Hlast := Lib.hid (show N ++ (Bl.take (j + 1)).flatMap (fun b => b.rows.map Prod.fst) = l0 ++ b.rows.map Prod.fst by rw [Hbj.out, ← List.append_assoc, hl0])
          obtain ⟨R, hR⟩ : ∃ R, R = b.rows := ⟨_, rfl⟩
          rw [← hR] at x2 x3 hI3 Hna hr60 Hr200 HI3 Hlast
          obtain ⟨rl, hrl⟩ : ∃ rl, rl = R.length := ⟨_, rfl⟩
          rw [← hrl] at x2 x3 hr60 Hna HI3
          have Hrl := Lib.hid hrl
          clear hI2 hbj hmem hba hI3 hl0 hR hrl hjt
          go_wp2
          go_loopw [36] (fun iv wr => ∃ (i : Nat) (D : DataW Unit), i ≤ rl ∧ iv = .int .i64 i ∧ NmI w wr w.heap.size D (l0 ++ (R.take i).map Prod.fst)) (fun iv _ => rl - (intOf iv).toNat)
          case atStart => exact ⟨0, D2, Nat.zero_le _, rfl, by simpa using HI3.out⟩
          case round =>
            obtain ⟨i, D3, hi, rfl, hI4⟩ := hrel
            have HI4 := Lib.hid hI4
            by_cases hir : i < rl
            · have hir' : (i : Int) < rl := by omega
              obtain ⟨b1, o1, r, hA1, had1, hri, y0⟩ := Hna.out _ hI4.bel i hir
              rw [hA1]
              have Hkey := Lib.hid (mKeyStr (s := r.1) (Nat.le_trans (Hr200.out r (List.mem_of_getElem? hri)) (by decide)))
              have HM := Lib.hid hI4.nm.mp
              have Htk := Lib.hid (show (R.take (i + 1)).map Prod.fst = (R.take i).map Prod.fst ++ [r.1] by rw [take_snoc hri, List.map_append]; rfl)
              have hln : (l0 ++ (R.take i).map Prod.fst).length < maxLen := by
                have : (R.take i).length ≤ i := List.length_take_le _ _
                rw [List.length_append, List.length_map]
                unfold maxLen; omega
              generalize hsn : B8 r.1 = sn at y0 Hkey
              clear hri hsn hI4
              go_wp2_with (at_mapUpdate; refine wpList_mapUpdate_own _ rfl _ _ _ 129 rfl 9 4 mStrKeyed Tryz.underlying129 boolR w.heap.size _ D3 rfl HM.out hln _ _ _ rfl rfl Hkey.out (.lit (.bool true)) [] rfl ?_; intro w3 hown3 hgrow3; have HI5 := Lib.hid (HI4.out.put (Below.refl _ _) r.1 hown3 hgrow3); clear hown3 hgrow3)
              go_roundw
              case rel => exact ⟨i + 1, _, by omega, by go_num, by rw [Htk.out, ← List.append_assoc]; exact HI5.out⟩
              case measure => simp [intOf]; omega
            · obtain rfl : i = rl := by omega
              have hir' : ¬ (i : Int) < i := by omega
              have HI6 := Lib.hid (show NmI w wr w.heap.size D3 (N ++ (Bl.take (j + 1)).flatMap fun b => b.rows.map Prod.fst) by
                rw [Hlast.out]
                have := HI4.out
                rw [List.take_of_length_le (by rw [Hrl.out]; exact Nat.le_refl _)] at this
                exact this)
              clear hI4
              go_wp2
              go_roundw
              case rel => exact ⟨j + 1, D3, by omega, by go_num, HI6.out⟩
              case measure => simp [intOf]; omega
        · obtain rfl : j = m := by omega
          have hjm' : ¬ (j : Int) < j := by omega
          have HM := hI2.nm
          rw [List.take_of_length_le (by rw [Hm.out]; exact Nat.le_refl _)] at HM
          have hle := HM.mp.size_le
          have hll : (N ++ Bl.flatMap fun b => b.rows.map Prod.fst).length ≤ 2460 := by
            have := namesB_len Bl Hb60.out
            rw [List.length_append]; have := Hn.out; have := Hm.out; omega
          have Hkk := Lib.hid (Tryz.mapsKeysB (some w.heap.size) wr)
          have Hss := Lib.hid (Tryz.sortedKeysB w.heap.size _ D2 boolR wr HM.mp (by unfold maxLen; omega) (by omega))
          have Hba := Lib.hid (show Below wr.heap.size wr (wr.alloc (.cells #[.map (some w.heap.size)] 129)) from Below.alloc (Below.refl _ _) (Nat.le_refl _) _)
          have Hkey := Lib.hid (fun (ss : List (List UInt8)) (hp : ss.Perm (strKeys D2)) => HM.keys hp)
          have HBr := Lib.hid hI2.bel
          clear HM hle hll hI2
          go_wp2_with fail
          refine Hkk.out.mono ?_
          rintro e w4 ⟨rfl, rfl⟩
          go_wp2_with fail
          refine Hss.out.mono ?_
          rintro e w5 ⟨v5, ss, rfl, hperm, hown5, _, hb5⟩
          have hsr := Hkey.out ss hperm
          have hslen : ss.length = (srtN ((N ++ Bl.flatMap fun b => b.rows.map Prod.fst).map fun s => (s, []))).length := by
            have := congrArg List.length hsr
            rw [List.length_mergeSort] at this
            exact this
          have HO5 := Lib.hid (show w5.ownsRow w.heap.size 9 1 v5 (srtN ((N ++ Bl.flatMap fun b => b.rows.map Prod.fst).map fun s => (s, []))).length (txC (srtN ((N ++ Bl.flatMap fun b => b.rows.map Prod.fst).map fun s => (s, [])))) from by
            have := own_base hown5 (show w.heap.size ≤ _ from Nat.le_trans HBr.out.size Hba.out.size)
            rw [show ss.mergeSort (fun x y => decide (x ≤ y)) = _ from hsr, hslen] at this
            exact this)
          have HB5 := Lib.hid (Below.call HBr.out (Below.call Hba.out hb5 Hba.out.size) HBr.out.size)
          clear hperm hown5 hb5 hsr hslen
          go_wp2
          go_ret
          exact ⟨_, rfl, HO5.out, HB5.out⟩
end Go.Proofs.YthgefobcohlegaaGreatDoor
