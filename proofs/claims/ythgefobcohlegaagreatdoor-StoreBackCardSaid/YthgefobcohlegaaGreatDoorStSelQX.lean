/- A store's Select. -/
import Derived.Test.YthgefobcohlegaaGreatDoorStNmsQX
import Derived.Test.YthgefobcohlegaaGreatDoorMkaeX
import Derived.Test.YthgefobcohlegaaGreatDoorMkyX
import Derived.Test.YthgefobcohlegaaGreatDoorMkxX
namespace Go.Proofs.YthgefobcohlegaaGreatDoor
open Go.RowKit Go.Maps
set_option linter.unusedVariables false

/-- Does a series fit some matches? -/
def okS (ms : List Mt) (s : Bs) : Bool := match parseL s with
  | some l => fitB l ms
  | none => false
def selL (S : StM) (ms : List Mt) (f t : Int) (N : List Bs) : List Rw := ((N.filter (okS ms)).map fun s => (s, ptsS S s f t)).filter fun r => decide (r.2 ≠ [])
/-- All that is selected by matches. -/
def selM (S : StM) (ms : List Mt) (f t : Int) : List Rw := selL S ms f t (namesS S)
theorem selL_no {S : StM} {ms : List Mt} {f t : Int} (N : List Bs) {s : Bs} (h : okS ms s = false) : selL S ms f t (N ++ [s]) = selL S ms f t N := by
  unfold selL
  rw [List.filter_append]
  simp [h]
theorem selL_nil {S : StM} {ms : List Mt} {f t : Int} (N : List Bs) {s : Bs} (h : ptsS S s f t = []) : selL S ms f t (N ++ [s]) = selL S ms f t N := by
  unfold selL
  rw [List.filter_append, List.map_append, List.filter_append]
  cases ho : okS ms s <;> simp [ho, h]
theorem selL_yes {S : StM} {ms : List Mt} {f t : Int} (N : List Bs) {s : Bs} (h : okS ms s = true) (h2 : ptsS S s f t ≠ []) : selL S ms f t (N ++ [s]) = selL S ms f t N ++ [(s, ptsS S s f t)] := by
  unfold selL
  rw [List.filter_append, List.map_append, List.filter_append]
  simp [h, h2]
theorem selM_nil {S : StM} {f t : Int} (hV : ∀ s ∈ namesS S, (rdF s).1 = 0) : selM S [] f t = selR S f t := by
  have hf : (namesS S).filter (okS []) = namesS S := List.filter_eq_self.2 fun s hs => by
    have h := hV s hs
    unfold okS
    cases hp : parseL s with
    | none => rw [rdF_none hp] at h; cases h
    | some l => rfl
  unfold selM selL selR
  rw [hf]
/-- All names of a store are labels' texts. -/
theorem KInv.names {Q : Prop} {S : StM} {E : List (Bs × (Int × Int))} (h : KInv Q S E) : ∀ s ∈ namesS S, (rdF s).1 = 0 ∧ s.length ≤ 200 := by
  intro s hs
  unfold namesS at hs
  obtain ⟨r, hr, rfl⟩ := srtN_mem.1 hs
  obtain ⟨s', hs', rfl⟩ := List.mem_map.1 hr
  clear hs
  rcases List.mem_append.1 hs' with hs | hs
  · obtain ⟨x, hx, rfl⟩ := List.mem_map.1 hs
    exact h.nm x (List.mem_filter.1 hx).1
  · obtain ⟨b, hb, hs⟩ := List.mem_flatMap.1 hs
    obtain ⟨r2, hr2, e2⟩ := List.mem_map.1 hs
    have hk := (h.bk b hb).1
    dsimp only at hr hs ⊢
    rw [← e2]
    exact ⟨(hk.ok.1 r2 hr2).1, hk.nm r2 hr2⟩
theorem namesS_len {S : StM} (hA : S.A.length ≤ 60) (hB : S.B.length ≤ 40) (h60 : ∀ b ∈ S.B, b.2.length ≤ 60) : (namesS S).length ≤ 2460 := by
  unfold namesS
  refine Nat.le_trans (srtN_len _) ?_
  rw [List.length_map, List.length_append]
  have h1 : (hSeries S.A).length ≤ 60 := by unfold hSeries; rw [List.length_map]; exact Nat.le_trans (List.length_filter_le _ _) hA
  have h2 : ∀ l : List Bk, (∀ b ∈ l, b.2.length ≤ 60) → (l.flatMap fun b => b.2.map Prod.fst).length ≤ 60 * l.length := by
    intro l
    induction l with
    | nil => intro _; exact Nat.zero_le _
    | cons b l ih =>
      intro h
      have h3 := ih fun c hc => h c (List.mem_cons_of_mem _ hc)
      have h4 := h b List.mem_cons_self
      rw [List.flatMap_cons, List.length_append, List.length_map, List.length_cons]
      omega
  have := h2 S.B h60
  omega
def SSelPost (es : Nat → Addr) (S : StM) (ms : List Mt) (f t : Int) (w : World) (e : Ending) (w' : World) : Prop :=
  ∃ A c ls v, e = .returned (.tuple #[.slice A ls.length c, v]) ∧ EV es w.heap.size w' v (mtF ms) ∧ ((mtF ms).1 ≠ 0 → A = none ∧ c = 0 ∧ ls = []) ∧ ((mtF ms).1 = 0 → w'.ownsRow w.heap.size 58 2 (.slice A ls.length c) ls.length (rowC ls) ∧ RowsOwn w.heap.size w' ls ∧ ls.map rowP2 = selM S ms f t) ∧ Below w.heap.size w w'
theorem lb_aa : lbF [([97], [97])] = (0, -1) := by decide +kernel
set_option maxRecDepth 100000 in
set_option maxHeartbeats 8000000 in
theorem sselect_any {es : Nat → Addr} {B q dq : Nat} {G : Nat → Prop} {S : StM} (Am : Option Addr) (nm cm : Nat) (ms : List Mt) (f t : Int) (w : World) (hW : StW es B w) (hI : StI B w q dq G S) (hOk : SOk S) (h60 : ∀ b ∈ S.B, b.2.length ≤ 60) (hV : ∀ s ∈ namesS S, (rdF s).1 = 0 ∧ s.length ≤ 200)
    (hM : Rd w w.heap.size 3 Am nm (mtC ms)) (hk : ∀ m ∈ ms, m.1 < 256) :
    Calls Tryz.prog 11 #[.pointer (some ⟨q, 0, none⟩), .slice Am nm cm, .int .i64 f, .int .i64 t] w (SSelPost es S ms f t w) := by
  obtain ⟨hb, mb, D, L, dv, bv, Bl, h, hG, hlo⟩ := hI
  have hO := hOk.hd h.ab
  have hB40 := h.bl40 hOk
  have HWb := Lib.hid (fun W (hb' : Below w.heap.size w W) => hW.below hb' hW.b0)
  have HS := Lib.hid (fun W (hb' : Below w.heap.size w W) => h.below hb')
  have HMt := Lib.hid (fun W (hb' : Below w.heap.size w W) => (hM.below hb').more hb'.size)
  have Hk := Lib.hid hk; have HV := Lib.hid hV; have HO := Lib.hid hO; have HB40 := Lib.hid hB40
  have hb0 : Below w.heap.size w (w.alloc (.cells #[.string (B8 [97]), .string (B8 [97])] 90)) := Below.alloc (Below.refl _ _) (Nat.le_refl _) _
  have HB0 := Lib.hid hb0
  have Hft := Lib.hid (lfits_any (es := es) (B := B) (some ⟨w.heap.size, 0, none⟩) Am 1 1 nm cm [([97], [97])] ms _ (HWb.out _ hb0).ft (HWb.out _ hb0).b0 (by
    have := rd_new2 w 90 (.string (B8 [97])) (.string (B8 [97]))
    exact this) (by decide) (HMt.out _ hb0) hk)
  have Hnl := Lib.hid (namesS_len hOk.n60 hOk.b40 h60)
  obtain ⟨i0, hi, hz0, hz1, hz2⟩ := info_parts infoRow
  have Hi := Lib.hid hi; have Hz0 := Lib.hid hz0; have Hz1 := Lib.hid hz1; have Hz2 := Lib.hid hz2
  clear hi hz0 hz1 hz2 hW hOk hG hlo hO hB40 hb0 hM h hV hk h60
  unfold FitPost at Hft
  rw [lb_aa] at Hft
  go_enter Tryz.func11, Tryz.ntmps11
  go_wp2_with fail
  refine Hft.out.mono ?_
  rintro e w1 ⟨b1, v1, rfl, hev1, _, _, hb1⟩
  have HB1 := Lib.hid (Below.call HB0.out hb1 HB0.out.size)
  have HE1 := Lib.hid (show EV es w.heap.size w1 v1 (mtF ms) from hev1.base HB0.out.size)
  clear hev1 hb1
  by_cases hm0 : (mtF ms).1 = 0
  case neg =>
    obtain ⟨t5, p5, rfl⟩ := HE1.out.pos hm0
    have Hm0 := Lib.hid hm0
    clear hm0
    go_wp2
    go_ret2
    exact ⟨none, 0, [], _, rfl, HE1.out, fun _ => ⟨rfl, rfl, rfl⟩, fun h => absurd h Hm0.out, HB1.out⟩
  obtain rfl := HE1.out.zero hm0
  have Hm0 := Lib.hid hm0
  have Hmz := Lib.hid EV.nilc HE1.out
  clear hm0
  have Hnms := Lib.hid (snames_any w1 (HS.out _ HB1.out) HO.out HB40.out)
  obtain ⟨N, hN⟩ : ∃ N, N = namesS S := ⟨_, rfl⟩
  rw [← hN] at Hnms Hnl HV
  have HN := Lib.hid hN
  clear hN
  obtain ⟨n, hn⟩ : ∃ n, n = N.length := ⟨_, rfl⟩
  have hnl := Hnl.out
  rw [← hn] at Hnms hnl
  have Hn := Lib.hid hn
  clear hn
  go_wp2_with fail
  refine Hnms.out.mono ?_
  rintro e w2 ⟨v2, rfl, hown2, hb2⟩
  obtain ⟨A2, c2, rfl, _, _, hr2⟩ := own_form hown2
  have HR2 := Lib.hid (fun W (hb : Below w2.heap.size w2 W) (k : Nat) (hk : k < n) => (show Rd W w2.heap.size 1 A2 n (N.map fun s => Value.string (B8 s)) from hr2.below hb).at1 hk)
  have HB2 := Lib.hid (Below.call HB1.out hb2 HB1.out.size)
  clear hown2 hb2 hr2
  go_wp2
  go_loopw [12, 33] (fun ov iv wr => ∃ (k m : Nat) (ls : List RowV), k ≤ n ∧ m ≤ k ∧ iv = .int .i64 k ∧ wr.ownsRow w2.heap.size 58 2 ov m (rowC ls) ∧ ls.length = m ∧ ls.map rowP2 = selL S ms f t (N.take k) ∧ RowsOwn w2.heap.size wr ls ∧ Below w2.heap.size w2 wr) (fun _ iv _ => n - (intOf iv).toNat)
  case atStart => exact ⟨0, 0, [], Nat.zero_le _, Nat.le_refl _, rfl, World.ownsRow_nil _ _ _ _, rfl, rfl, RowsOwn.nil _ _, Below.refl _ _⟩
  case round =>
    obtain ⟨k, m, ls, hk, hm, rfl, hown, hll, hmap, hro, hbr⟩ := hrel
    obtain ⟨Ao, co, rfl, _, _, _⟩ := own_form hown
    have HBr := Lib.hid hbr; have Hown := Lib.hid hown; have Hll := Lib.hid hll; have Hmap := Lib.hid hmap; have Hro := Lib.hid hro
    have HBw := Lib.hid (Below.call HB2.out hbr HB2.out.size)
    clear hown hll hmap hro
    by_cases hkn : k < n
    · have hkn' : (k : Int) < n := by omega
      obtain ⟨bb, off, s, hAe, had, hx, e0⟩ := HR2.out _ hbr k hkn
      subst hAe
      obtain ⟨hv0, hv1⟩ := HV.out s (List.mem_of_getElem? hx)
      have Htk := Lib.hid (take_snoc hx)
      have Hsl := Lib.hid hv1
      have Hrd := Lib.hid (lread_u (es := es) (B := B) s (Nat.le_trans hv1 (by decide)) wr (HWb.out _ HBw.out).wal.svl (HWb.out _ HBw.out).b0)
      have Hpt := Lib.hid (fun W (hb' : Below w.heap.size w W) => spoints_any (es := es) (B := B) s f t W (HWb.out _ hb') (HS.out _ hb') HO.out HB40.out (Nat.le_trans hv1 (by decide)))
      clear hbr hx hv1
      obtain ⟨sn, hsn⟩ : ∃ sn, sn = B8 s := ⟨_, rfl⟩
      rw [← hsn] at e0 Hrd Hpt
      have Hsn := Lib.hid hsn
      clear hsn
      go_wp2_with fail
      refine Hrd.out.mono ?_
      rintro e w3 ⟨v3, u3, l3, rfl, hev3, hown3, hpar3, _, hb3⟩
      obtain rfl := hev3.zero hv0
      obtain ⟨A3, c3, rfl, _, _, hr3⟩ := own_form hown3
      have hpar := hpar3 hv0
      have hlb : (lbF l3).1 = 0 := by rw [← rdF_some hpar]; exact hv0
      have hll3 : l3.length ≤ 100000 := by have := (parse_len hpar).1; have := Hsl.out; omega
      have HB3 := Lib.hid (Below.call HBw.out hb3 HBw.out.size)
      have HB3r := Lib.hid (show Below wr.heap.size wr w3 from hb3)
      have Hf3 := Lib.hid (lfits_any (es := es) (B := B) A3 Am l3.length c3 nm cm l3 ms w3 (HWb.out _ HB3.out).ft (HWb.out _ HB3.out).b0 hr3 hll3 (HMt.out _ HB3.out) Hk.out)
      have Hok := Lib.hid (show okS ms s = fitB l3 ms by unfold okS; rw [hpar])
      have Hlb := Lib.hid hlb
      obtain ⟨q3, hq3⟩ : ∃ q3, q3 = l3.length := ⟨_, rfl⟩
      rw [← hq3] at Hf3 ⊢
      clear hev3 hown3 hpar3 hpar hb3 hv0 hr3 hll3 hlb hq3
      go_wp2_with fail
      refine Hf3.out.mono ?_
      rintro e w4 ⟨b4, v4, rfl, hev4, _, hb4t, hb4⟩
      have hbv := hb4t Hlb.out Hm0.out
      rw [if_neg (fun h => h Hlb.out)] at hev4
      obtain rfl := hev4.zero Hm0.out
      have HB4 := Lib.hid (Below.call HB3.out hb4 HB3.out.size)
      have HB4r := Lib.hid (Below.call HB3r.out hb4 HB3r.out.size)
      have Hbv := Lib.hid hbv
      clear hev4 hb4t hb4 hbv
      cases b4 with
      | false =>
        have Hs := Lib.hid (show selL S ms f t (N.take (k + 1)) = selL S ms f t (N.take k) by rw [Htk.out]; exact selL_no _ (Hok.out.trans Hbv.out.symm))
        go_wp2
        go_roundw
        case rel => exact ⟨k + 1, m, ls, by omega, by omega, by go_num, own_below Hown.out HB4r.out (Nat.le_refl _), Hll.out, Hmap.out.trans Hs.out.symm, Hro.out.below HB4r.out (Nat.le_refl _), Below.call HBr.out HB4r.out HBr.out.size⟩
        case measure => simp [intOf]; omega
      | true =>
        have Hp4 := Lib.hid (Hpt.out _ HB4.out)
        obtain ⟨P, hP⟩ : ∃ P, P = ptsS S s f t := ⟨_, rfl⟩
        rw [← hP] at Hp4
        have HP := Lib.hid hP
        clear hP
        obtain ⟨p, hp⟩ : ∃ p, p = P.length := ⟨_, rfl⟩
        rw [← hp] at Hp4
        have Hp := Lib.hid hp
        clear hp
        go_wp2_with fail
        refine Hp4.out.mono ?_
        rintro e w6 ⟨v6, rfl, hown6, hb6⟩
        obtain ⟨A6, c6, rfl, _, _, _⟩ := own_form hown6
        have HB6r := Lib.hid (Below.call HB4r.out hb6 HB4r.out.size)
        have HB6 := Lib.hid (Below.call HBr.out HB6r.out HBr.out.size)
        have HW6 := Lib.hid (own_below Hown.out HB6r.out (Nat.le_refl _))
        have HR6 := Lib.hid (Hro.out.below HB6r.out (Nat.le_refl _))
        have HO6 := Lib.hid (own_base hown6 (show w2.heap.size ≤ w4.heap.size from Nat.le_trans HBr.out.size HB4r.out.size))
        clear hown6 hb6
        by_cases hp0 : p = 0
        · have Hs := Lib.hid (show selL S ms f t (N.take (k + 1)) = selL S ms f t (N.take k) by rw [Htk.out]; exact selL_nil _ (by rw [← HP.out]; exact List.eq_nil_of_length_eq_zero (Hp.out.symm.trans hp0)))
          subst hp0
          go_wp2
          go_roundw
          case rel => exact ⟨k + 1, m, ls, by omega, by omega, by go_num, HW6.out, Hll.out, Hmap.out.trans Hs.out.symm, HR6.out, HB6.out⟩
          case measure => simp [intOf]; omega
        · have hp0' : (0 : Int) < (p : Int) := by omega
          have Hs := Lib.hid (show selL S ms f t (N.take (k + 1)) = selL S ms f t (N.take k) ++ [(s, P)] by rw [Htk.out, HP.out]; exact selL_yes _ (Hok.out.trans Hbv.out.symm) (by rw [← HP.out]; exact fun e => hp0 (by rw [Hp.out, e]; rfl)))
          have HoA := Lib.hid (show (w6.alloc (.cells #[.string sn, .slice A6 p c6] 58)).ownsRow w2.heap.size 58 2 (.slice Ao m co) m (rowC ls) from HW6.out.alloc _)
          have HrA := Lib.hid (rd_new2 w6 58 (.string sn) (.slice A6 p c6))
          have HzA := Lib.hid (show w2.heap.size ≤ (w6.alloc (.cells #[.string sn, .slice A6 p c6] 58)).heap.size by have := HB6.out.size; simp; omega)
          have HbA := Lib.hid (show Below w2.heap.size w2 (w6.alloc (.cells #[.string sn, .slice A6 p c6] 58)) from Below.alloc HB6.out HB6.out.size _)
          have HRA := Lib.hid (show RowsOwn w2.heap.size (w6.alloc (.cells #[.string sn, .slice A6 p c6] 58)) ls from fun r hr => (HR6.out r hr).alloc _)
          have HOA := Lib.hid (show (w6.alloc (.cells #[.string sn, .slice A6 p c6] 58)).ownsRow w2.heap.size 39 2 (.slice A6 p c6) p (ptsC P) from HO6.out.alloc _)
          have hk63 : m + 1 ≤ maxLen := by unfold maxLen; omega
          have hk8 : (m + 1) * 40 ≤ 140737488355328 := by omega
          have Hone := Lib.hid (show ∀ u ∈ [Value.string sn, Value.slice A6 p c6], u.oneCell' = true by intro u hu; simp at hu; rcases hu with rfl | rfl <;> rfl)
          go_wp2_with (at_builtin; refine wpList_append_rd _ rfl (.tmp 71) (.tmp 75) _ rfl w2.heap.size 58 i0 (.agg #[.string ⟨#[]⟩, .slice none 0 0]) 2 40 Tryz.underlying40 Hi.out Hz0.out Hz1.out Hz2.out rfl (by decide) (.slice Ao m co) m _ rfl HoA.out _ _ 1 1 [.string sn, .slice A6 p c6] rfl HrA.out Hone.out hk63 hk8 HzA.out ?_; intro v' wb hown' hgr hat; have Hv := Lib.hid hown'; have HBb := Lib.hid (Below.grown HbA.out hgr HzA.out (fun g hg => (own_lt HoA.out g hg).1)); have HRb := Lib.hid (HRA.out.after HoA.out hgr); have HOb := Lib.hid (own_after HOA.out HoA.out (by decide) hgr); clear hown' hgr hat)
          go_roundw
          case rel =>
            refine ⟨k + 1, m + 1, ls ++ [⟨s, P, .slice A6 p c6⟩], by omega, by omega, by go_num, ?_, by rw [List.length_append, Hll.out]; rfl, ?_, ?_, HBb.out⟩
            · rw [rowC_snoc]
              have := Hv.out
              rw [Hsn.out] at this
              exact this
            · rw [List.map_append, Hmap.out, Hs.out]; rfl
            · refine HRb.out.snoc ?_
              show wb.ownsRow _ _ _ (.slice A6 p c6) P.length (ptsC P)
              rw [← Hp.out]
              exact HOb.out
          case measure => simp [intOf]; omega
    · obtain rfl : k = n := by omega
      have hkn' : ¬ (k : Int) < k := by omega
      have He := Lib.hid (show N.take k = N from List.take_of_length_le (by rw [Hn.out]; exact Nat.le_refl _))
      clear hbr
      go_wp2
      go_ret2
      refine ⟨Ao, co, ls, _, by show Ending.returned (.tuple #[.slice Ao m co, .nilIface]) = _; rw [Hll.out], by rw [show mtF ms = (0, -1) from by first | exact Hmz | exact Hmz.out]; exact .inl ⟨rfl, rfl⟩, fun h => absurd Hm0.out h, fun _ => ⟨by rw [Hll.out]; exact own_base Hown.out HB2.out.size, fun r hr => own_base (Hro.out r hr) HB2.out.size, by rw [Hmap.out, He.out, HN.out]; rfl⟩, HBw.out⟩
end Go.Proofs.YthgefobcohlegaaGreatDoor
