/- head.Cut by its contract. -/
import Derived.Test.YthgefobcohlegaaGreatDoorMkaeX
namespace Go.Proofs.YthgefobcohlegaaGreatDoor
open Go.RowKit Go.Maps
set_option linter.unusedVariables false

set_option maxRecDepth 100000 in
set_option maxHeartbeats 4000000 in
theorem hcut_any {es : Nat → Addr} {B : Nat} {F : Nat → Prop} {q mb : Nat} {D : DataW Unit} {L : List HLn} (b : Int) (w : World) (hS : SVL es B w) (hB0 : B ≤ w.heap.size) (hFB : ∀ k, F k → B ≤ k) (hH : HeadAt w F q mb D L) (hL : L.length ≤ 1000) (hn : ∀ x ∈ L, x.nm.length ≤ 100000) (hN : ∀ x ∈ L, x.pts.length ≤ 100000) :
    Calls Tryz.prog 65 #[.pointer (some ⟨q, 0, none⟩), .int .i64 b] w (HCPost es F q mb D L b w) := by
  have Hser := Lib.hid (hseries_any w hH (by omega) hn)
  have HH := Lib.hid hH
  have HS := Lib.hid (fun W (hf : Fr F w W) => show W.cell? ⟨gErr 4, 0, none⟩ = some (sentV (es 4)) from (World.cell?_of_block (hf.block (gErr 4) (Nat.lt_of_lt_of_le (hS.glt 4 (by decide)) hB0) (fun h => by have := hFB _ h; have := hS.glt 4 (by decide); omega))).trans (hS.var 4 (by decide)))
  have Hn := Lib.hid hn; have HN := Lib.hid hN; have HL := Lib.hid hL
  obtain ⟨i0, hi, hz0, hz1, hz2⟩ := info_parts infoRw
  have Hi := Lib.hid hi; have Hz0 := Lib.hid hz0; have Hz1 := Lib.hid hz1; have Hz2 := Lib.hid hz2
  have hmm : (hSer L).length = (L.filter fun x => decide (x.pts ≠ [])).length := by unfold hSer; rw [List.length_map]
  obtain ⟨m, hm⟩ : ∃ m, m = (hSer L).length := ⟨_, rfl⟩
  have Hm := Lib.hid hm; have Hmm := Lib.hid hmm
  have hm1 : m ≤ 1000 := by
    have := List.length_filter_le (fun x : HLn => decide (x.pts ≠ [])) L
    omega
  rw [← hm] at Hser
  clear hS hFB hH hL hn hN hi hz0 hz1 hz2 hmm hm
  go_enter Tryz.func65, Tryz.ntmps65
  go_wp2_with fail
  refine Hser.out.mono ?_
  rintro e w1 ⟨v1, rfl, hown, hb⟩
  obtain ⟨A1, c1, rfl, _, _, _⟩ := own_form hown
  have HO1 := Lib.hid hown; have HB1 := Lib.hid hb
  have hw1 : w.heap.size ≤ w1.heap.size := hb.size
  clear hown hb
  go_wp2
  go_loopw [6, 14] (fun o iv wr => ∃ (k : Nat) (L2 : List HLn) (R : List RwV), k ≤ m ∧ iv = .int .i64 k ∧ CutInv F q mb D L b w w1 A1 c1 m k o wr L2 R) (fun _ iv _ => m - (intOf iv).toNat)
  case atStart =>
    refine ⟨0, L, [], Nat.zero_le _, rfl, ⟨(HH.out.below HB1.out).mono (fun _ h => .inl h), by rw [List.take_zero]; exact (cutA_nil _ _).symm, ⟨World.ownsRow_nil _ _ _ _, fun r h => by cases h⟩, rfl, HO1.out, (Fr.ofBelow HB1.out).mono (fun _ _ h => h.elim), Nat.le_refl _, fun _ => rfl⟩⟩
  case round =>
    obtain ⟨k, L2, R, hk, rfl, hci⟩ := hrel
    obtain ⟨Ao, co, rfl, _, _, _⟩ := own_form hci.rw_.1
    have HC := Lib.hid hci
    have hwr : w1.heap.size ≤ wr.heap.size := hci.sz
    by_cases hkm : k < m
    · obtain ⟨A, c, hv, _, _, hnr⟩ := own_form hci.nms
      injection hv with hA _ hC
      subst hA
      subst hC
      obtain ⟨bb, off, s, hAe, had, hx, e0⟩ := hnr.at1 hkm
      subst hAe
      have hx2 : ((L.filter fun x => decide (x.pts ≠ []))[k]?).map (·.nm) = some s := by rw [← hx]; unfold hSer; rw [List.getElem?_map]
      obtain ⟨x, hxk, rfl⟩ := Option.map_eq_some_iff.1 hx2
      have hxm : x ∈ L := (List.mem_filter.1 (List.mem_of_getElem? hxk)).1
      have Hxk := Lib.hid hxk
      have hnn : x.nm ∉ ((L.filter fun x => decide (x.pts ≠ [])).take k).map (·.nm) := by
        intro h
        obtain ⟨y, hy, e⟩ := List.mem_map.1 h
        have hyl : y ∈ L := (List.mem_filter.1 (List.mem_of_mem_take hy)).1
        obtain rfl := srt_inj HH.out.srt hyl hxm e
        have hs : (L.filter fun x => decide (x.pts ≠ [])).Pairwise (fun x y => x.nm < y.nm) := by
          have := HH.out.srt
          unfold hSrt absL at this
          rw [List.pairwise_map] at this
          exact this.filter _
        obtain ⟨i, hi, hye⟩ := List.getElem_of_mem hy
        rw [List.length_take] at hi
        rw [List.getElem_take] at hye
        have hkl : k < (L.filter fun x => decide (x.pts ≠ [])).length := by rw [← Hmm.out, ← Hm.out]; exact hkm
        have := List.pairwise_iff_getElem.1 hs i k (by omega) hkl (by omega)
        rw [hye] at this
        rw [List.getElem?_eq_getElem hkl] at hxk
        injection hxk with hxk
        rw [hxk] at this
        exact lt_irrefl_bs _ this
      obtain ⟨y, hy, hyn, hyp, hyl⟩ := line_now hxm hci.ab hnn
      have y1 : wr.cell? ⟨q, 0, none⟩ = some (.map (some mb)) := hci.hd.hd.cell 0
      have y2 := hci.hd.look1 y hy (by have := Hn.out x hxm; rw [hyn]; omega)
      rw [hyn] at y2
      obtain ⟨g1, g2, _⟩ := hci.hd.ln y hy
      obtain ⟨A, c, hv, hnc, hcm, hr⟩ := g2.form
      rw [hyp] at hv hnc hr
      have y3 : wr.cell? ⟨y.bk, 0, none⟩ = some (.slice A x.pts.length c) := by rw [← hv]; exact g1.cell 0
      obtain ⟨n, hn⟩ : ∃ n, n = x.pts.length := ⟨_, rfl⟩
      have hn1 : n ≤ 100000 := by rw [hn]; exact HN.out x hxm
      rw [← hn] at hv hnc hr y3
      have Hnl := Lib.hid hn; have Hr := Lib.hid hr; have Hy := Lib.hid hy; have Hyn := Lib.hid hyn; have Hyp := Lib.hid hyp; have Hyl := Lib.hid hyl; have Hxm := Lib.hid hxm; have Hv := Lib.hid hv
      generalize hst : B8 x.nm = st at e0 y2
      have Hst := Lib.hid hst
      clear hci hx hx2 hxk hxm hnn hy hyn hyp hyl g1 g2 hv hr hn hst hnr
      go_wp2
      go_loop [10] (fun iv => ∃ j : Nat, j ≤ n ∧ iv = .int .i64 j ∧ ∀ (i : Nat) (z : Int × Int), i < j → x.pts[i]? = some z → z.1 < b) (fun iv => n - (intOf iv).toNat)
      case atStart => exact ⟨0, Nat.zero_le _, rfl, fun i z h => absurd h (Nat.not_lt_zero _)⟩
      case round =>
        obtain ⟨j, hj, rfl, hpre⟩ := hrel
        have Hpre := Lib.hid hpre
        clear hpre
        by_cases hgo : j < n ∧ ∀ z : Int × Int, x.pts[j]? = some z → z.1 < b
        · obtain ⟨hjn, hzb⟩ := hgo
          obtain ⟨ba, oa, z, hA, hba, hz, ez, _⟩ := Hr.out.at2 hjn
          have hzb2 := hzb z hz
          clear hzb
          subst hA
          have Hz := Lib.hid hz
          clear hz
          go_wp2
          go_round
          case rel => exact ⟨j + 1, by omega, by go_num, fun i u hi hu => by
            rcases Nat.lt_or_ge i j with h | h
            · exact Hpre.out i u h hu
            · obtain rfl : i = j := by omega
              obtain rfl := Option.some.inj (Hz.out.symm.trans hu)
              exact hzb2⟩
          case measure => simp [intOf]; omega
        · have HrT := Lib.hid (show Rd wr wr.heap.size 2 A j (ptsC (x.pts.take j)) by
            have h := Hr.out.take hj
            rw [show (ptsC x.pts).take (j * 2) = ptsC (x.pts.take j) from flat_take (fun p : Int × Int => [Value.int .i64 p.1, Value.int .u64 p.2]) 2 (fun _ => rfl) x.pts j] at h
            exact h)
          by_cases hj0 : j = 0
          · clear HrT
            by_cases hjn : j < n
            case' pos =>
              obtain ⟨ba, oa, z, hA, hba, hz, ez, _⟩ := Hr.out.at2 hjn
              have hzb : ¬ z.1 < b := fun h => hgo ⟨hjn, fun u hu => by rw [← Option.some.inj (hz.symm.trans hu)]; exact h⟩
              have HJ := Lib.hid (gone_at b x.pts j z Hpre.out hz hzb)
              subst hA
              clear hz
            case' neg =>
              have hjn' : ¬ (j : Int) < (n : Int) := by omega
              have HJ := Lib.hid (show (hGone b x.pts).length = j by
                have h1 := gone_all b x.pts (fun i u hu => Hpre.out i u (by have := (List.getElem?_eq_some_iff.1 hu).1; have := Hnl.out; omega) hu)
                have := Hnl.out; omega)
            all_goals
              clear hgo Hpre
              subst hj0
              (try simp only [Nat.zero_mul, Nat.add_zero] at ez)
              go_wp2
              go_roundw
              case rel => exact ⟨k + 1, L2, R, by omega, by go_num, HC.out.skip HH.out.srt Hxk.out (List.eq_nil_of_length_eq_zero HJ.out)⟩
              case measure => simp [intOf]; omega
          · have hj0' : (0 : Int) < (j : Int) := by omega
            by_cases hjn : j < n
            case' pos =>
              obtain ⟨ba, oa, z, hA, hba, hz, ez, _⟩ := Hr.out.at2 hjn
              have hzb : ¬ z.1 < b := fun h => hgo ⟨hjn, fun u hu => by rw [← Option.some.inj (hz.symm.trans hu)]; exact h⟩
              have HJ := Lib.hid (gone_at b x.pts j z Hpre.out hz hzb)
              subst hA
              clear hz
            case' neg =>
              have hjn' : ¬ (j : Int) < (n : Int) := by omega
              have HJ := Lib.hid (show (hGone b x.pts).length = j by
                have h1 := gone_all b x.pts (fun i u hu => Hpre.out i u (by have := (List.getElem?_eq_some_iff.1 hu).1; have := Hnl.out; omega) hu)
                have := Hnl.out; omega)
            all_goals
              clear hgo Hpre
              go_wp2_with fail
              refine (clonePts_any _ j _ (x.pts.take j) _ HrT.out (by omega)).mono ?_
              rintro e w2 ⟨v2, rfl, hown2, hb2⟩
              obtain ⟨A2, c2, rfl, _, _, _⟩ := own_form hown2
              have HO2 := Lib.hid hown2; have HB2 := Lib.hid hb2
              clear hown2 hb2
              have hw2 : wr.heap.size ≤ w2.heap.size := HB2.out.size
              have hR1 := HC.out.rlen
              have hk63 : R.length + 1 ≤ maxLen := by unfold maxLen; omega
              have hk8 : (R.length + 1) * 40 ≤ 140737488355328 := by omega
              have HoA := Lib.hid (show (w2.alloc (.cells #[.string st, .slice A2 j c2] 58)).ownsRow w1.heap.size 58 2 (.slice Ao R.length co) R.length (rwC R) from (own_below HC.out.rw_.1 HB2.out (Nat.le_refl _)).alloc _)
              have HrA := Lib.hid (rd_two w2 58 (.string st) (.slice A2 j c2))
              have HzA := Lib.hid (show w1.heap.size ≤ (w2.alloc (.cells #[.string st, .slice A2 j c2] 58)).heap.size by simp; omega)
              have H1 := Lib.hid (show ∀ u ∈ [Value.string st, Value.slice A2 j c2], u.oneCell' = true by intro u hu; simp at hu; rcases hu with rfl | rfl <;> rfl)
              go_wp2_with (at_builtin; refine wpList_append_rd _ rfl (.tmp 47) (.tmp 57) _ rfl w1.heap.size 58 i0 (.agg #[.string ⟨#[]⟩, .slice none 0 0]) 2 40 Tryz.underlying40 Hi.out Hz0.out Hz1.out Hz2.out rfl (by decide) (.slice Ao R.length co) R.length _ rfl HoA.out _ _ 1 1 [.string st, .slice A2 j c2] rfl HrA.out H1.out hk63 hk8 HzA.out ?_; intro v' w3 hown' hgr hat; rw [← Hst.out] at hown' hgr; have HT := Lib.hid (HC.out.step HH.out.srt hw1 Hxk.out Hy.out Hyn.out Hyp.out Hyl.out HJ.out hj0 HO2.out HB2.out hown' hgr); obtain ⟨A3, c3, rfl, _, _, _⟩ := own_form hown'; have yy3 : w3.cell? ⟨y.bk, 0, none⟩ = some (.slice _ n c) := (by rw [← Hv.out]; exact (HT.out.1.ln y Hy.out).1.cell 0); have hr3 := (line_rd HT.out.1 Hy.out Hyp.out Hv.out).1; have HrD3 := Lib.hid (cut_rd hr3 hj hnc); clear hown' hgr hat hr3)
              all_goals
                have hw3 : w2.heap.size ≤ w3.heap.size := HT.out.2.1
                refine (clonePts_any _ (n - j) _ (x.pts.drop j) _ (by
                  have h := HrD3.out
                  first
                    | (rw [if_pos (by omega)] at h; exact h)
                    | (rw [if_neg (by omega)] at h; exact h)
                    | (rw [if_neg (by omega), Option.map_some, add_at] at h; exact h)) (by omega)).mono ?_
                rintro e w4 ⟨v4, rfl, hown4, hb4⟩
                have hl : (x.pts.drop j).length = n - j := by rw [List.length_drop, ← Hnl.out]
                have HF := Lib.hid (HT.out.2.2 w4 v4 (by rw [hl]; exact hown4) hb4)
                obtain ⟨A4, c4, rfl, _, _, _⟩ := own_form hown4
                have gy := (HT.out.1.below hb4).ln y Hy.out
                have yy4 := gy.1.cell 0
                have yf4 := gy.1.frozen 0
                clear hown4 hb4 hl gy
                go_wp2
                go_roundw
                case rel => exact ⟨k + 1, _, _, by omega, by go_num, HF.out⟩
                case measure => simp [intOf]; omega
    · obtain rfl : k = m := by omega
      have hkl : (L.filter fun x => decide (x.pts ≠ [])).length ≤ k := by rw [← Hmm.out, ← Hm.out]; exact Nat.le_refl _
      have hab := hci.ab
      have hrs := hci.rows
      rw [List.take_of_length_le hkl] at hab hrs
      rw [cut_end] at hab
      rw [rows_end] at hrs
      have Hab := Lib.hid hab; have Hrs := Lib.hid hrs
      have hgl := HS.out wr hci.fr
      by_cases hR : R = []
      · have hv := hci.nl hR
        injection hv with hv1 hv2 hv3
        subst hv1
        have HR := Lib.hid hR; have Hv := Lib.hid (And.intro hv2 hv3)
        have heq := run_nilRw wr none R.length co
        have g4 : wr.cell? ⟨7, 0, none⟩ = some (sentV (es 4)) := hgl
        clear hci hab hrs hgl hR hv2 hv3
        go_wp2
        go_quiet (fail)
        go_wp2
        go_ret2
        refine ⟨L2, R, _, _, rfl, HC.out.hd.fr (Fr.drewN (Fr.refl (fun _ => False) wr) _) (fun _ _ h => h), Hab.out, ?_, Hrs.out, Fr.drewN HC.out.fr _, fun _ => ⟨rfl, rfl⟩, fun h => absurd (by rw [← Hrs.out, HR.out]; rfl) h⟩
        rw [HR.out]
        exact ⟨World.ownsRow_nil _ _ _ _, fun r h => by cases h⟩
      · obtain ⟨ag, hag⟩ : ∃ ag, Ao = some ag := by
          obtain ⟨A, c, hv, _, _, hr⟩ := own_form hci.rw_.1
          injection hv with e1 _ _
          obtain ⟨b1, o1, e, _⟩ := hr.2 (List.length_pos_iff.2 hR)
          exact ⟨_, e1.trans e⟩
        subst hag
        have heq := run_nilRw wr (some ag) R.length co
        have HR := Lib.hid hR
        clear hci hab hrs hgl hR
        go_wp2
        go_ret2
        refine ⟨L2, R, _, _, rfl, HC.out.hd, Hab.out, ⟨own_base HC.out.rw_.1 hw1, fun r hr => own_base (HC.out.rw_.2 r hr) hw1⟩, Hrs.out, HC.out.fr, fun h => ?_, fun _ => rfl⟩
        have := Hrs.out
        rw [h] at this
        exact absurd (List.map_eq_nil_iff.1 this) HR.out
end Go.Proofs.YthgefobcohlegaaGreatDoor
