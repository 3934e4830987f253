/- The reference's ReadLog by its contract. -/
import Derived.Test.YtfkklcmepcocoaaGreatDoorRBody
import Derived.Test.YtfkklcmepcocoaaGreatDoorMkd
import Derived.Test.YtfkklcmepcocoaaGreatDoorMkc
namespace Go.Proofs.YtfkklcmepcocoaaGreatDoor
open Go.RowKit
set_option linter.unusedVariables false

theorem infoREn : (Tryz.prog.info? 125).map (fun i => (i.zero, i.size, i.bytes)) = some (some (.agg #[.string ⟨#[]⟩, .int .i64 0, .int .u64 0]), 3, 32) := by kernel_rfl
set_option maxHeartbeats 4000000 in
set_option maxRecDepth 100000 in
theorem rreadlog_any (b : Bs) (hl : b.length ≤ 70000) (w : World) :
    Calls Tryz.prog 32 #[.string (B8 b)] w fun e w' => ∃ l k v, e = .returned (.tuple #[v, .int .i64 (k : Nat)]) ∧ IsRead b l k ∧ w'.ownsRow w.heap.size 125 3 v l.length (enC l) ∧ Below w.heap.size w w' := by
  obtain ⟨i0, hi, hz0, hz1, hz2⟩ := info_parts infoREn
  have Hi := Lib.hid hi; have Hz0 := Lib.hid hz0; have Hz1 := Lib.hid hz1; have Hz2 := Lib.hid hz2
  have hsz : (B8 b).size = b.length := B8_size b
  obtain ⟨n, hn⟩ : ∃ n, n = b.length := ⟨_, rfl⟩
  rw [← hn] at hsz hl
  have Hn := Lib.hid hn
  have Hex := Lib.hid (fun i j => B8_extract b i j)
  have Hat := Lib.hid (fun i (h : i < (B8 b).size) => show ((B8 b)[i]).toNat = (b.getD i 0).toNat from B8_at b i h)
  generalize hst : B8 b = st at hsz Hex Hat ⊢
  clear hi hz0 hz1 hz2 hn hst
  go_enter Tryz.func32, Tryz.ntmps32
  go_wp2
  go_loopw [4, 5] (fun ov kv wr => ∃ (l : List En) (k : Nat), kv = .int .i64 k ∧ RdTo b l k ∧ wr.ownsRow w.heap.size 125 3 ov l.length (enC l) ∧ Below w.heap.size w wr) (fun _ kv _ => n - (intOf kv).toNat)
  case atStart => exact ⟨[], 0, rfl, RdTo.start b, World.ownsRow_nil _ _ _ _, Below.refl _ _⟩
  case round =>
    obtain ⟨l, k, rfl, hr, hown, hb⟩ := hrel
    have hkn : k ≤ n := by rw [Hn.out]; exact hr.le
    have hll := hr.len
    have HR := Lib.hid hr; have HO := Lib.hid hown; have HB := Lib.hid hb
    obtain ⟨Ao, co, rfl, _, _, _⟩ := own_form hown
    clear hr hown hb
    by_cases h2 : k + 2 ≤ n
    · have h2' : (k : Int) + 2 ≤ (n : Int) := by omega
      have hk1 : k < st.size := by omega
      have hk2 : k + 1 < st.size := by omega
      have x0 := Hat.out k hk1
      have x1 := Hat.out (k + 1) hk2
      obtain ⟨c0, hc0⟩ : ∃ c, c = (b.getD k 0).toNat := ⟨_, rfl⟩
      obtain ⟨c1, hc1⟩ : ∃ c, c = (b.getD (k + 1) 0).toNat := ⟨_, rfl⟩
      have h0 : c0 < 256 := by rw [hc0]; exact UInt8.toNat_lt _
      have h1 : c1 < 256 := by rw [hc1]; exact UInt8.toNat_lt _
      rw [← hc0] at x0; rw [← hc1] at x1
      have HR' := Lib.hid (show num2 (b.drop k) = c0 * 256 + c1 by
        unfold num2
        rw [hc0, hc1]
        simp only [List.getD_eq_getElem?_getD, List.getElem?_drop]
        rfl)
      clear hc0 hc1
      go_wp2
      go_quiet (fail)
      obtain ⟨m, hm⟩ : ∃ m, m = c0 * 256 + c1 := ⟨_, rfl⟩
      rw [show ((c0 : Int) * 256 + (c1 : Int)) = ((m : Nat) : Int) by omega]
      have Hm := Lib.hid hm
      have hmx : m ≤ 70000 := by omega
      clear x0 x1
      have HBq := Lib.hid (show Below w.heap.size w (wr.drewN nq) from Below.drewN HB.out nq)
      have HOq := Lib.hid (show (wr.drewN nq).ownsRow w.heap.size 125 3 (.slice Ao l.length co) l.length (enC l) from own_drewN HO.out nq)
      generalize wr.drewN nq = wq at HBq HOq
      by_cases hmn : k + 2 + m + 4 ≤ n
      · have hmn' : ¬ (n : Int) < (k : Int) + 2 + (m : Int) + 4 := by omega
        clear hm
        have he1 : k + 2 ≤ st.size := by omega
        have he2 : k + 2 + m ≤ st.size := by omega
        have he3 : k + 2 ≤ k + 2 + m := by omega
        go_wp2_with fail
        rw [Hex.out]
        obtain ⟨bd, hbd⟩ : ∃ bd, bd = (b.take (k + 2 + m)).drop (k + 2) := ⟨_, rfl⟩
        rw [← hbd]
        have hbl : bd.length ≤ 100000 := by rw [hbd, List.length_drop, List.length_take]; omega
        have Hbd := Lib.hid (show bd = ((b.drop k).drop 2).take (num2 (b.drop k)) by
          rw [hbd, HR'.out, List.drop_drop, List.drop_take, ← Hm.out]
          congr 1
          omega)
        clear hbd
        refine (rbody_any bd hbl wq).mono ?_
        rintro e w1 ⟨⟨nm, t, bit, ok, rfl, hnl, hbt, hok, hall⟩, hb1⟩
        have HB1 := Lib.hid (Below.call HBq.out hb1 HBq.out.size)
        have HO1 := Lib.hid (own_below HOq.out hb1 (Nat.le_refl _))
        have HOK := Lib.hid hok; have HAll := Lib.hid hall
        clear hb1 hok hall
        cases ok with
        | false =>
          have hwx : Below w.heap.size w (w1.alloc (.cells #[.string (B8 nm), .int .i64 t, .int .u64 (bit : Int)] 125)) := Below.alloc HB1.out HB1.out.size _
          have hwo : (w1.alloc (.cells #[.string (B8 nm), .int .i64 t, .int .u64 (bit : Int)] 125)).ownsRow w.heap.size 125 3 (.slice Ao l.length co) l.length (enC l) := HO1.out.alloc _
          have HBx := Lib.hid hwx; have HOx := Lib.hid hwo
          clear hwx hwo
          go_wp2
          go_ret2
          refine ⟨l, k, _, rfl, HR.out.stop (stop_body fun e0 he0 hb0 _ => ?_), HOx.out, HBx.out⟩
          have := (HAll.out e0 he0 (by rw [Hbd.out]; exact hb0)).1
          cases this
        | true =>
          have Hen := Lib.hid (HOK.out rfl)
          go_upto_region 8 with fail
          obtain ⟨g, hg⟩ : ∃ g, g = w1.heap.size := ⟨_, rfl⟩
          have hwx : Below w.heap.size w (w1.alloc (.cells #[.string (B8 nm), .int .i64 t, .int .u64 (bit : Int)] 125)) := Below.alloc HB1.out HB1.out.size _
          have hwo : (w1.alloc (.cells #[.string (B8 nm), .int .i64 t, .int .u64 (bit : Int)] 125)).ownsRow w.heap.size 125 3 (.slice Ao l.length co) l.length (enC l) := HO1.out.alloc _
          have hwk := Blk.new w1 125 #[.string (B8 nm), .int .i64 t, .int .u64 (bit : Int)]
          have hgs : w.heap.size ≤ w1.heap.size := HB1.out.size
          rw [← hg] at hwk hgs ⊢
          have HG := Lib.hid hgs
          clear hg hgs
          have HKc := Lib.hid (fun W (hb : Blk W g 125 #[.string (B8 nm), .int .i64 t, .int .u64 (bit : Int)]) => show W.cell? ⟨g, 0, none⟩ = some (.string (B8 nm)) ∧ W.cell? ⟨g, 1, none⟩ = some (.int .i64 t) ∧ W.cell? ⟨g, 2, none⟩ = some (.int .u64 (bit : Int)) from ⟨hb.cell 0, hb.cell 1, hb.cell 2⟩)
          obtain ⟨z0, z1, z2⟩ := HKc.out _ hwk
          have HBx := Lib.hid hwx; have HOx := Lib.hid hwo; have HKx := Lib.hid hwk
          clear hwx hwo hwk
          generalize w1.alloc (.cells #[.string (B8 nm), .int .i64 t, .int .u64 (bit : Int)] 125) = wx at HBx HOx HKx z0 z1 z2 ⊢
          have htk : t.natAbs < 10 ^ 17 := tick_abs Hen.out.2.1
          have Hrec := Lib.hid (fun W => rrecord_any nm t bit (by omega) htk hbt W)
          have he4 : k + m + 6 ≤ st.size := by omega
          obtain ⟨bs, hbs⟩ : ∃ bs, bs = (b.take (k + m + 6)).drop k := ⟨_, rfl⟩
          have Hsl := Lib.hid (show st.extract k (k + m + 6) = B8 bs by rw [hbs]; exact Hex.out k (k + m + 6))
          have Hbs := Lib.hid (show bs = (b.drop k).take (m + 6) by rw [hbs, List.drop_take]; congr 1; omega)
          clear hbs
          have Hcmp := Lib.hid (show (recL ⟨nm, t, bit⟩ = bs → ((B8 (recL ⟨nm, t, bit⟩)).toList == (B8 bs).toList) = true) ∧ (recL ⟨nm, t, bit⟩ ≠ bs → ((B8 (recL ⟨nm, t, bit⟩)).toList == (B8 bs).toList) = false) from
            ⟨fun h => by rw [h]; simp, fun h => by rw [beq_eq_false_iff_ne]; intro h2; apply h; rw [B8_toList, B8_toList] at h2; exact h2⟩)
          obtain ⟨rc, hrc⟩ : ∃ rc, rc = B8 (recL ⟨nm, t, bit⟩) := ⟨_, rfl⟩
          rw [← hrc] at Hrec Hcmp
          rw [← Hsl.out] at Hcmp
          clear hrc htk
          have he6 : k + m + 6 ≤ n := by omega
          have he7 : (k : Int) + (m : Int) + 6 ≤ (n : Int) := by omega
          have he8 : IntKind.i64.wrap ((k : Int) + (m : Int)) = (k : Int) + (m : Int) := by rw [IntKind.wrap_i64]; omega
          have he8b : IntKind.i64.wrap ((k : Int) + (m : Int) + 6) = (k : Int) + (m : Int) + 6 := by rw [IntKind.wrap_i64]; omega
          have he9 : (0 : Int) ≤ (k : Int) + (m : Int) + 6 := by omega
          have he10 : ((k : Int) + (m : Int) + 6).toNat = k + m + 6 := by omega
          have he11 : (k : Int) ≤ (k : Int) + (m : Int) + 6 := by omega
          have HBd := Lib.hid (show Below w.heap.size w wx.drew from HBx.out.drew)
          have HKd := Lib.hid (show Blk wx.drew g 125 #[.string (B8 nm), .int .i64 t, .int .u64 (bit : Int)] from HKx.out)
          have HOd := Lib.hid (show wx.drew.ownsRow w.heap.size 125 3 (.slice Ao l.length co) l.length (enC l) from HOx.out.drew)
          by_cases hq : recL ⟨nm, t, bit⟩ = bs
          · have hq2 := Hcmp.out.1 hq
            have HQ := Lib.hid hq
            clear hq
            go_region_held3 (fun w' => w'.cell? ⟨g, 0, none⟩ = some (.string (B8 nm)) ∧ w'.cell? ⟨g, 1, none⟩ = some (.int .i64 t) ∧ w'.cell? ⟨g, 2, none⟩ = some (.int .u64 (bit : Int)))
              (first | with_reducible exact HKc.out _ HKd.out | with_reducible exact HKc.out _ K5.out)
              (first | (go_at_call 55; refine (Hrec.out _).mono ?_; rintro e w5 ⟨rfl, hb⟩; have B5 := Lib.hid (Below.call HBd.out hb HBd.out.size); have K5 := Lib.hid (HKd.out.below hb HKd.out.lt); have O5 := Lib.hid (own_below HOd.out hb (Nat.le_refl _)); clear hb))
            all_goals
              have hs5 := B5.out.size
              have HoA := Lib.hid (show (w5.alloc (.cells #[.string (B8 nm), .int .i64 t, .int .u64 (bit : Int)] 125)).ownsRow w.heap.size 125 3 (.slice Ao l.length co) l.length (enC l) from O5.out.alloc _)
              have HrA := Lib.hid (rd_en w5 125 (.string (B8 nm)) (.int .i64 t) (.int .u64 (bit : Int)))
              have HzA := Lib.hid (show w.heap.size ≤ (w5.alloc (.cells #[.string (B8 nm), .int .i64 t, .int .u64 (bit : Int)] 125)).heap.size by simp; omega)
              have HbA := Lib.hid (show Below w.heap.size w (w5.alloc (.cells #[.string (B8 nm), .int .i64 t, .int .u64 (bit : Int)] 125)) from Below.alloc B5.out hs5 _)
              have hk63 : l.length + 1 ≤ maxLen := by unfold maxLen; omega
              have hk8 : (l.length + 1) * 32 ≤ 140737488355328 := by omega
              go_wp2_with (at_builtin; refine wpList_append_rd _ rfl (.tmp 60) (.tmp 62) _ rfl w.heap.size 125 i0 (.agg #[.string ⟨#[]⟩, .int .i64 0, .int .u64 0]) 3 32 Tryz.underlying66 Hi.out Hz0.out Hz1.out Hz2.out rfl (by decide) (.slice Ao l.length co) l.length _ rfl HoA.out _ _ 1 1 [.string (B8 nm), .int .i64 t, .int .u64 (bit : Int)] rfl HrA.out (en_one nm t bit) hk63 hk8 HzA.out ?_; intro v' wa hown' hgr hat; have Hv := Lib.hid hown'; have HBb := Lib.hid (Below.grown HbA.out hgr HzA.out (fun g hg => (own_lt HoA.out g hg).1)); clear hown' hgr hat)
              go_roundw
              case rel =>
                refine ⟨l ++ [⟨nm, t, bit⟩], k + (m + 6), by first | (congr 1; done) | (congr 1; omega), HR.out.step Hen.out (by rw [← Hn.out]; omega) (by rw [← Hbs.out, ← HQ.out]), ?_, HBb.out⟩
                rw [List.length_append, enC_snoc]; exact Hv.out
              case measure => simp [intOf]; omega
          · have hq2 := Hcmp.out.2 hq
            have HQ := Lib.hid hq
            clear hq
            go_region_held3 (fun w' => w'.cell? ⟨g, 0, none⟩ = some (.string (B8 nm)) ∧ w'.cell? ⟨g, 1, none⟩ = some (.int .i64 t) ∧ w'.cell? ⟨g, 2, none⟩ = some (.int .u64 (bit : Int)))
              (first | with_reducible exact HKc.out _ HKd.out | with_reducible exact HKc.out _ K5.out)
              (first | (go_at_call 55; refine (Hrec.out _).mono ?_; rintro e w5 ⟨rfl, hb⟩; have B5 := Lib.hid (Below.call HBd.out hb HBd.out.size); have K5 := Lib.hid (HKd.out.below hb HKd.out.lt); have O5 := Lib.hid (own_below HOd.out hb (Nat.le_refl _)); clear hb))
            all_goals
              go_wp2
              go_ret2
              refine ⟨l, k, _, rfl, HR.out.stop (stop_body fun e0 he0 hb0 hr0 => ?_), (by first | exact O5.out | exact own_drewN O5.out _ | exact O5.out.drew), (by first | exact B5.out | exact Below.drewN B5.out _ | exact B5.out.drew)⟩
              have h1 := (HAll.out e0 he0 (by rw [Hbd.out]; exact hb0)).2
              apply HQ.out
              rw [← h1, ← hr0, Hbs.out, HR'.out]
              congr 1
              have := Hm.out; omega
      · have hmn' : (n : Int) < (k : Int) + 2 + (m : Int) + 4 := by omega
        clear hm
        go_wp2
        go_ret2
        refine ⟨l, k, _, rfl, HR.out.stop (stop_long (by rw [List.length_drop, ← Hn.out, HR'.out]; have := Hm.out; omega)), HOq.out, HBq.out⟩
    · have h2' : ¬ (k : Int) + 2 ≤ (n : Int) := by omega
      go_wp2
      go_ret2
      refine ⟨l, k, _, rfl, HR.out.stop (stop_short (by rw [List.length_drop, ← Hn.out]; omega)), HO.out, HB.out⟩
end Go.Proofs.YtfkklcmepcocoaaGreatDoor
