/- The reference's head: Add of a new series. -/
import Derived.Test.YtfnjgminbjopeaaGreatDoorRAddQ
import Derived.Test.YtfnjgminbjopeaaGreatDoorHeadCutIQ
import Derived.Deep.DeepCutAuto
import Derived.Deep.CutBlock
namespace Go.Proofs.YtfnjgminbjopeaaGreatDoor
open Go.RowKit
set_option linter.unusedVariables false

theorem infoLn : (Tryz.prog.info? 72).map (fun i => (i.zero, i.size, i.bytes)) = some (some (.agg #[.string ⟨#[]⟩, .slice none 0 0, .int .i64 0]), 3, 48) := by kernel_rfl
theorem rd_three (W : World) (t : TypeId) (u0 u1 u2 : Value) : Rd (W.alloc (.cells #[u0, u1, u2] t)) (W.alloc (.cells #[u0, u1, u2] t)).heap.size 3 (some ⟨W.heap.size, 0, none⟩) 1 [u0, u1, u2] := by
  refine ⟨rfl, fun _ => ⟨W.heap.size, 0, rfl, by simp, fun j u hu => ?_⟩⟩
  rw [Nat.zero_add, (Blk.new W t #[u0, u1, u2]).cell j]
  simpa using hu
theorem rlC_take (L : List RLn) (k : Nat) : (rlC L).take (k * 3) = rlC (L.take k) := flat_take rlL 3 (fun _ => rfl) L k
theorem rlC_drop (L : List RLn) (k : Nat) : (rlC L).drop (k * 3) = rlC (L.drop k) := flat_drop rlL 3 (fun _ => rfl) L k
theorem rlC_app (A B : List RLn) : rlC (A ++ B) = rlC A ++ rlC B := by unfold rlC; rw [List.flatMap_append]
theorem rlC_one (L : List RLn) (hv : ∀ x ∈ L, x.v.oneCell' = true) : ∀ u ∈ rlC L, u.oneCell' = true := by
  intro u hu
  unfold rlC rlL at hu
  obtain ⟨x, hx, hu⟩ := List.mem_flatMap.1 hu
  simp only [List.mem_cons, List.not_mem_nil, or_false] at hu
  rcases hu with rfl | rfl | rfl
  · rfl
  · exact hv x hx
  · rfl
theorem own_one {w : World} {base n size : Nat} {e : TypeId} {v : Value} {xs : List Value} (h : w.ownsRow base e size v n xs) : v.oneCell' = true := by
  obtain ⟨A, c, rfl, _⟩ := own_form h
  rfl
/-- A line more, at its place. -/
theorem ref_ins {G : Nat → Prop} {w w4 : World} {b px : Nat} {lv v3 : Value} {L : List RLn} {s : Bs} (h : RefAt w G b lv L) (hb : Below w.heap.size w w4) (hpx : px ≤ L.length)
    (ho : w4.ownsRow w.heap.size 72 3 v3 (L.length + 1) (rlC (L.take px ++ ⟨s, .slice none 0 0, [], 0⟩ :: L.drop px))) :
    RefAt (w4.setCell ⟨b, 0, none⟩ v3) (fun j => G j ∨ w.heap.size ≤ j) b v3 (L.take px ++ ⟨s, .slice none 0 0, [], 0⟩ :: L.drop px) ∧ Fr (fun j => j = b) w (w4.setCell ⟨b, 0, none⟩ v3) := by
  have hh := h.below hb
  have hz : Fr (fun j => j = b) w4 (w4.setCell ⟨b, 0, none⟩ v3) := Fr.setCell (S := fun j => j = b) (Fr.refl _ _) (p := ⟨b, 0, none⟩) (.inr rfl) v3
  have far : ∀ {base n size : Nat} {e : TypeId} {v : Value} {xs : List Value}, w4.ownsRow base e size v n xs → e ≠ 29 → (w4.setCell ⟨b, 0, none⟩ v3).ownsRow base e size v n xs := fun ho hne => hz.own ho (fun k hk e => by
    subst e
    obtain ⟨cs, hc⟩ := own_typed ho hk
    exact hne (blk_type hc hh.hd))
  have hl : (L.take px ++ ⟨s, .slice none 0 0, [], 0⟩ :: L.drop px).length = L.length + 1 := by rw [List.length_append, List.length_cons, List.length_take, List.length_drop]; omega
  refine ⟨⟨hh.hd.set_ 0 v3, ?_, fun x hx => ?_, .inl h.gh, fun k hk => .inr (own_lt ho k hk).1, fun x hx k hk => ?_⟩, Fr.trans ((Fr.ofBelow hb).mono (fun _ _ h => h.elim)) hz (fun _ _ h => h)⟩
  · rw [hl]; exact far (own_base ho (Nat.zero_le _)) (by decide)
  · rcases List.mem_append.1 hx with hx | hx
    · exact far (hh.pts x (List.mem_of_mem_take hx)) (by decide)
    · rcases List.mem_cons.1 hx with rfl | hx
      · exact World.ownsRow_nil _ _ _ _
      · exact far (hh.pts x (List.mem_of_mem_drop hx)) (by decide)
  · rcases List.mem_append.1 hx with hx | hx
    · exact .inl (h.gp x (List.mem_of_mem_take hx) k hk)
    · rcases List.mem_cons.1 hx with rfl | hx
      · cases hk
      · exact .inl (h.gp x (List.mem_of_mem_drop hx) k hk)

set_option maxRecDepth 100000 in
set_option maxHeartbeats 4000000 in
theorem radd_new {G : Nat → Prop} {b : Nat} {lv : Value} {L : List RLn} (s : Bs) (p : Int × Int) (w : World) (hs : s.length ≤ 100000) (hR : RefAt w G b lv L) (hL : L.length ≤ 1000) (hN : ∀ x ∈ L, x.pts.length ≤ 100000) (hsr : hSrt (absR L)) (h0 : (hFault (absR L) s p).1 = 0) (hix : ¬ rIx L s < L.length) :
    Calls Tryz.prog 8 #[.pointer (some ⟨b, 0, none⟩), .string (B8 s), .agg #[.int .i64 p.1, .int .u64 p.2]] w (RAPost G b L s p w) := by
  obtain ⟨f, hf⟩ : ∃ f, f = w.heap.size := ⟨_, rfl⟩
  have Hf := Lib.hid hf
  have hW : Below w.heap.size w ((w.alloc (.cells #[.int .i64 p.1, .int .u64 p.2] 32)).alloc (.cells #[.int .i64 0, .int .i64 0] 40)) := by go_grown
  have Hfl := Lib.hid (rfault_any s p _ hs (hR.below hW) hL)
  have hc := hFault_zero h0
  have Hc := Lib.hid hc
  rw [hc] at Hfl
  have qf := Blk.new (w.alloc (.cells #[.int .i64 p.1, .int .u64 p.2] 32)) 40 #[.int .i64 0, .int .i64 0]
  have qp := ((Blk.new w 32 #[.int .i64 p.1, .int .u64 p.2]).alloc (.cells #[.int .i64 0, .int .i64 0] 40))
  rw [World.size_alloc, ← hf] at qf
  rw [← hf] at qp
  have HW := Lib.hid hW; have QF := Lib.hid qf; have QP := Lib.hid qp
  have hfw := hW.size
  have HR := Lib.hid hR; have Hsr := Lib.hid hsr; have HN := Lib.hid hN
  have Hab := Lib.hid (fun v v0 => show absR ((L.take (rPl L s) ++ ⟨s, v0, [], 0⟩ :: L.drop (rPl L s)).set (rPl L s) ⟨s, v, [p], p.1⟩) = hAdd (absR L) s p by
    rw [set_mid _ _ _ _ (by rw [List.length_take]; exact Nat.min_eq_left (rPl_le L s)), absR_ins L s _ rfl]
    unfold hAdd; rw [rIx_none hix])
  obtain ⟨i0, hi, hz0, hz1, hz2⟩ := info_parts infoPt
  have Hi := Lib.hid hi; have Hz0 := Lib.hid hz0; have Hz1 := Lib.hid hz1; have Hz2 := Lib.hid hz2
  have hlow := hR.hd.lt
  have Hfind := Lib.hid (fun W (hb : Below w.heap.size w W) => rfind_out s W (hR.below hb) hL hix)
  clear hR h0 hW qf qp hc hsr hN hi hz0 hz1 hz2
  unfold fV at Hfl
  dsimp only at Hfl
  obtain ⟨t, bt⟩ := p
  dsimp only at Hfl HW QF QP hfw Hab ⊢
  go_enter Tryz.func8, Tryz.ntmps8
  go_wp2_with fail
  refine Hfl.out.mono ?_
  rintro e w2 ⟨rfl, hb⟩
  have QF2 := Lib.hid (QF.out.below hb QF.out.lt); have QP2 := Lib.hid (QP.out.below hb QP.out.lt); have HB2 := Lib.hid (Below.call HW.out hb hfw)
  have hs2 := HB2.out.size
  rw [← hf]
  clear hb hf
  go_wp2_with fail
  have qg := Blk.new w2 40 #[.int .i64 0, .int .i64 (-1)]
  have qf3 := QF2.out.alloc (.cells #[.int .i64 0, .int .i64 (-1)] 40)
  have qp3 := QP2.out.alloc (.cells #[.int .i64 0, .int .i64 (-1)] 40)
  have hb3 := Below.alloc HB2.out hs2 (.cells #[.int .i64 0, .int .i64 (-1)] 40)
  have hf2 : f + 1 < w2.heap.size := QF2.out.lt
  generalize hw3 : w2.alloc (.cells #[.int .i64 0, .int .i64 (-1)] 40) = w3 at qg qf3 qp3 hb3
  generalize w2.heap.size = gg at qg hf2
  refine (Hfind.out _ hb3).mono ?_
  rintro e w' ⟨rfl, rfl⟩
  have hR3 := HR.out.below hb3
  have QG3 := Lib.hid qg; have QF3 := Lib.hid qf3; have QP3 := Lib.hid qp3; have HB3 := Lib.hid hb3; have HR3 := Lib.hid hR3
  obtain ⟨A, cl, hlv, hncl, hclm, hrd⟩ := own_form hR3.rows
  have z2 : w3.cell? ⟨b, 0, none⟩ = some lv := hR3.hd.cell 0
  rw [hlv] at z2
  have Hlv := Lib.hid hlv; have Hrd := Lib.hid hrd
  have hpl := rPl_le L s
  have Hplt := Lib.hid (fun k y (hk : k < rPl L s) (hy : L[k]? = some y) => rPl_lt hk hy)
  have Hpat := Lib.hid (fun y (hy : L[rPl L s]? = some y) => rPl_at hy)
  have hs3 := hb3.size
  clear qg qf3 qp3 hb3 hR3 hlv hrd hw3 hix
  generalize hpx : rPl L s = px at hpl Hplt Hpat Hab
  have Hpx := Lib.hid hpx
  clear hpx
  go_upto_if 24 with fail
  go_cut [8, 9] (fun s8 s9 wx => ∃ v3, s8 = .int .i64 px ∧ RefAt wx (fun j => (G j ∧ j < w.heap.size) ∨ w3.heap.size ≤ j) b v3 (L.take px ++ ⟨s, .slice none 0 0, [], 0⟩ :: L.drop px) ∧ Fr (fun j => j = b) w3 wx)
  case first =>
    go_upto_block 0 with fail
    go_cut [8] (fun s8 wx => s8 = .int .i64 px ∧ w3 = wx)
    case first =>
      go_wp2
      go_loopw [8] (fun kv wr => ∃ k : Nat, k ≤ px ∧ kv = .int .i64 k ∧ w3 = wr) (fun kv _ => 1001 - (intOf kv).toNat)
      case atStart => exact ⟨0, Nat.zero_le _, rfl, rfl⟩
      case round =>
        obtain ⟨k, hk, rfl, rfl⟩ := hrel
        by_cases hkp : k < px
        · obtain ⟨bl, o, y, hA, _, hy, e0, _⟩ := Hrd.out.at3r (k := k) (by omega)
          subst hA
          have hlt := Hplt.out k y hkp hy
          have hle : Op.bytesLess (B8 y.nm).toList (B8 s).toList = true := by rw [B8_toList, B8_toList, bytesLess_lt]; exact decide_eq_true hlt
          generalize B8 y.nm = sy at e0 hle
          have hkl : (k : Int) < L.length := by omega
          clear hy hlt
          go_wp2
          go_roundw
          case rel => exact ⟨k + 1, by omega, by go_num, by first | rfl | trivial⟩
          case measure => simp [intOf]; omega
        · obtain rfl : k = px := by omega
          by_cases hkn : k < L.length
          · obtain ⟨bl, o, y, hA, _, hy, e0, _⟩ := Hrd.out.at3r (k := k) hkn
            have hlt := Hpat.out y hy
            have hle : Op.bytesLess (B8 y.nm).toList (B8 s).toList = false := by rw [B8_toList, B8_toList, bytesLess_lt]; exact decide_eq_false hlt
            generalize B8 y.nm = sy at e0 hle
            have hkl : (k : Int) < L.length := by omega
            subst hA
            clear hy hlt
            go_wp2
            go_meet
            exact ⟨rfl, rfl⟩
          · have hkl : ¬ (k : Int) < L.length := by omega
            go_wp2
            go_meet
            exact ⟨rfl, rfl⟩
    case rest =>
      obtain ⟨rfl, rfl⟩ := hcut
      obtain ⟨i1, hi1, hy0, hy1, hy2⟩ := info_parts infoLn
      have Hi1 := Lib.hid hi1; have Hy0 := Lib.hid hy0; have Hy1 := Lib.hid hy1; have Hy2 := Lib.hid hy2
      have HOne := Lib.hid (show ∀ x ∈ L, x.v.oneCell' = true from fun x hx => own_one (HR3.out.pts x hx))
      have HrT := Lib.hid (show Rd w3 w3.heap.size 3 A px (rlC (L.take px)) by
        have h := Hrd.out.take hpl
        rw [rlC_take] at h; exact h)
      have HoT := Lib.hid (rlC_one (L.take px) (fun x hx => HOne.out x (List.mem_of_mem_take hx)))
      have HoD := Lib.hid (rlC_one (L.drop px) (fun x hx => HOne.out x (List.mem_of_mem_drop hx)))
      have hk63 : 0 + px ≤ maxLen := by unfold maxLen; omega
      have hk8 : (0 + px) * 48 ≤ 140737488355328 := by omega
      have hl63 : px + 1 ≤ maxLen := by unfold maxLen; omega
      have hl8 : (px + 1) * 48 ≤ 140737488355328 := by omega
      have hm63 : px + 1 + (L.length - px) ≤ maxLen := by unfold maxLen; omega
      have hm8 : (px + 1 + (L.length - px)) * 48 ≤ 140737488355328 := by omega
      have hpli : (px : Int) ≤ L.length := by omega
      have hbl : b < w3.heap.size := HR3.out.hd.lt
      have HCell := Lib.hid (fun W (hb : Below w3.heap.size w3 W) => show W.cell? ⟨b, 0, none⟩ = some (.slice A L.length cl) ∧ W.frozen? ⟨b, 0, none⟩ = false ∧ w3.heap.size ≤ W.heap.size from
        ⟨(hb.cell (p := ⟨b, 0, none⟩) hbl).trans z2, (HR3.out.hd.below hb hbl).frozen 0, hb.size⟩)
      have HrD := Lib.hid (fun W (hb : Below w3.heap.size w3 W) => show Rd W W.heap.size 3 (if cl = px then A else A.map (·.add (px * 3))) (L.length - px) (rlC (L.drop px)) by
        have h := (Hrd.out.below hb).cut hpl hncl
        rw [rlC_drop] at h
        exact h.more hb.size)
      clear hi1 hy0 hy1 hy2
      have HOneT := Lib.hid (show ∀ u ∈ [Value.string (B8 s), Value.slice none 0 0, Value.int .i64 0], u.oneCell' = true by intro u hu; simp at hu; rcases hu with rfl | rfl | rfl <;> rfl)
      go_wp2_with (first
        | (at_builtin; refine wpList_append_rd _ rfl (.tmp 46) (.tmp 52) _ rfl w3.heap.size 72 i1 (.agg #[.string ⟨#[]⟩, .slice none 0 0, .int .i64 0]) 3 48 Tryz.underlying27 Hi1.out Hy0.out Hy1.out Hy2.out rfl (by decide) (.slice none 0 0) 0 [] rfl (World.ownsRow_nil _ _ _ _) _ A px cl (rlC (L.take px)) rfl HrT.out HoT.out hk63 hk8 (Nat.le_refl _) ?_; intro v4 w4 hown hgr hat; rw [Nat.zero_add, List.nil_append] at hown; have Hb4 := Lib.hid (Below.grown (Below.refl w3.heap.size w3) hgr (Nat.le_refl _) (fun g hg => by cases hg)); obtain ⟨A4, c4, rfl, _, _, _⟩ := own_form hown; have HoA4 := Lib.hid (show (w4.alloc (.cells #[.string (B8 s), .slice none 0 0, .int .i64 0] 72)).ownsRow w3.heap.size 72 3 (.slice A4 px c4) px (rlC (L.take px)) from hown.alloc _); have HrA4 := Lib.hid (rd_three w4 72 (.string (B8 s)) (.slice none 0 0) (.int .i64 0)); have HbA4 := Lib.hid (show Below w3.heap.size w3 (w4.alloc (.cells #[.string (B8 s), .slice none 0 0, .int .i64 0] 72)) from Below.alloc Hb4.out Hb4.out.size _); clear hown hgr hat)
        | (at_builtin; refine wpList_append_rd _ rfl (.tmp 54) (.tmp 57) _ rfl w3.heap.size 72 i1 (.agg #[.string ⟨#[]⟩, .slice none 0 0, .int .i64 0]) 3 48 Tryz.underlying27 Hi1.out Hy0.out Hy1.out Hy2.out rfl (by decide) (.slice A4 px c4) px _ rfl HoA4.out _ _ 1 1 [.string (B8 s), .slice none 0 0, .int .i64 0] rfl HrA4.out HOneT.out hl63 hl8 HbA4.out.size ?_; intro v5 w5 hown hgr hat; have Hb5 := Lib.hid (Below.grown HbA4.out hgr HbA4.out.size (fun g hg => (own_lt HoA4.out g hg).1)); obtain ⟨A5, c5, rfl, _, _, _⟩ := own_form hown; have Ho5 := Lib.hid hown; have HrD5 := Lib.hid (HrD.out _ Hb5.out); obtain ⟨k1, k2, k3⟩ := HCell.out _ Hb5.out; clear hown hgr hat)
        | (at_builtin; refine wpList_append_rd _ rfl (.tmp 60) (.tmp 66) _ rfl w3.heap.size 72 i1 (.agg #[.string ⟨#[]⟩, .slice none 0 0, .int .i64 0]) 3 48 Tryz.underlying27 Hi1.out Hy0.out Hy1.out Hy2.out rfl (by decide) (.slice A5 (px + 1) c5) (px + 1) _ rfl Ho5.out _ _ (L.length - px) _ (rlC (L.drop px)) rfl HrD5.out HoD.out hm63 hm8 k3 ?_; intro v6 w6 hown hgr hat; have Hb6 := Lib.hid (Below.grown Hb5.out hgr k3 (fun g hg => (own_lt Ho5.out g hg).1)); obtain ⟨A6, c6, rfl, _, _, _⟩ := own_form hown; have Ho6 := Lib.hid hown; obtain ⟨j1, j2, j3⟩ := HCell.out _ Hb6.out; clear hown hgr hat))
      all_goals
        have hll : px + 1 + (L.length - px) = L.length + 1 := by omega
        have HFin := Lib.hid (ref_ins (s := s) ((HR.out.lt).below HB3.out) Hb6.out hpl (by
          have h := Ho6.out
          rw [hll] at h
          rw [rlC_app, rlC_cons]
          simpa using h))
        go_meet
        exact ⟨_, rfl, by rw [hll]; exact HFin.out.1, by rw [hll]; exact HFin.out.2⟩
  case rest =>
    obtain ⟨lv3, rfl, hR4, hF4⟩ := hcut
    obtain ⟨L3, hL3⟩ : ∃ L3, L3 = L.take px ++ ⟨s, .slice none 0 0, [], 0⟩ :: L.drop px := ⟨_, rfl⟩
    obtain ⟨y, hy⟩ : ∃ y : RLn, y = ⟨s, .slice none 0 0, [], 0⟩ := ⟨_, rfl⟩
    have hyn : y.nm = s := by rw [hy]
    have hyp : y.pts = [] := by rw [hy]
    have Hyp := Lib.hid hyp
    have hgx : L3[px]? = some y := by
      have hlt : (L.take px).length = px := by rw [List.length_take]; omega
      rw [hL3, List.getElem?_append_right (by omega), hlt, Nat.sub_self, hy]; rfl
    have hym : y ∈ L3 := List.mem_of_getElem? hgx
    have hl3 : L3.length = L.length + 1 := by rw [hL3, List.length_append, List.length_cons, List.length_take, List.length_drop]; omega
    have hab3 := fun v => Hab.out v (.slice none 0 0)
    rw [← hL3] at hR4 hab3
    have Hab3 := Lib.hid hab3
    clear hab3 Hab
    have HL3 := Lib.hid hL3
    have hs4 := hF4.size
    have hff0 : f + 1 < w3.heap.size := QF3.out.lt
    have HF3 := Lib.hid (show Fr G w wc from Fr.trans ((Fr.ofBelow HB3.out).mono (fun _ _ h => h.elim)) hF4 (fun i _ h => by subst h; exact HR.out.gh))
    have HG3 := Lib.hid (show ∀ k, ((G k ∧ k < w.heap.size) ∨ w3.heap.size ≤ k) → (G k ∧ k < w.heap.size) ∨ f + 2 ≤ k from fun k hk => hk.elim .inl (fun h => .inr (by omega)))
    have hf3 : f + 2 ≤ wc.heap.size := by omega
    have qb : ∀ {t : TypeId} {g : Nat} {cs : Array Value}, Blk w3 g t cs → t ≠ 29 → Blk wc g t cs := fun hb hne => hF4.blk hb (fun e => by subst e; exact hne (blk_type hb HR3.out.hd))
    have QG4 := Lib.hid (qb QG3.out (by decide)); have QF4 := Lib.hid (qb QF3.out (by decide)); have QP4 := Lib.hid (qb QP3.out (by decide))
    clear hL3 hy Hfl HW QF QP HB2 QF2 QP2 Hfind HB3 HR3 Hrd Hlv z2 hncl hclm Hplt Hpat hfw QG3 QF3 QP3 hs2 hf2 hs3 hff0 qb hF4
    have HR3 := Lib.hid hR4
    have hix : px < L3.length := by omega
    have hl31 : L3.length ≤ 1001 := by omega
    have Hx := Lib.hid hgx
    obtain ⟨g, cap, hlv, _, hglt⟩ := own_some hR4.rows (by omega)
    have z2 : wc.cell? ⟨b, 0, none⟩ = some lv3 := hR4.hd.cell 0
    rw [hlv] at z2
    obtain ⟨bl, o, y', hA, _, hy', e0, e1, e2⟩ := (Rd.of_own (by rw [← hlv]; exact hR4.rows)).at3r hix
    injection hA with hA
    injection hA with h1 h2
    subst h1; subst h2
    obtain rfl : y = y' := Option.some.inj (hgx.symm.trans hy')
    obtain ⟨Ap, cp, hv, _, hcpm, hrp⟩ := own_form (hR4.pts y hym)
    rw [hv] at e1
    rw [hyn] at e0
    rw [Nat.zero_add] at e0 e1 e2
    have Hlv := Lib.hid hlv; have Hrp := Lib.hid hrp
    have hm : y.pts.length ≤ 100000 := by rw [hyp]; simp
    clear hR4 hlv hv hrp hy' hgx hym hyp hyn hl3
    generalize hml : y.pts.length = m at hm e1 Hrp
    have Hml := Lib.hid hml
    clear hml
    have hb4 := Below.alloc (Below.refl wc.heap.size wc) (Nat.le_refl _) (.cells #[.string (B8 s), .slice Ap m cp, .int .i64 y.last] 72)
    have H4rd := Lib.hid ((Hrp.out.alloc (Nat.le_refl _) (.cells #[.string (B8 s), .slice Ap m cp, .int .i64 y.last] 72)).more (show wc.heap.size ≤ (wc.alloc (.cells #[.string (B8 s), .slice Ap m cp, .int .i64 y.last] 72)).heap.size by simp))
    have HB4 := Lib.hid hb4
    have hk63 : 0 + m ≤ maxLen := by unfold maxLen; omega
    have hk8 : (0 + m) * 16 ≤ 140737488355328 := by omega
    clear hb4
    generalize hst : B8 s = st at *
    have Hst := Lib.hid hst
    clear hst
    go_wp2_with (at_builtin; refine wpList_append_rd _ rfl (.tmp 77) (.tmp 79) _ rfl (wc.heap.size + 1) 32 i0 (.agg #[.int .i64 0, .int .u64 0]) 2 16 Tryz.underlying52 Hi.out Hz0.out Hz1.out Hz2.out rfl (by decide) (.slice none 0 0) 0 [] rfl (World.ownsRow_nil _ _ _ _) _ Ap m cp (ptsC y.pts) rfl H4rd.out (ptsC_one _) hk63 hk8 (by simp) ?_; intro v5 w5 hown' hgr hat; rw [Nat.zero_add, List.nil_append] at hown'; have Hv5 := Lib.hid hown'; have Hb5 := Lib.hid (Below.grown HB4.out hgr (by simp) (fun g hg => by cases hg)); obtain ⟨A5, c5, rfl, _, _, _⟩ := own_form hown'; clear hown' hgr hat)
    have hbase : ∀ j, ownZB (.slice A5 m c5) = some j → wc.heap.size ≤ j ∧ j < w5.heap.size := fun j hj => by
      have := own_lt Hv5.out j (ownZB_le hj)
      exact ⟨by omega, this.2⟩
    have H4 := Lib.hid (fun W (hf : Fr (fun _ => False) w5 W) => show OwnZ W 32 2 (.slice A5 m c5) m (ptsC y.pts) from (OwnZ.of_own Hv5.out).fr hf (fun _ _ h => h))
    have Hq := Lib.hid (fun W wa (hf : Fr (fun _ => False) w5 W) (hgr : W.grownBy wa (ownZB (.slice A5 m c5))) => show Below wc.heap.size wc wa from by
      have hfa : Fr (fun k => ownZB (.slice A5 m c5) = some k) w5 wa := (hf.mono (fun _ _ h => h.elim)).grown hgr (fun k hk => .inr hk)
      exact Hb5.out.trans (hfa.below Hb5.out.size (fun k hk e => by have := (hbase k e).1; omega)))
    have hgl : g < wc.heap.size := hglt
    have HFacts := Lib.hid (fun wa (hb : Below wc.heap.size wc wa) => show wa.cell? ⟨f, 0, none⟩ = some (.int .i64 t) ∧ wa.cell? ⟨f, 1, none⟩ = some (.int .u64 bt) ∧ wa.cell? ⟨b, 0, none⟩ = some (.slice (some ⟨g, 0, none⟩) L3.length cap) ∧
        wa.cell? ⟨g, px * 3, none⟩ = some (.string st) ∧ wa.cell? ⟨g, px * 3 + 1, none⟩ = some (.slice Ap m cp) ∧ wa.cell? ⟨g, px * 3 + 2, none⟩ = some (.int .i64 y.last) ∧ (wa.frozen? ⟨g, px * 3, none⟩ = false ∧ wa.frozen? ⟨g, px * 3 + 1, none⟩ = false ∧ wa.frozen? ⟨g, px * 3 + 2, none⟩ = false) ∧ 
        (wa.cell? ⟨gg, 0, none⟩ = some (.int .i64 0) ∧ wa.cell? ⟨gg, 1, none⟩ = some (.int .i64 (-1)) ∧ wa.cell? ⟨f + 1, 0, none⟩ = some (.int .i64 0) ∧ wa.cell? ⟨f + 1, 1, none⟩ = some (.int .i64 0) ∧ wa.frozen? ⟨f + 1, 0, none⟩ = false ∧ wa.frozen? ⟨f + 1, 1, none⟩ = false) ∧ wc.heap.size ≤ wa.heap.size from by
      have hrow := HR3.out.rows
      rw [Hlv.out] at hrow
      have hz := own_below hrow hb (Nat.le_refl _)
      have qa := QP4.out.below hb QP4.out.lt; have qb := QF4.out.below hb QF4.out.lt; have qc := QG4.out.below hb QG4.out.lt
      exact ⟨qa.cell 0, qa.cell 1, (hb.cell (p := ⟨b, 0, none⟩) HR3.out.hd.lt).trans z2, (hb.cell (p := ⟨g, px * 3, none⟩) hgl).trans e0, (hb.cell (p := ⟨g, px * 3 + 1, none⟩) hgl).trans e1, (hb.cell (p := ⟨g, px * 3 + 2, none⟩) hgl).trans e2,
        ⟨hz.frozenAt _, hz.frozenAt _, hz.frozenAt _⟩, ⟨qc.cell 0, qc.cell 1, qb.cell 0, qb.cell 1, qb.frozen 0, qb.frozen 1⟩, hb.size⟩)
    have hgg1 : g ≠ gg := by
      have hrow := HR3.out.rows
      rw [Hlv.out] at hrow
      have := own_ne_blk hrow QG4.out (by decide)
      intro e; exact this (by rw [← e]; rfl)
    have hgg2 : g ≠ f + 1 := by
      have hrow := HR3.out.rows
      rw [Hlv.out] at hrow
      have := own_ne_blk hrow QF4.out (by decide)
      intro e; exact this (by rw [← e]; rfl)
    have hgg3 : g ≠ f := by
      have hrow := HR3.out.rows
      rw [Hlv.out] at hrow
      have := own_ne_blk hrow QP4.out (by decide)
      intro e; exact this (by rw [← e]; rfl)
    have hgg4 : g ≠ b := by
      have hrow := HR3.out.rows
      rw [Hlv.out] at hrow
      have := own_ne_blk hrow HR3.out.hd (by decide)
      intro e; exact this (by rw [← e]; rfl)
    have hff : f + 1 < wc.heap.size := QF4.out.lt
    have hggl : gg < wc.heap.size := QG4.out.lt
    have hbl : b < wc.heap.size := HR3.out.hd.lt
    have hw5 : wc.heap.size ≤ w5.heap.size := Hb5.out.size
    have hf5 : f < w5.heap.size := by omega
    have hf6 : f + 1 < w5.heap.size := by omega
    have hg5 : g < w5.heap.size := by omega
    have hg6 : gg < w5.heap.size := by omega
    have hb6 : b < w5.heap.size := by omega
    have hk63' : m + 1 ≤ maxLen := by unfold maxLen; omega
    have hk8' : (m + 1) * 16 ≤ 140737488355328 := by omega
    have hix' : (px : Int) < L3.length := by omega
    obtain ⟨a0, a1, a2, a3, a4, a5, ⟨a6, a7, a8⟩, ⟨a9, a10, a11, a12, a13, a14⟩, _⟩ := HFacts.out w5 Hb5.out
    have HDone := Lib.hid (fun wa v' (hq : Below wc.heap.size wc wa) (hown : wa.ownsRow 0 32 2 v' (m + 1) (ptsC y.pts ++ [.int .i64 t, .int .u64 bt])) (hat : ∀ j, v'.ownBlock = some j → wc.heap.size ≤ j) => radd_done (G := G) (s := s) HR3.out HG3.out HF3.out Hf.out hf3 QF4.out Hx.out hq hown Hml.out hat Hlv.out)
    rw [Hst.out] at HDone
    have hgg1' : gg ≠ g := fun e => hgg1 e.symm
    have hgg2' : f + 1 ≠ g := fun e => hgg2 e.symm
    clear z2 e0 e1 e2
    go_wp2
    refine' (fun (key : Hid _) => ?main) (Lib.hid ?proof)
    case main =>
      go_region_law ((refine step_append_rz (by rfl) (.tmp 87) (.tmp 89) _ (by rfl) 32 i0 (.agg #[.int .i64 0, .int .u64 0]) 2 16 Tryz.underlying52 Hi.out Hz0.out Hz1.out Hz2.out (by rfl) (by decide) (.slice A5 m c5) m (ptsC y.pts) (by rfl) (H4.out _ (by repeat (first | exact Fr.refl _ _ | refine Fr.drew ?_ | refine Fr.alloc ?_ _))) _ (some ⟨w5.heap.size, 0, none⟩) 1 1 [.int .i64 t, .int .u64 bt] (by rfl) (rd_pt w5 (.int .i64 t) (.int .u64 bt)) (pt_one _ _) (by decide) hk63' hk8' ?_; intro v' wa hown' hgr hat hcap; obtain ⟨A2, c2, rfl, _, _, _⟩ := own_form hown'; have HQ := Lib.hid (Hq.out _ wa (by repeat (first | exact Fr.refl _ _ | refine Fr.drew ?_ | refine Fr.alloc ?_ _)) hgr); have HO := Lib.hid hown'; have HAt := Lib.hid (own_hi (z := wc.heap.size) hat (fun j hj => (hbase j hj).1) (by simp; omega)); clear hown' hat hcap hgr; obtain ⟨y0, y1, y2, y3, y4, y5, ⟨y6, y7, y8⟩, ⟨y9, y10, y11, y12, y13, y14⟩, y15⟩ := HFacts.out wa HQ.out))
      all_goals
        revert wa A2 c2
        exact key.out
    case proof =>
      intro wa A2 c2 _ _ _ HQ HO HAt y0 y1 y2 y3 y4 y5 y6 y7 y8 y15 y9 y10 y11 y12 y13 y14
      obtain ⟨E1, E2, E3⟩ := HDone.out wa _ HQ.out HO.out HAt.out
      have HE1 := Lib.hid E1; have HE2 := Lib.hid E2; have HE3 := Lib.hid E3
      clear E1 E2 E3 H4 Hq HFacts y0 y1 y2 y3 y4 y5 y6 y7 y8 a0 a1 a2 a3 a4 a5 a6 a7 a8 a9 a10 a11 a12 a13 a14 HDone
      go_wp2
      (try simp only [Exit.inBlock, Exit.then])
      refine bodyPost_ret (res_ra _ _ (f + 1) _ _ rfl HE3.out) rfl ?_
      exact ⟨by rw [Hc.out]; rfl, fun h => absurd (by rw [Hc.out]) h, fun _ => ⟨lv3, _, HE1.out, by rw [Hyp.out]; exact Hab3.out _, HE2.out⟩⟩
end Go.Proofs.YtfnjgminbjopeaaGreatDoor
