/- A disk's own methods by contracts: write, On, Cut, Power, Bytes, Clear, NewDisk. -/
import Derived.Test.YtfkklcmepcocoaaDoorDiskNQ
import Derived.Test.YtfkklcmepcocoaaDoorLabChkQ
import Derived.Test.YtfkklcmepcocoaaDoorMhae
import Derived.BigQuiet
import Derived.Deep.RegionLaw
namespace Go.Proofs.YtfkklcmepcocoaaDoor
open Go.RowKit
set_option linter.unusedVariables false

theorem bytC_snoc {s : Bs} {k : Nat} {c : UInt8} (b : Bs) (h : s[k]? = some c) : bytC (b ++ s.take (k + 1)) = bytC (b ++ s.take k) ++ [.int .u8 (c.toNat : Int)] := by
  rw [take_snoc h, ← List.append_assoc]
  unfold bytC
  rw [List.map_append]; rfl
theorem bytC_len (b : Bs) : (bytC b).length = b.length := by unfold bytC; rw [List.length_map]
/-- One byte more, and one fewer until power fails. -/
theorem dw_step {wr W wa : World} {q : Nat} {v1 v2 : Value} {d1 : Dk} {c : UInt8} {c2 : Int} (h : DiskAt wr q v1 d1) (hf : Fr (fun _ => False) wr W) (hgr : W.grownBy wa v1.ownBlock) (hb : Buf wa v2 (d1.b.length + 1) (bytC d1.b ++ [.int .u8 (c.toNat : Int)]))
    (hmv : ∀ k, v2.ownBlock = some k → v1.ownBlock = some k ∨ W.heap.size ≤ k) (hc : CutOk c2) :
    DStep wr ((wa.setCell ⟨q, 0, none⟩ v2).setCell ⟨q, 2, none⟩ (.int .i64 c2)) q v1 v2 ⟨d1.b ++ [c], d1.off, c2⟩ := by
  have hfa : Fr (fun k => v1.ownBlock = some k) wr wa := (hf.mono (fun _ _ h => h.elim)).grown hgr (fun k hk => .inr hk)
  have qa := hfa.blk h.hd h.ne
  have hz : Fr (fun k => k = q) wa ((wa.setCell ⟨q, 0, none⟩ v2).setCell ⟨q, 2, none⟩ (.int .i64 c2)) :=
    Fr.setCell (S := fun k => k = q) (Fr.setCell (S := fun k => k = q) (Fr.refl _ _) (p := ⟨q, 0, none⟩) (.inr rfl) v2) (p := ⟨q, 2, none⟩) (.inr rfl) _
  refine ⟨⟨(qa.set_ 0 v2).set_ 2 _, ?_, hc⟩, Fr.trans (hfa.mono fun k _ hk => .inr hk) hz (fun k _ hk => .inl hk), fun k hk => ?_⟩
  · have e1 : (d1.b ++ [c]).length = d1.b.length + 1 := by rw [List.length_append]; rfl
    have e2 : bytC (d1.b ++ [c]) = bytC d1.b ++ [.int .u8 (c.toNat : Int)] := by unfold bytC; rw [List.map_append]; rfl
    show Buf _ v2 (d1.b ++ [c]).length (bytC (d1.b ++ [c]))
    rw [e1, e2]
    exact hb.fr hz (fun k hk e => (hb.row k hk).ne_blk qa (by decide) e)
  · rcases hmv k hk with h1 | h1
    · exact .inl h1
    · exact .inr (Nat.le_trans hf.size h1)
/-- Two fields of a disk turn. -/
theorem dset {w : World} {q : Nat} {v : Value} {d d' : Dk} (h : DiskAt w q v d) (hb : d'.b = d.b) (hc : CutOk d'.cut) (wz : World) (hz : Fr (fun k => k = q) w wz) (hd : Blk wz q 49 #[v, .bool d'.off, .int .i64 d'.cut]) : DStep w wz q v v d' := by
  refine ⟨⟨hd, ?_, hc⟩, hz.mono (fun k _ hk => .inl hk), fun k hk => .inl hk⟩
  rw [hb]
  exact h.buf.fr hz (fun k hk e => h.ne (by rw [hk, e]))
theorem fr_set (w : World) (q i : Nat) (u : Value) : Fr (fun k => k = q) w (w.setCell ⟨q, i, none⟩ u) := Fr.setCell (S := fun k => k = q) (Fr.refl _ _) (p := ⟨q, i, none⟩) (.inr rfl) u
def WPost (es : Nat → Addr) (w : World) (q : Nat) (v : Value) (d : Dk) (s : Bs) (e : Ending) (w' : World) : Prop :=
  ((wrD d s).2 = true → e = .returned .nilIface) ∧ ((wrD d s).2 = false → e = .returned (sentV (es 9))) ∧ ∃ v', DStep w w' q v v' (wrD d s).1
set_option maxHeartbeats 4000000 in
set_option maxRecDepth 100000 in
theorem dwrite_off {es : Nat → Addr} {B q : Nat} {v : Value} {d : Dk} (s : Bs) (w : World) (hD : DiskAt w q v d) (hlo : DkLo B q v) (g1 : w.cell? ⟨gErr 9, 0, none⟩ = some (sentV (es 9))) (gB : gErr 9 < B) (hs : 1 ≤ s.length) (hs2 : s.length ≤ 100000) (ho : d.off = true) :
    Calls Tryd.prog 22 #[.pointer (some ⟨q, 0, none⟩), .string (B8 s)] w (WPost es w q v d s) := by
  have hsz : (B8 s).size = s.length := B8_size s
  obtain ⟨n, hn⟩ : ∃ n, n = s.length := ⟨_, rfl⟩
  rw [← hn] at hsz hs hs2
  have c1 : w.cell? ⟨q, 1, none⟩ = some (.bool true) := by rw [← ho]; exact hD.hd.cell 1
  have f1 := hD.hd.frozen 1
  have hq : B ≤ q := hlo q (.inl rfl)
  have hne : gErr 9 ≠ q := by omega
  have Hst := Lib.hid (show DStep w (w.setCell ⟨q, 1, none⟩ (.bool true)) q v v d from dset hD rfl hD.ok _ (fr_set w q 1 _) (by
    have := hD.hd.set_ 1 (.bool true)
    rw [ho]; rw [ho] at this; exact this))
  have Hw := Lib.hid (wrD_off ho s)
  have G1 : w.cell? ⟨2, 0, none⟩ = some (sentV (es 9)) := g1
  have hne2 : 2 ≠ q := hne
  have hn1 : (0 : Int) < n := by omega
  clear hD hlo g1 gB ho hn hne hq
  generalize B8 s = st at hsz
  go_enter Tryd.func22, Tryd.ntmps22
  go_wp2
  go_loopw [5, 8] (fun _ iv wr => iv = .int .i64 0 ∧ wr = w) (fun _ _ _ => 0)
  case atStart => exact ⟨rfl, rfl⟩
  case round =>
    obtain ⟨rfl, rfl⟩ := hrel
    go_wp2
    go_ret
    refine ⟨fun h => (by rw [Hw.out] at h; cases h), fun _ => rfl, v, ?_⟩
    rw [Hw.out]; exact Hst.out
/-- How much is left when k bytes are written. -/
def cutK (c : Int) (k : Nat) : Int := if c < 0 then -1 else c - k
theorem cutK_ok {c : Int} (h : CutOk c) {k : Nat} (hk : 0 ≤ c → (k : Int) ≤ c) : CutOk (cutK c k) := by
  unfold CutOk at h ⊢
  unfold cutK
  split
  · omega
  · have := hk (by omega); omega
set_option maxHeartbeats 4000000 in
set_option maxRecDepth 100000 in
theorem dwrite_on {es : Nat → Addr} {B q : Nat} {v : Value} {d : Dk} (s : Bs) (w : World) (hD : DiskAt w q v d) (hlo : DkLo B q v) (hB : B ≤ w.heap.size) (g1 : w.cell? ⟨gErr 9, 0, none⟩ = some (sentV (es 9))) (gB : gErr 9 < B) (hs2 : d.b.length + s.length ≤ 1000000) (ho : d.off = false) :
    Calls Tryd.prog 22 #[.pointer (some ⟨q, 0, none⟩), .string (B8 s)] w (WPost es w q v d s) := by
  have hsz : (B8 s).size = s.length := B8_size s
  have Hat := Lib.hid (fun i (h : i < (B8 s).size) => show ((B8 s)[i]).toNat = (s.getD i 0).toNat from B8_at s i h)
  obtain ⟨n, hn⟩ : ∃ n, n = s.length := ⟨_, rfl⟩
  rw [← hn] at hsz hs2
  have Hn := Lib.hid hn
  have H0 := Lib.hid hD; have Hlo := Lib.hid hlo; have Ho := Lib.hid ho
  have hok : CutOk d.cut := hD.ok
  have HG := Lib.hid (fun W (hb : Below B w W) => show W.cell? ⟨gErr 9, 0, none⟩ = some (sentV (es 9)) from (hb.cell (p := ⟨gErr 9, 0, none⟩) gB).trans g1)
  have hq : B ≤ q := hlo q (.inl rfl)
  have hne2 : 2 ≠ q := fun e => by have : gErr 9 = q := e; omega
  obtain ⟨i0, hi, hz0, hz1, hz2⟩ := info_parts infoU8
  have Hi := Lib.hid hi; have Hz0 := Lib.hid hz0; have Hz1 := Lib.hid hz1; have Hz2 := Lib.hid hz2
  have HB := Lib.hid hB
  generalize hst : B8 s = st at hsz Hat ⊢
  unfold CutOk at hok
  clear hD hlo g1 ho hn hi hz0 hz1 hz2 hB hst gB
  go_enter Tryd.func22, Tryd.ntmps22
  go_wp2
  go_loopw [5, 8] (fun _ iv wr => ∃ (k : Nat) (v1 : Value), k ≤ n ∧ (0 ≤ d.cut → (k : Int) ≤ d.cut) ∧ iv = .int .i64 k ∧ DStep w wr q v v1 ⟨d.b ++ s.take k, false, cutK d.cut k⟩) (fun _ iv _ => n - (intOf iv).toNat)
  case atStart =>
    refine ⟨0, v, Nat.zero_le _, fun h => h, rfl, ?_⟩
    have e : (⟨d.b ++ s.take 0, false, cutK d.cut 0⟩ : Dk) = d := by
      have e1 : cutK d.cut 0 = d.cut := by unfold cutK; split <;> omega
      rw [e1, ← Ho.out, List.take_zero, List.append_nil]
    rw [e]
    exact DStep.ofBelow H0.out (Below.refl _ _) (Nat.le_refl _)
  case round =>
    obtain ⟨k, v1, hk, hkc, rfl, hst⟩ := hrel
    have HS := Lib.hid hst
    have hbel := hst.below Hlo.out HB.out
    have G1 : wr.cell? ⟨2, 0, none⟩ = some (sentV (es 9)) := HG.out _ hbel
    have c0 : wr.cell? ⟨q, 0, none⟩ = some v1 := hst.at_.hd.cell 0
    have c1 : wr.cell? ⟨q, 1, none⟩ = some (.bool false) := hst.at_.hd.cell 1
    have c2 : wr.cell? ⟨q, 2, none⟩ = some (.int .i64 (cutK d.cut k)) := hst.at_.hd.cell 2
    have hql : q < wr.heap.size := hst.at_.hd.lt
    have f0 := hst.at_.hd.frozen 0; have f1 := hst.at_.hd.frozen 1; have f2 := hst.at_.hd.frozen 2
    clear hst hbel
    by_cases hkn : k < n
    · have hkn' : (k : Int) < n := by omega
      by_cases hcut : 0 ≤ d.cut ∧ d.cut = k
      · have hcz : cutK d.cut k = 0 := by unfold cutK; rw [if_neg (by omega)]; omega
        rw [hcz] at c2
        have Hst := Lib.hid (show DStep w (wr.setCell ⟨q, 1, none⟩ (.bool true)) q v v1 ⟨d.b ++ s.take k, true, 0⟩ from
          HS.out.trans (dset (d' := ⟨d.b ++ s.take k, true, 0⟩) HS.out.at_ rfl ⟨by show (-1 : Int) ≤ 0; decide, by show (0 : Int) < 9223372036854775808; decide⟩ _ (fr_set wr q 1 (.bool true)) (by
            have := HS.out.at_.hd.set_ 1 (.bool true)
            dsimp only at this
            rw [hcz] at this; exact this)))
        have Hw := Lib.hid (show wrD d s = (⟨d.b ++ s.take k, true, 0⟩, false) by
          have := wrD_cut Ho.out (s := s) hcut.1 (by rw [← Hn.out]; omega)
          rw [this]
          have e : d.cut.toNat = k := by omega
          rw [e])
        clear hcz hcut hkc
        go_wp2
        go_ret
        refine ⟨fun h => (by rw [Hw.out] at h; cases h), fun _ => rfl, v1, ?_⟩
        rw [Hw.out]; exact Hst.out
      · obtain ⟨c, hc⟩ : ∃ c, s[k]? = some c := ⟨_, List.getElem?_eq_getElem (by rw [← Hn.out]; exact hkn)⟩
        have hk1 : k < st.size := by omega
        have x0 := Hat.out k hk1
        have hg : s.getD k 0 = c := by rw [List.getD_eq_getElem?_getD, hc]; rfl
        rw [hg] at x0
        have Hc := Lib.hid hc
        have hcn : ¬ cutK d.cut k = 0 := by unfold cutK; split <;> omega
        have hcnb : (cutK d.cut k == 0) = false := by rw [beq_eq_false_iff_ne]; exact hcn
        have hcr : -1 ≤ cutK d.cut k ∧ cutK d.cut k < 9223372036854775808 := by
          unfold cutK; split <;> omega
        obtain ⟨hcr1, hcr2⟩ := hcr
        have Hnx := Lib.hid (show CutOk (cutK d.cut (k + 1)) ∧ (cutK d.cut k - 1 < -1 → cutK d.cut (k + 1) = -1) ∧ (-1 ≤ cutK d.cut k - 1 → cutK d.cut (k + 1) = cutK d.cut k - 1) ∧ (0 ≤ d.cut → ((k + 1 : Nat) : Int) ≤ d.cut) from by
          unfold CutOk cutK; refine ⟨?_, ?_, ?_, ?_⟩ <;> (try split) <;> omega)
        have Hck := Lib.hid (show cutK d.cut k = cutK d.cut k from rfl)
        generalize cutK d.cut k = ck at c2 hcn hcnb hcr1 hcr2 Hnx HS
        obtain ⟨N, hN⟩ : ∃ N, N = (d.b ++ s.take k).length := ⟨_, rfl⟩
        have hl63 : N + 1 ≤ 140737488355328 := by rw [hN, List.length_append, List.length_take]; omega
        have HN := Lib.hid hN
        have HBuf := Lib.hid (fun W (hf : Fr (fun _ => False) wr W) => show Buf W v1 N (bytC (d.b ++ s.take k)) from by rw [hN]; exact HS.out.at_.buf.fr hf (fun _ _ h => h))
        have HF := Lib.hid (fun W wa (hf : Fr (fun _ => False) wr W) (hgr : W.grownBy wa v1.ownBlock) => show wa.cell? ⟨q, 0, none⟩ = some v1 ∧ wa.cell? ⟨q, 1, none⟩ = some (.bool false) ∧ wa.cell? ⟨q, 2, none⟩ = some (.int .i64 ck) ∧ wa.frozen? ⟨q, 0, none⟩ = false ∧ wa.frozen? ⟨q, 2, none⟩ = false from by
          have hfa : Fr (fun k => v1.ownBlock = some k) wr wa := (hf.mono (fun _ _ h => h.elim)).grown hgr (fun k hk => .inr hk)
          have qa := hfa.blk HS.out.at_.hd HS.out.at_.ne
          exact ⟨qa.cell 0, qa.cell 1, qa.cell 2, qa.frozen 0, qa.frozen 2⟩)
        clear hc hg hcut hkc hN
        go_wp2
        go_region_law ((refine step_append_buf (by rfl) (.tmp 30) (.tmp 34) _ (by rfl) i0 Tryd.underlying47 Hi.out Hz0.out Hz1.out Hz2.out v1 _ _ (by rfl) (HBuf.out _ (by repeat (first | exact Fr.refl _ _ | refine Fr.drew ?_ | refine Fr.alloc ?_ _))) wr.heap.size 0 1 (.int .u8 (c.toNat : Int)) (by rfl) ((Blk.new wr 5 #[.int .u8 (c.toNat : Int)]).cell 0) (by rfl) hl63 ?_; intro v2 wa hbuf2 hgr hmv; have hbf := hbuf2.form; rw [HN.out] at hbuf2; have HE := Lib.hid (fun c2 (hc2 : CutOk c2) => dw_step HS.out.at_ (by repeat (first | exact Fr.refl _ _ | refine Fr.drew ?_ | refine Fr.alloc ?_ _)) hgr hbuf2 hmv hc2); clear hbuf2 hmv; obtain ⟨A2, cc2, rfl, _, _, _, _⟩ := hbf; obtain ⟨y0, y1, y2, y3, y4⟩ := HF.out _ wa (by repeat (first | exact Fr.refl _ _ | refine Fr.drew ?_ | refine Fr.alloc ?_ _)) hgr; clear hgr))
        all_goals
          go_wp2
          go_roundw
          case rel =>
            obtain ⟨h1, h2, h3, h4⟩ := Hnx.out
            have e1 : max (-1) (ck - 1) = cutK d.cut (k + 1) := by
              rcases Int.lt_or_le (ck - 1) (-1) with h | h
              · rw [h2 h, Int.max_eq_left (by omega)]
              · rw [h3 h, Int.max_eq_right h]
            have e2 : d.b ++ s.take (k + 1) = (d.b ++ s.take k) ++ [c] := by rw [take_snoc Hc.out, List.append_assoc]
            refine ⟨k + 1, .slice A2 (N + 1) cc2, by omega, h4, by go_num, ?_⟩
            rw [e1, e2]
            exact HS.out.trans (HE.out _ h1)
          case measure => simp [intOf]; omega
    · obtain rfl : k = n := by omega
      have Hw := Lib.hid (show wrD d s = (⟨d.b ++ s, false, cutK d.cut k⟩, true) by
        rw [wrD_all Ho.out (by rw [← Hn.out]; omega), ← Hn.out]; rfl)
      have e : s.take k = s := List.take_of_length_le (by rw [← Hn.out]; exact Nat.le_refl _)
      have Hst := Lib.hid (show DStep w wr q v v1 ⟨d.b ++ s, false, cutK d.cut k⟩ by have := HS.out; rw [e] at this; exact this)
      clear e hkc
      go_wp2
      go_ret
      refine ⟨fun _ => rfl, fun h => (by rw [Hw.out] at h; cases h), v1, ?_⟩
      rw [Hw.out]; exact Hst.out
end Go.Proofs.YtfkklcmepcocoaaDoor
