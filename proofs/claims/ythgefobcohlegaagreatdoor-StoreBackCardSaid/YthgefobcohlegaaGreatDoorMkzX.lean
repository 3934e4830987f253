/- A disk's own methods by contracts: write, On, Cut, Power, Bytes, Clear, NewDisk. -/
import Derived.Test.YthgefobcohlegaaGreatDoorMkiX
import Derived.Test.YthgefobcohlegaaGreatDoorMkfX
import Derived.Test.YthgefobcohlegaaGreatDoorMkeX
import Derived.BigQuiet
import Derived.Deep.RegionLaw
import Derived.Test.YthgefobcohlegaaGreatDoorMkwX
import Derived.Test.YthgefobcohlegaaGreatDoorSplitQX
namespace Go.Proofs.YthgefobcohlegaaGreatDoor
open Go.RowKit
set_option linter.unusedVariables false

/-- One byte more, and one fewer until power fails. -/
theorem dw_step {wr W wa : World} {q : Nat} {v1 v2 : Value} {d1 : Dk} {c : UInt8} {c2 : Int} (h : DiskAt wr q v1 d1) (hf : Fr (fun _ => False) wr W) (hgr : W.grownBy wa v1.ownBlock) (hb : Buf wa v2 (d1.b.length + 1) (bytC d1.b ++ [.int .u8 (c.toNat : Int)]))
    (hmv : ∀ k, v2.ownBlock = some k → v1.ownBlock = some k ∨ W.heap.size ≤ k) (hc : CutOk c2) :
    DStep wr ((wa.setCell ⟨q, 0, none⟩ v2).setCell ⟨q, 2, none⟩ (.int .i64 c2)) q v1 v2 ⟨d1.b ++ [c], d1.off, c2⟩ := by
  have hfa : Fr (fun k => v1.ownBlock = some k) wr wa := (hf.mono (fun _ _ h => h.elim)).grown hgr (fun k hk => .inr hk)
  have qa := hfa.blk h.hd h.ne
  have hz : Fr (fun k => k = q) wa ((wa.setCell ⟨q, 0, none⟩ v2).setCell ⟨q, 2, none⟩ (.int .i64 c2)) :=
    Fr.setCell (S := fun k => k = q) (Fr.setCell (S := fun k => k = q) (Fr.refl _ _) (p := ⟨q, 0, none⟩) (.inr rfl) v2) (p := ⟨q, 2, none⟩) (.inr rfl) _
  refine ⟨⟨(qa.set_ 0 v2).set_ 2 _, ?_, hc⟩, Fr.trans (hfa.mono fun k _ hk => .inr hk) hz (fun k _ hk => .inl hk), fun k hk => ?_⟩
  · have e1 : (d1.b ++ [c]).length = d1.b.length + 1 := by rw [List.length_append]; rfl
    have e2 : bytC (d1.b ++ [c]) = bytC d1.b ++ [.int .u8 (c.toNat : Int)] := by unfold bytC; rw [List.map_append]; rfl
    show Buf _ v2 (d1.b ++ [c]).length (bytC (d1.b ++ [c]))
    rw [e1, e2]
    exact hb.fr hz (fun k hk e => (hb.row k hk).ne_blk qa (by decide) e)
  · rcases hmv k hk with h1 | h1
    · exact .inl h1
    · exact .inr (Nat.le_trans hf.size h1)
/-- Two fields of a disk turn. -/
theorem dset {w : World} {q : Nat} {v : Value} {d d' : Dk} (h : DiskAt w q v d) (hb : d'.b = d.b) (hc : CutOk d'.cut) (wz : World) (hz : Fr (fun k => k = q) w wz) (hd : Blk wz q 71 #[v, .bool d'.off, .int .i64 d'.cut]) : DStep w wz q v v d' := by
  refine ⟨⟨hd, ?_, hc⟩, hz.mono (fun k _ hk => .inl hk), fun k hk => .inl hk⟩
  rw [hb]
  exact h.buf.fr hz (fun k hk e => h.ne (by rw [hk, e]))
theorem fr_set (w : World) (q i : Nat) (u : Value) : Fr (fun k => k = q) w (w.setCell ⟨q, i, none⟩ u) := Fr.setCell (S := fun k => k = q) (Fr.refl _ _) (p := ⟨q, i, none⟩) (.inr rfl) u
def WPost (es : Nat → Addr) (w : World) (q : Nat) (v : Value) (d : Dk) (s : Bs) (e : Ending) (w' : World) : Prop :=
  ((wrD d s).2 = true → e = .returned .nilIface) ∧ ((wrD d s).2 = false → e = .returned (sentV (es 9))) ∧ ∃ v', DStep w w' q v v' (wrD d s).1
set_option maxHeartbeats 4000000 in
set_option maxRecDepth 100000 in
theorem dwrite_off {es : Nat → Addr} {B q : Nat} {v : Value} {d : Dk} (s : Bs) (w : World) (hD : DiskAt w q v d) (hlo : DkLo B q v) (g1 : w.cell? ⟨gErr 9, 0, none⟩ = some (sentV (es 9))) (gB : gErr 9 < B) (hs : 1 ≤ s.length) (hs2 : s.length ≤ 100000) (ho : d.off = true) :
    Calls Tryz.prog 51 #[.pointer (some ⟨q, 0, none⟩), .string (B8 s)] w (WPost es w q v d s) := by
  have hsz : (B8 s).size = s.length := B8_size s
  obtain ⟨n, hn⟩ : ∃ n, n = s.length := ⟨_, rfl⟩
  rw [← hn] at hsz hs hs2
  have c1 : w.cell? ⟨q, 1, none⟩ = some (.bool true) := by rw [← ho]; exact hD.hd.cell 1
  have f1 := hD.hd.frozen 1
  have hq : B ≤ q := hlo q (.inl rfl)
  have hne : gErr 9 ≠ q := by omega
  have Hst := Lib.hid (show DStep w (w.setCell ⟨q, 1, none⟩ (.bool true)) q v v d from dset hD rfl hD.ok _ (fr_set w q 1 _) (by
    have := hD.hd.set_ 1 (.bool true)
    rw [ho]; rw [ho] at this; exact this))
  have Hw := Lib.hid (wrD_off ho s)
  have G1 : w.cell? ⟨1, 0, none⟩ = some (sentV (es 9)) := g1
  have hne2 : 1 ≠ q := hne
  have hn1 : (0 : Int) < n := by omega
  clear hD hlo g1 gB ho hn hne hq
  generalize B8 s = st at hsz
  go_enter Tryz.func51, Tryz.ntmps51
  go_wp2
  go_loopw [5, 8] (fun _ iv wr => iv = .int .i64 0 ∧ wr = w) (fun _ _ _ => 0)
  case atStart => exact ⟨rfl, rfl⟩
  case round =>
    obtain ⟨rfl, rfl⟩ := hrel
    go_wp2
    go_ret
    refine ⟨fun h => (by rw [Hw.out] at h; cases h), fun _ => rfl, v, ?_⟩
    rw [Hw.out]; exact Hst.out
/-- How much is left when k bytes are written. -/
def cutK (c : Int) (k : Nat) : Int := if c < 0 then -1 else c - k
set_option maxHeartbeats 4000000 in
set_option maxRecDepth 100000 in
theorem dwrite_on {es : Nat → Addr} {B q : Nat} {v : Value} {d : Dk} (s : Bs) (w : World) (hD : DiskAt w q v d) (hlo : DkLo B q v) (hB : B ≤ w.heap.size) (g1 : w.cell? ⟨gErr 9, 0, none⟩ = some (sentV (es 9))) (gB : gErr 9 < B) (hs2 : d.b.length + s.length ≤ 1000000) (ho : d.off = false) :
    Calls Tryz.prog 51 #[.pointer (some ⟨q, 0, none⟩), .string (B8 s)] w (WPost es w q v d s) := by
  have hsz : (B8 s).size = s.length := B8_size s
  have Hat := Lib.hid (fun i (h : i < (B8 s).size) => show ((B8 s)[i]).toNat = (s.getD i 0).toNat from B8_at s i h)
  obtain ⟨n, hn⟩ : ∃ n, n = s.length := ⟨_, rfl⟩
  rw [← hn] at hsz hs2
  have Hn := Lib.hid hn
  have H0 := Lib.hid hD; have Hlo := Lib.hid hlo; have Ho := Lib.hid ho
  have hok : CutOk d.cut := hD.ok
  have HG := Lib.hid (fun W (hb : Below B w W) => show W.cell? ⟨gErr 9, 0, none⟩ = some (sentV (es 9)) from (hb.cell (p := ⟨gErr 9, 0, none⟩) gB).trans g1)
  have hq : B ≤ q := hlo q (.inl rfl)
  have hne2 : 1 ≠ q := fun e => by have : gErr 9 = q := e; omega
  obtain ⟨i0, hi, hz0, hz1, hz2⟩ := info_parts infoU8
  have Hi := Lib.hid hi; have Hz0 := Lib.hid hz0; have Hz1 := Lib.hid hz1; have Hz2 := Lib.hid hz2
  have HB := Lib.hid hB
  generalize hst : B8 s = st at hsz Hat ⊢
  unfold CutOk at hok
  clear hD hlo g1 ho hn hi hz0 hz1 hz2 hB hst gB
  go_enter Tryz.func51, Tryz.ntmps51
  go_wp2
  go_loopw [5, 8] (fun _ iv wr => ∃ (k : Nat) (v1 : Value), k ≤ n ∧ (0 ≤ d.cut → (k : Int) ≤ d.cut) ∧ iv = .int .i64 k ∧ DStep w wr q v v1 ⟨d.b ++ s.take k, false, cutK d.cut k⟩) (fun _ iv _ => n - (intOf iv).toNat)
  case atStart =>
    refine ⟨0, v, Nat.zero_le _, fun h => h, rfl, ?_⟩
    have e : (⟨d.b ++ s.take 0, false, cutK d.cut 0⟩ : Dk) = d := by
      have e1 : cutK d.cut 0 = d.cut := by unfold cutK; split <;> omega
      rw [e1, ← Ho.out, List.take_zero, List.append_nil]
    rw [e]
    exact DStep.ofBelow H0.out (Below.refl _ _) (Nat.le_refl _)
  case round =>
    obtain ⟨k, v1, hk, hkc, rfl, hst⟩ := hrel
    have HS := Lib.hid hst
    have hbel := hst.below Hlo.out HB.out
    have G1 : wr.cell? ⟨1, 0, none⟩ = some (sentV (es 9)) := HG.out _ hbel
    have c0 : wr.cell? ⟨q, 0, none⟩ = some v1 := hst.at_.hd.cell 0
    have c1 : wr.cell? ⟨q, 1, none⟩ = some (.bool false) := hst.at_.hd.cell 1
    have c2 : wr.cell? ⟨q, 2, none⟩ = some (.int .i64 (cutK d.cut k)) := hst.at_.hd.cell 2
    have hql : q < wr.heap.size := hst.at_.hd.lt
    have f0 := hst.at_.hd.frozen 0; have f1 := hst.at_.hd.frozen 1; have f2 := hst.at_.hd.frozen 2
    clear hst hbel
    by_cases hkn : k < n
    · have hkn' : (k : Int) < n := by omega
      by_cases hcut : 0 ≤ d.cut ∧ d.cut = k
      · have hcz : cutK d.cut k = 0 := by unfold cutK; rw [if_neg (by omega)]; omega
        rw [hcz] at c2
        have Hst := Lib.hid (show DStep w (wr.setCell ⟨q, 1, none⟩ (.bool true)) q v v1 ⟨d.b ++ s.take k, true, 0⟩ from
          HS.out.trans (dset (d' := ⟨d.b ++ s.take k, true, 0⟩) HS.out.at_ rfl ⟨by show (-1 : Int) ≤ 0; decide, by show (0 : Int) < 9223372036854775808; decide⟩ _ (fr_set wr q 1 (.bool true)) (by
            have := HS.out.at_.hd.set_ 1 (.bool true)
            dsimp only at this
            rw [hcz] at this; exact this)))
        have Hw := Lib.hid (show wrD d s = (⟨d.b ++ s.take k, true, 0⟩, false) by
          have := wrD_cut Ho.out (s := s) hcut.1 (by rw [← Hn.out]; omega)
          rw [this]
          have e : d.cut.toNat = k := by omega
          rw [e])
        clear hcz hcut hkc
        go_wp2
        go_ret
        refine ⟨fun h => (by rw [Hw.out] at h; cases h), fun _ => rfl, v1, ?_⟩
        rw [Hw.out]; exact Hst.out
      · obtain ⟨c, hc⟩ : ∃ c, s[k]? = some c := ⟨_, List.getElem?_eq_getElem (by rw [← Hn.out]; exact hkn)⟩
        have hk1 : k < st.size := by omega
        have x0 := Hat.out k hk1
        have hg : s.getD k 0 = c := by rw [List.getD_eq_getElem?_getD, hc]; rfl
        rw [hg] at x0
        have Hc := Lib.hid hc
        have hcn : ¬ cutK d.cut k = 0 := by unfold cutK; split <;> omega
        have hcnb : (cutK d.cut k == 0) = false := by rw [beq_eq_false_iff_ne]; exact hcn
        have hcr : -1 ≤ cutK d.cut k ∧ cutK d.cut k < 9223372036854775808 := by
          unfold cutK; split <;> omega
        obtain ⟨hcr1, hcr2⟩ := hcr
        have Hnx := Lib.hid (show CutOk (cutK d.cut (k + 1)) ∧ (cutK d.cut k - 1 < -1 → cutK d.cut (k + 1) = -1) ∧ (-1 ≤ cutK d.cut k - 1 → cutK d.cut (k + 1) = cutK d.cut k - 1) ∧ (0 ≤ d.cut → ((k + 1 : Nat) : Int) ≤ d.cut) from by
          unfold CutOk cutK; refine ⟨?_, ?_, ?_, ?_⟩ <;> (try split) <;> omega)
        have Hck := Lib.hid (show cutK d.cut k = cutK d.cut k from rfl)
        generalize cutK d.cut k = ck at c2 hcn hcnb hcr1 hcr2 Hnx HS
        obtain ⟨N, hN⟩ : ∃ N, N = (d.b ++ s.take k).length := ⟨_, rfl⟩
        have hl63 : N + 1 ≤ 140737488355328 := by rw [hN, List.length_append, List.length_take]; omega
        have HN := Lib.hid hN
        have HBuf := Lib.hid (fun W (hf : Fr (fun _ => False) wr W) => show Buf W v1 N (bytC (d.b ++ s.take k)) from by rw [hN]; exact HS.out.at_.buf.fr hf (fun _ _ h => h))
        have HF := Lib.hid (fun W wa (hf : Fr (fun _ => False) wr W) (hgr : W.grownBy wa v1.ownBlock) => show wa.cell? ⟨q, 0, none⟩ = some v1 ∧ wa.cell? ⟨q, 1, none⟩ = some (.bool false) ∧ wa.cell? ⟨q, 2, none⟩ = some (.int .i64 ck) ∧ wa.frozen? ⟨q, 0, none⟩ = false ∧ wa.frozen? ⟨q, 2, none⟩ = false from by
          have hfa : Fr (fun k => v1.ownBlock = some k) wr wa := (hf.mono (fun _ _ h => h.elim)).grown hgr (fun k hk => .inr hk)
          have qa := hfa.blk HS.out.at_.hd HS.out.at_.ne
          exact ⟨qa.cell 0, qa.cell 1, qa.cell 2, qa.frozen 0, qa.frozen 2⟩)
        clear hc hg hcut hkc hN
        go_wp2
        go_region_law ((refine step_append_buf (by rfl) (.tmp 30) (.tmp 34) _ (by rfl) i0 Tryz.underlying69 Hi.out Hz0.out Hz1.out Hz2.out v1 _ _ (by rfl) (HBuf.out _ (by repeat (first | exact Fr.refl _ _ | refine Fr.drew ?_ | refine Fr.alloc ?_ _))) wr.heap.size 0 1 (.int .u8 (c.toNat : Int)) (by rfl) ((Blk.new wr 5 #[.int .u8 (c.toNat : Int)]).cell 0) (by rfl) hl63 ?_; intro v2 wa hbuf2 hgr hmv; have hbf := hbuf2.form; rw [HN.out] at hbuf2; have HE := Lib.hid (fun c2 (hc2 : CutOk c2) => dw_step HS.out.at_ (by repeat (first | exact Fr.refl _ _ | refine Fr.drew ?_ | refine Fr.alloc ?_ _)) hgr hbuf2 hmv hc2); clear hbuf2 hmv; obtain ⟨A2, cc2, rfl, _, _, _, _⟩ := hbf; obtain ⟨y0, y1, y2, y3, y4⟩ := HF.out _ wa (by repeat (first | exact Fr.refl _ _ | refine Fr.drew ?_ | refine Fr.alloc ?_ _)) hgr; clear hgr))
        all_goals
          go_wp2
          go_roundw
          case rel =>
            obtain ⟨h1, h2, h3, h4⟩ := Hnx.out
            have e1 : max (-1) (ck - 1) = cutK d.cut (k + 1) := by
              rcases Int.lt_or_le (ck - 1) (-1) with h | h
              · rw [h2 h, Int.max_eq_left (by omega)]
              · rw [h3 h, Int.max_eq_right h]
            have e2 : d.b ++ s.take (k + 1) = (d.b ++ s.take k) ++ [c] := by rw [take_snoc Hc.out, List.append_assoc]
            refine ⟨k + 1, .slice A2 (N + 1) cc2, by omega, h4, by go_num, ?_⟩
            rw [e1, e2]
            exact HS.out.trans (HE.out _ h1)
          case measure => simp [intOf]; omega
    · obtain rfl : k = n := by omega
      have Hw := Lib.hid (show wrD d s = (⟨d.b ++ s, false, cutK d.cut k⟩, true) by
        rw [wrD_all Ho.out (by rw [← Hn.out]; omega), ← Hn.out]; rfl)
      have e : s.take k = s := List.take_of_length_le (by rw [← Hn.out]; exact Nat.le_refl _)
      have Hst := Lib.hid (show DStep w wr q v v1 ⟨d.b ++ s, false, cutK d.cut k⟩ by have := HS.out; rw [e] at this; exact this)
      clear e hkc
      go_wp2
      go_ret
      refine ⟨fun _ => rfl, fun h => (by rw [Hw.out] at h; cases h), v1, ?_⟩
      rw [Hw.out]; exact Hst.out
end Go.Proofs.YthgefobcohlegaaGreatDoor

namespace Go.Proofs.YthgefobcohlegaaGreatDoor
open Go.RowKit
set_option linter.unusedVariables false

section
variable {es : Nat → Addr} {B q : Nat} {v : Value} {d : Dk}
theorem don_any (w : World) (hD : DiskAt w q v d) :
    Calls Tryz.prog 45 #[.pointer (some ⟨q, 0, none⟩)] w fun e w' => e = .returned (.tuple #[]) ∧ DStep w w' q v v ⟨d.b, false, -1⟩ := by
  have c1 : w.cell? ⟨q, 1, none⟩ = some (.bool d.off) := hD.hd.cell 1
  have c2 : w.cell? ⟨q, 2, none⟩ = some (.int .i64 d.cut) := hD.hd.cell 2
  have f1 := hD.hd.frozen 1; have f2 := hD.hd.frozen 2
  have Hst := Lib.hid (show DStep w ((w.setCell ⟨q, 1, none⟩ (.bool false)).setCell ⟨q, 2, none⟩ (.int .i64 (-1))) q v v ⟨d.b, false, -1⟩ from
    dset (d' := ⟨d.b, false, -1⟩) hD rfl ⟨by show (-1 : Int) ≤ -1; decide, by show (-1 : Int) < 9223372036854775808; decide⟩ _ ((fr_set w q 1 _).trans (fr_set _ q 2 _) (fun _ _ h => h)) ((hD.hd.set_ 1 (.bool false)).set_ 2 (.int .i64 (-1))))
  clear hD
  go_enter Tryz.func45, Tryz.ntmps45
  go_wp2
  go_end0
  exact ⟨rfl, Hst.out⟩
theorem dcut_ok (w : World) (hD : DiskAt w q v d) (n : Int) (hn : 0 ≤ n) (hx : n < 9223372036854775808) (ho : d.off = false) :
    Calls Tryz.prog 9 #[.pointer (some ⟨q, 0, none⟩), .int .i64 n] w fun e w' => e = .returned .nilIface ∧ DStep w w' q v v ⟨d.b, false, n⟩ := by
  have c1 : w.cell? ⟨q, 1, none⟩ = some (.bool false) := by rw [← ho]; exact hD.hd.cell 1
  have c2 : w.cell? ⟨q, 2, none⟩ = some (.int .i64 d.cut) := hD.hd.cell 2
  have f2 := hD.hd.frozen 2
  have hn2 : ¬ n < 0 := by omega
  have Hst := Lib.hid (show DStep w (w.setCell ⟨q, 2, none⟩ (.int .i64 n)) q v v ⟨d.b, false, n⟩ from
    dset (d' := ⟨d.b, false, n⟩) hD rfl ⟨by show (-1 : Int) ≤ n; omega, hx⟩ _ (fr_set w q 2 (.int .i64 n)) (by have := hD.hd.set_ 2 (.int .i64 n); rw [ho] at this; exact this))
  clear hD ho
  go_enter Tryz.func9, Tryz.ntmps9
  go_wp2
  go_ret
  exact ⟨rfl, Hst.out⟩
theorem dclear_off (w : World) (hD : DiskAt w q v d) (ho : d.off = true) (g1 : w.cell? ⟨gErr 9, 0, none⟩ = some (sentV (es 9))) :
    Calls Tryz.prog 66 #[.pointer (some ⟨q, 0, none⟩)] w fun e w' => e = .returned (sentV (es 9)) ∧ w = w' := by
  have G1 : w.cell? ⟨1, 0, none⟩ = some (sentV (es 9)) := g1
  have c1 : w.cell? ⟨q, 1, none⟩ = some (.bool true) := by rw [← ho]; exact hD.hd.cell 1
  clear g1 hD ho
  go_enter Tryz.func66, Tryz.ntmps66
  go_wp2
  go_ret
  exact ⟨rfl, rfl⟩
theorem dclear_ok (w : World) (hD : DiskAt w q v d) (ho : d.off = false) :
    Calls Tryz.prog 66 #[.pointer (some ⟨q, 0, none⟩)] w fun e w' => e = .returned .nilIface ∧ DStep w w' q v (.slice none 0 0) ⟨[], false, d.cut⟩ := by
  have c0 : w.cell? ⟨q, 0, none⟩ = some v := hD.hd.cell 0
  have c1 : w.cell? ⟨q, 1, none⟩ = some (.bool false) := by rw [← ho]; exact hD.hd.cell 1
  have f0 := hD.hd.frozen 0
  have Hst := Lib.hid (show DStep w (w.setCell ⟨q, 0, none⟩ (.slice none 0 0)) q v (.slice none 0 0) ⟨[], false, d.cut⟩ from by
    refine ⟨⟨?_, Buf.of_own (World.ownsRow_nil _ 0 _ 1), hD.ok⟩, (fr_set w q 0 _).mono (fun _ _ h => .inl h), fun k hk => (by cases hk)⟩
    have := hD.hd.set_ 0 (.slice none 0 0)
    rw [ho] at this; exact this)
  obtain ⟨A, c, rfl, _⟩ := hD.buf.form
  clear hD ho
  go_enter Tryz.func66, Tryz.ntmps66
  go_wp2
  go_ret
  exact ⟨rfl, Hst.out⟩
end
set_option maxRecDepth 100000 in
theorem dnew_any (b : Bs) (hl : b.length ≤ 65536) (w : World) :
    Calls Tryz.prog 7 #[.string (B8 b)] w fun e w' => ∃ q v, e = .returned (.tuple #[.pointer (some ⟨q, 0, none⟩), .nilIface]) ∧ DiskAt w' q v ⟨b, false, -1⟩ ∧ DkLo w.heap.size q v ∧ Below w.heap.size w w' := by
  have hsz : (B8 b).size = b.length := B8_size b
  have hcv := Lib.run_convert_string_bytes (P := Tryz.prog) w 9 69 5 (B8 b) Tryz.underlying9 Tryz.underlying69 Tryz.underlying5
  have hbuf := Buf.conv w (B8 b) (by omega)
  rw [hsz, B8_data] at hbuf
  have hb1 := bytesW_below w 5 (B8 b)
  have hs1 := Lib.bytesWorld_size w 5 (B8 b)
  obtain ⟨W, hW⟩ : ∃ W, W = Lib.bytesWorld w 5 (B8 b) := ⟨_, rfl⟩
  obtain ⟨cp, hcp⟩ : ∃ cp, cp = grownCap w (B8 b).size 0 5 := ⟨_, rfl⟩
  rw [← hW] at hbuf hb1 hs1 hcv
  rw [← hsz, ← hcp, hsz] at hbuf
  rw [← hcp, hsz] at hcv
  have Hfin := Lib.hid (show DiskAt (W.alloc (.cells #[.slice (some ⟨w.heap.size, 0, none⟩) b.length cp, .bool false, .int .i64 (-1)] 71)) W.heap.size (.slice (some ⟨w.heap.size, 0, none⟩) b.length cp) ⟨b, false, -1⟩ ∧ DkLo w.heap.size W.heap.size (.slice (some ⟨w.heap.size, 0, none⟩) b.length cp) ∧ Below w.heap.size w (W.alloc (.cells #[.slice (some ⟨w.heap.size, 0, none⟩) b.length cp, .bool false, .int .i64 (-1)] 71)) from by
    refine ⟨⟨Blk.new _ _ _, hbuf.fr (Fr.ofB (Below.alloc (Below.refl W.heap.size W) (Nat.le_refl _) _) (Nat.le_refl _)) (fun _ _ h => h), by show (-1 : Int) ≤ -1; decide, by show (-1 : Int) < 9223372036854775808; decide⟩, ?_, Below.alloc hb1 hb1.size _⟩
    rintro k (rfl | hk)
    · omega
    · have : w.heap.size = k := by simpa [Value.ownBlock] using hk
      omega)
  clear hbuf hb1 hW hcp
  generalize hst : B8 b = st at hsz hcv ⊢
  have hl2 : st.size ≤ 65536 := by omega
  generalize b.length = n at hsz hl Hfin hcv
  clear hst
  go_enter Tryz.func7, Tryz.ntmps7
  go_wp2
  go_ret2
  have h := Hfin.out
  rw [hs1] at h
  exact ⟨_, _, rfl, h.1, h.2.1, h.2.2⟩
end Go.Proofs.YthgefobcohlegaaGreatDoor

namespace Go.Proofs.YthgefobcohlegaaGreatDoor
open Go.RowKit
set_option linter.unusedVariables false

theorem conv_n (W : World) (b : Nat) (l : List Nat) (cs : Array Value) (h : Blk W b 5 cs) (hcs : cs.toList = l.map fun x : Nat => Value.int .u8 (x : Int)) (hl : ∀ x ∈ l, x < 256) :
    (convert 69 9 (.slice (some ⟨b, 0, none⟩) l.length l.length)).run Tryz.prog W = .ok (.string (bytesOf l)) W :=
  conv_bytes W (some ⟨b, 0, none⟩) l.length l.length l (B := W.heap.size) ⟨by simp, fun _ => ⟨_, _, rfl, h.lt, fun j v hv => by rw [Nat.zero_add, h.cell, ← Array.getElem?_toList, hcs]; exact hv⟩⟩ hl
def sb_ok (s : ByteArray) (n : Nat) : Prop := s.size = n
theorem crc4_eq (n : Nat) (h : n < 4294967296) : bytesOf [n % 256, n / 256 % 256, n / 65536 % 256, n / 16777216 % 256] = B8 (crc4 n) := by
  unfold bytesOf crc4
  simp only [List.map_cons, List.map_nil]
theorem len2_eq (n : Nat) : bytesOf [n / 256 % 256, n % 256] = B8 (len2 n) := by
  unfold bytesOf len2
  simp only [List.map_cons, List.map_nil]
set_option maxHeartbeats 4000000 in
set_option maxRecDepth 100000 in
theorem record_any {es : Nat → Addr} {B : Nat} (nm : Bs) (t : Int) (bit : Nat) (hn : nm.length ≤ 100000) (ht : t.natAbs < 10 ^ 17) (hbit : bit < 18446744073709551616) (w : World) (hW : WalW es B w) (hB : B ≤ w.heap.size) :
    Calls Tryz.prog 50 #[.string (B8 nm), .agg #[.int .i64 t, .int .u64 (bit : Int)]] w fun e w' => e = .returned (.string (B8 (recL ⟨nm, t, bit⟩))) ∧ Below w.heap.size w w' := by
  obtain ⟨f, hf⟩ : ∃ f, f = w.heap.size := ⟨_, rfl⟩
  have hwa : Below w.heap.size w (w.alloc (.cells #[.int .i64 t, .int .u64 (bit : Int)] 39)) := Below.alloc (Below.refl _ _) (Nat.le_refl _) _
  have hk := Blk.new w 39 #[.int .i64 t, .int .u64 (bit : Int)]
  rw [← hf] at hk
  have hil := itoa_len (n := t) (k := 17) (by decide) ht
  have hsi : (B8 (Lib.itoa t)).size ≤ 18 := by rw [B8_size]; exact hil
  have hsn : (B8 nm).size ≤ 100000 := by rw [B8_size]; exact hn
  have hsh : (B8 (hexK 16 bit)).size ≤ 16 := by rw [B8_size, hexK_len]; exact Nat.le_refl _
  have Hbody := Lib.hid (show B8 nm ++ ⟨#[64]⟩ ++ B8 (Lib.itoa t) ++ ⟨#[61]⟩ ++ B8 (hexK 16 bit) = B8 (bodyL ⟨nm, t, bit⟩) by
    rw [show (⟨#[64]⟩ : ByteArray) = B8 [64] from rfl, show (⟨#[61]⟩ : ByteArray) = B8 [61] from rfl, B8_append, B8_append, B8_append, B8_append]
    congr 1
    unfold bodyL
    simp)
  have Hit := Lib.hid (fun W (hb : Below w.heap.size w W) => itoa_any t ht W (hW.below hb hB))
  have Hhx := Lib.hid (fun W (hb : Below w.heap.size w W) => hex_any bit hbit W (hW.below hb hB).tab (Nat.lt_of_lt_of_le hW.tablt (Nat.le_trans hB hb.size)))
  have HWa := Lib.hid hwa; have HK := Lib.hid hk
  have Hrec := Lib.hid (show recL ⟨nm, t, bit⟩ = recB (bodyL ⟨nm, t, bit⟩) from rfl)
  have hbl : (bodyL ⟨nm, t, bit⟩).length ≤ 100036 := by
    unfold bodyL
    simp only [List.length_append, List.length_cons, hexK_len]
    omega
  clear hW hwa hk hil
  generalize bodyL ⟨nm, t, bit⟩ = body at Hbody Hrec hbl
  generalize B8 (Lib.itoa t) = si at hsi Hbody Hit
  generalize B8 (hexK 16 bit) = sh at hsh Hbody Hhx
  generalize B8 nm = sn at hsn Hbody ⊢
  go_enter Tryz.func50, Tryz.ntmps50
  go_wp2_with fail
  rw [← hf]
  have hfw : w.heap.size ≤ f := by omega
  clear hf
  have HKd := Lib.hid (show Blk (w.alloc (.cells #[.int .i64 t, .int .u64 (bit : Int)] 39)).drew f 39 #[.int .i64 t, .int .u64 (bit : Int)] from HK.out)
  have HWd := Lib.hid (show Below w.heap.size w (w.alloc (.cells #[.int .i64 t, .int .u64 (bit : Int)] 39)).drew from HWa.out.drew)
  have HKc := Lib.hid (fun W (hb : Blk W f 39 #[.int .i64 t, .int .u64 (bit : Int)]) => show W.cell? ⟨f, 0, none⟩ = some (.int .i64 t) ∧ W.cell? ⟨f, 1, none⟩ = some (.int .u64 (bit : Int)) from ⟨hb.cell 0, hb.cell 1⟩)
  have c0 := (HKc.out _ HK.out).1
  have c1 := (HKc.out _ HK.out).2
  have n1 : ¬ 9223372036854775807 < sn.size + 1 := by omega
  have n2 : ¬ 9223372036854775807 < sn.size + 1 + si.size := by omega
  have n3 : ¬ 9223372036854775807 < sn.size + 1 + si.size + 1 := by omega
  have n4 : ¬ 9223372036854775807 < sn.size + 1 + si.size + 1 + sh.size := by omega
  have hsz := HWa.out.size
  generalize hwx : w.alloc (.cells #[.int .i64 t, .int .u64 (bit : Int)] 39) = wx at HK HKd HWa HWd c0 c1 hsz
  clear hwx
  go_region_held3 (fun w' => w'.cell? ⟨f, 0, none⟩ = some (.int .i64 t) ∧ w'.cell? ⟨f, 1, none⟩ = some (.int .u64 (bit : Int)))
    (first | with_reducible exact HKc.out _ HKd.out | with_reducible exact HKc.out _ K4.out | with_reducible exact HKc.out _ K5.out)
    (first
      | (go_at_call 77; refine (Hit.out _ HWd.out).mono ?_; rintro e w4 ⟨rfl, hb⟩; have B4 := Lib.hid (Below.call HWd.out hb HWd.out.size); have K4 := Lib.hid (HKd.out.below hb HKd.out.lt); clear hb)
      | (go_at_call 78; refine (Hhx.out _ B4.out).mono ?_; rintro e w5 ⟨rfl, hb⟩; have B5 := Lib.hid (Below.call B4.out hb B4.out.size); have K5 := Lib.hid (K4.out.below hb K4.out.lt); clear hb))
  rw [Hbody.out]
  have Hsum := Lib.hid (fun W => sum_any (natsOf body) (natsOf_256 body) (by unfold natsOf; rw [List.length_map]; omega) W)
  rw [bytesOf_nats] at Hsum
  have hn32 := sumL_lt (natsOf body)
  obtain ⟨n, hnn⟩ : ∃ n, n = sumL (natsOf body) := ⟨_, rfl⟩
  rw [← hnn] at Hsum hn32
  obtain ⟨ln, hln⟩ : ∃ ln, ln = body.length := ⟨_, rfl⟩
  have hls : (B8 body).size = ln := by rw [B8_size, hln]
  rw [← hln] at hbl
  have Hres := Lib.hid (show bytesOf [ln / 256 % 256, ln % 256] ++ B8 body ++ bytesOf [n % 256, n / 256 % 256, n / 65536 % 256, n / 16777216 % 256] = B8 (recB body) by
    rw [len2_eq, crc4_eq n hn32, B8_append, B8_append, hln, hnn]
    unfold recB
    rw [List.append_assoc])
  have hz1 : (bytesOf [ln / 256 % 256, ln % 256]).size = 2 := rfl
  have hz2 : (bytesOf [n % 256, n / 256 % 256, n / 65536 % 256, n / 16777216 % 256]).size = 4 := rfl
  obtain ⟨l1, h1⟩ : ∃ b, b = ln / 256 := ⟨_, rfl⟩
  have e1 : (ln : Int) / 256 = (l1 : Int) := by omega
  obtain ⟨p1, hp1⟩ : ∃ q, q = l1 % 256 := ⟨_, rfl⟩
  obtain ⟨p0, hp0⟩ : ∃ q, q = ln % 256 := ⟨_, rfl⟩
  have f1 : IntKind.u8.wrap (l1 : Int) = (p1 : Int) := by rw [IntKind.wrap_u8]; omega
  have f0 : IntKind.u8.wrap (ln : Int) = (p0 : Int) := by rw [IntKind.wrap_u8]; omega
  obtain ⟨b3, k3⟩ : ∃ b, b = n / 16777216 := ⟨_, rfl⟩
  obtain ⟨b2, k2⟩ : ∃ b, b = n / 65536 := ⟨_, rfl⟩
  obtain ⟨b1, k1⟩ : ∃ b, b = n / 256 := ⟨_, rfl⟩
  have d3 : (n : Int) / 16777216 = (b3 : Int) := by omega
  have d2 : (n : Int) / 65536 = (b2 : Int) := by omega
  have d1 : (n : Int) / 256 = (b1 : Int) := by omega
  obtain ⟨q3, hq3⟩ : ∃ q, q = b3 % 256 := ⟨_, rfl⟩
  obtain ⟨q2, hq2⟩ : ∃ q, q = b2 % 256 := ⟨_, rfl⟩
  obtain ⟨q1, hq1⟩ : ∃ q, q = b1 % 256 := ⟨_, rfl⟩
  obtain ⟨q0, hq0⟩ : ∃ q, q = n % 256 := ⟨_, rfl⟩
  have g3 : IntKind.u8.wrap (b3 : Int) = (q3 : Int) := by rw [IntKind.wrap_u8]; omega
  have g2 : IntKind.u8.wrap (b2 : Int) = (q2 : Int) := by rw [IntKind.wrap_u8]; omega
  have g1 : IntKind.u8.wrap (b1 : Int) = (q1 : Int) := by rw [IntKind.wrap_u8]; omega
  have g0 : IntKind.u8.wrap (n : Int) = (q0 : Int) := by rw [IntKind.wrap_u8]; omega
  rw [← h1, ← hp1, ← hp0, ← k3, ← k2, ← k1, ← hq3, ← hq2, ← hq1, ← hq0] at Hres
  have hv1 : (convert 69 9 (.slice (some ⟨w5.heap.size, 0, none⟩) 2 2)).run Tryz.prog (w5.alloc (.cells #[.int .u8 (p1 : Int), .int .u8 (p0 : Int)] 5)) = .ok (.string (bytesOf [p1, p0])) (w5.alloc (.cells #[.int .u8 (p1 : Int), .int .u8 (p0 : Int)] 5)) := conv_n (w5.alloc (.cells #[.int .u8 (p1 : Int), .int .u8 (p0 : Int)] 5)) w5.heap.size [p1, p0] _ (Blk.new _ _ _) rfl (by intro x hx; simp at hx; omega)
  have hv2 : (convert 69 9 (.slice (some ⟨w5.heap.size + 1, 0, none⟩) 4 4)).run Tryz.prog ((w5.alloc (.cells #[.int .u8 (p1 : Int), .int .u8 (p0 : Int)] 5)).alloc (.cells #[.int .u8 (q0 : Int), .int .u8 (q1 : Int), .int .u8 (q2 : Int), .int .u8 (q3 : Int)] 5)) = .ok (.string (bytesOf [q0, q1, q2, q3])) ((w5.alloc (.cells #[.int .u8 (p1 : Int), .int .u8 (p0 : Int)] 5)).alloc (.cells #[.int .u8 (q0 : Int), .int .u8 (q1 : Int), .int .u8 (q2 : Int), .int .u8 (q3 : Int)] 5)) := conv_n ((w5.alloc (.cells #[.int .u8 (p1 : Int), .int .u8 (p0 : Int)] 5)).alloc (.cells #[.int .u8 (q0 : Int), .int .u8 (q1 : Int), .int .u8 (q2 : Int), .int .u8 (q3 : Int)] 5)) (w5.heap.size + 1) [q0, q1, q2, q3] _ (by have := Blk.new (w5.alloc (.cells #[.int .u8 (p1 : Int), .int .u8 (p0 : Int)] 5)) 5 #[.int .u8 (q0 : Int), .int .u8 (q1 : Int), .int .u8 (q2 : Int), .int .u8 (q3 : Int)]; rw [World.size_alloc] at this; exact this) rfl (by intro x hx; simp at hx; omega)
  have hbd : sb_ok (B8 body) ln := hls
  have s1 : (bytesOf [p1, p0]).size = 2 := rfl
  have s2 : (bytesOf [q0, q1, q2, q3]).size = 4 := rfl
  generalize hres : B8 (recB body) = res at Hres
  have Hrs := Lib.hid hres
  clear hres
  generalize B8 body = sb at Hsum Hres hbd hls ⊢
  generalize bytesOf [p1, p0] = t1 at hv1 s1 Hres
  generalize bytesOf [q0, q1, q2, q3] = t2 at hv2 s2 Hres
  have HS1 := Lib.hid s1; have HS2 := Lib.hid s2
  have m1 : ¬ 9223372036854775807 < t1.size + sb.size := by omega
  have m2 : ¬ 9223372036854775807 < t1.size + sb.size + t2.size := by omega
  have hlsz : (sb.size : Int) = (ln : Int) := by rw [hls]
  clear hq3 hq2 hq1 hq0 k3 k2 k1 h1 hp1 hp0 hz1 hz2 hnn hln s1 s2 hbd hls n1 n2 n3 n4 hsn hsi hsh
  go_wp2_with fail
  refine (Hsum.out _).mono ?_
  rintro e w6 ⟨rfl, rfl⟩
  go_wp2
  go_ret
  refine ⟨by rw [Hrec.out, Hrs.out, ← Hres.out]; rfl, ?_⟩
  have hs5 := B5.out.size
  exact Below.alloc (Below.alloc B5.out hs5 _) (by simp; omega) _
end Go.Proofs.YthgefobcohlegaaGreatDoor

namespace Go.Proofs.YthgefobcohlegaaGreatDoor
open Go.RowKit Go.Shelf
set_option linter.unusedVariables false

def cutG (c : UInt8) : Bs → Option Lb
  | [] => none
  | x :: xs => if x = c then some ([], xs) else (cutG c xs).map fun q => (x :: q.1, q.2)
theorem cutG_some {c : UInt8} : ∀ {p : Bs} {q : Lb}, cutG c p = some q → p = q.1 ++ c :: q.2 ∧ c ∉ q.1
  | [], _, h => by cases h
  | x :: xs, q, h => by
    unfold cutG at h
    split at h
    · rename_i hx
      injection h with h
      subst h; subst hx
      exact ⟨rfl, fun h => by cases h⟩
    · rename_i hx
      cases hc : cutG c xs with
      | none => rw [hc] at h; cases h
      | some r =>
        rw [hc] at h
        injection h with h
        subst h
        obtain ⟨h1, h2⟩ := cutG_some hc
        refine ⟨by rw [List.cons_append, ← h1], fun hm => ?_⟩
        rcases List.mem_cons.1 hm with e | hm
        · exact hx e.symm
        · exact h2 hm
theorem cutG_mk {c : UInt8} : ∀ (a b : Bs), c ∉ a → cutG c (a ++ c :: b) = some (a, b)
  | [], b, _ => by unfold cutG; rw [List.nil_append]; simp
  | x :: a, b, h => by
    have hx : x ≠ c := fun e => h (by rw [e]; exact List.mem_cons_self)
    rw [List.cons_append]
    unfold cutG
    rw [if_neg hx, cutG_mk a b (fun m => h (List.mem_cons_of_mem _ m))]; rfl
theorem indexG_none {c : UInt8} : ∀ {p : Bs}, cutG c p = none → Lib.indexByte p c = -1
  | [], _ => rfl
  | x :: xs, h => by
    unfold cutG at h
    split at h
    · cases h
    · rename_i hx
      have h2 : cutG c xs = none := by
        cases hc : cutG c xs with
        | none => rfl
        | some r => rw [hc] at h; cases h
      unfold Lib.indexByte
      rw [indexG_none h2]
      have : (x == c) = false := by rw [beq_eq_false_iff_ne]; exact hx
      rw [this]; rfl
theorem indexG_some {c : UInt8} : ∀ {p : Bs} {q : Lb}, cutG c p = some q → Lib.indexByte p c = q.1.length
  | [], _, h => by cases h
  | x :: xs, q, h => by
    unfold cutG at h
    split at h
    · rename_i hx
      injection h with h
      subst h; subst hx
      unfold Lib.indexByte
      simp
    · rename_i hx
      cases hc : cutG c xs with
      | none => rw [hc] at h; cases h
      | some r =>
        rw [hc] at h
        injection h with h
        subst h
        unfold Lib.indexByte
        rw [indexG_some hc]
        have h1 : (x == c) = false := by rw [beq_eq_false_iff_ne]; exact hx
        have h2 : (((r.1.length : Nat) : Int) == -1) = false := by rw [beq_eq_false_iff_ne]; omega
        rw [h1, h2]; simp
theorem cutg_none (c : UInt8) (p : Bs) (h : cutG c p = none) (w : World) :
    Calls Tryz.prog 48 #[.string (B8 p), .string ⟨#[c]⟩] w fun e w' => e = .returned (.tuple #[.string (B8 p), .string ⟨#[]⟩, .bool false]) ∧ Below w.heap.size w w' := by
  have Hi := Lib.hid (fun W => Tryz.stringslite_Index_one (B8 p) c W)
  rw [B8_data, indexG_none h] at Hi
  generalize B8 p = st at Hi ⊢
  generalize (⟨#[c]⟩ : ByteArray) = sc at Hi ⊢
  clear h
  go_enter Tryz.func48, Tryz.ntmps48
  go_wp2_with (first | (go_at_call 106; refine (Hi.out _).mono ?_; rintro e w' ⟨rfl, rfl⟩) | go_in)
  go_ret3
  exact ⟨rfl, Below.refl _ _⟩
theorem cutg_in (c : UInt8) (p : Bs) (q : Lb) (h : cutG c p = some q) (hl : p.length ≤ 1000000) (w : World) :
    Calls Tryz.prog 74 #[.string (B8 p), .string ⟨#[c]⟩] w fun e w' => e = .returned (.tuple #[.string (B8 q.1), .string (B8 q.2), .bool true]) ∧ Below w.heap.size w w' := by
  have Hi := Lib.hid (fun W => Tryz.stringslite_Index_one (B8 p) c W)
  rw [B8_data, indexG_some h] at Hi
  have hp := (cutG_some h).1
  have hlen : p.length = q.1.length + (q.2.length + 1) := by rw [hp, List.length_append, List.length_cons]
  have x1 : (B8 p).extract 0 q.1.length = B8 q.1 := by rw [B8_extract, hp, List.drop_zero, List.take_left]
  have x2 : (B8 p).extract (q.1.length + 1) p.length = B8 q.2 := by
    rw [B8_extract, List.take_length, hp]
    congr 1
    rw [show q.1 ++ c :: q.2 = (q.1 ++ [c]) ++ q.2 by simp, show q.1.length + 1 = (q.1 ++ [c]).length by simp, List.drop_left]
  have hsz : (B8 p).size = p.length := B8_size p
  obtain ⟨m, hm⟩ : ∃ m, m = q.1.length := ⟨_, rfl⟩
  obtain ⟨n, hn⟩ : ∃ n, n = p.length := ⟨_, rfl⟩
  rw [← hm] at Hi x1 x2 hlen
  rw [← hn] at x2 hsz hl hlen
  have hmn : m + 1 ≤ n := by omega
  have hmn' : (m : Int) + 1 ≤ n := by omega
  have X1 := Lib.hid x1; have X2 := Lib.hid x2
  have hs1 : (⟨#[c]⟩ : ByteArray).size = 1 := rfl
  generalize B8 p = st at Hi X1 X2 hsz ⊢
  generalize B8 q.1 = s1 at X1 ⊢
  generalize B8 q.2 = s2 at X2 ⊢
  generalize (⟨#[c]⟩ : ByteArray) = sc at Hi hs1 ⊢
  have n1 : IntKind.i64.wrap ((m : Int) + 1) = (m : Int) + 1 := by rw [IntKind.wrap_i64]; omega
  clear h hp x1 x2 hlen hm hn
  go_enter Tryz.func74, Tryz.ntmps74
  go_wp2_with fail
  refine (Hi.out _).mono ?_
  rintro e w' ⟨rfl, rfl⟩
  have E1 := X1.out; have E2 := X2.out
  go_wp2
  go_quiet (fail)
  go_wp2
  go_ret3
  exact ⟨rfl, Below.drewN (Below.refl _ _) _⟩
theorem cutg_some (c : UInt8) (p : Bs) (q : Lb) (h : cutG c p = some q) (hl : p.length ≤ 1000000) (w : World) :
    Calls Tryz.prog 48 #[.string (B8 p), .string ⟨#[c]⟩] w fun e w' => e = .returned (.tuple #[.string (B8 q.1), .string (B8 q.2), .bool true]) ∧ Below w.heap.size w w' := by
  have Hi := Lib.hid (cutg_in c p q h hl w)
  clear h hl
  generalize (⟨#[c]⟩ : ByteArray) = sc at Hi ⊢
  go_enter Tryz.func48, Tryz.ntmps48
  go_wp2_with fail
  refine Hi.out.mono ?_
  rintro e w' ⟨rfl, hb⟩
  have HB := Lib.hid hb; clear hb
  go_wp2
  go_ret3
  exact ⟨rfl, HB.out⟩
/-- The three answers of Cut. -/
def cutA3 (c : UInt8) (p : Bs) : Bs × Bs × Bool := match cutG c p with
  | none => (p, [], false)
  | some q => (q.1, q.2, true)
theorem cutg_any (c : UInt8) (p : Bs) (hl : p.length ≤ 1000000) (w : World) :
    Calls Tryz.prog 48 #[.string (B8 p), .string ⟨#[c]⟩] w fun e w' => e = .returned (.tuple #[.string (B8 (cutA3 c p).1), .string (B8 (cutA3 c p).2.1), .bool (cutA3 c p).2.2]) ∧ Below w.heap.size w w' := by
  unfold cutA3
  cases h : cutG c p with
  | none => exact cutg_none c p h w
  | some q => exact cutg_some c p q h hl w
theorem cutA3_len (c : UInt8) (p : Bs) : (cutA3 c p).1.length ≤ p.length ∧ (cutA3 c p).2.1.length ≤ p.length := by
  unfold cutA3
  cases h : cutG c p with
  | none => exact ⟨Nat.le_refl _, Nat.zero_le _⟩
  | some q =>
    have := (cutG_some h).1
    have e := congrArg List.length this
    rw [List.length_append, List.length_cons] at e
    dsimp only
    omega
theorem cutA3_mk {c : UInt8} {a b : Bs} (h : c ∉ a) : cutA3 c (a ++ c :: b) = (a, b, true) := by
  unfold cutA3
  rw [cutG_mk a b h]
end Go.Proofs.YthgefobcohlegaaGreatDoor
