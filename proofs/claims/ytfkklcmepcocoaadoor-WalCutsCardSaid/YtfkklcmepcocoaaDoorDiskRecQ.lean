/- wal.Recover by its contract. -/
import Derived.Test.YtfkklcmepcocoaaDoorDiskOpsQ
namespace Go.Proofs.YtfkklcmepcocoaaDoor
open Go.RowKit
set_option linter.unusedVariables false

theorem bytC_take (b : Bs) (k : Nat) : bytC (b.take k) = (bytC b).take k := by unfold bytC; rw [List.map_take]
theorem rec_done {w w2 : World} {q n c k : Nat} {v : Value} {d : Dk} {A : Option Addr} (h : DStep w w2 q v v ⟨d.b, false, -1⟩) (hv : v = .slice A n c) (hn : n = d.b.length) (hk : k ≤ n) (hm : n ≤ 65536) :
    DStep w (w2.setCell ⟨q, 0, none⟩ (.slice A k k)) q v (.slice A k k) ⟨d.b.take k, false, -1⟩ := by
  have hob : ∀ j, (Value.slice A k k).ownBlock = some j → v.ownBlock = some j := by
    intro j hj
    rw [hv]
    cases A with
    | none => cases hj
    | some a => exact hj
  obtain ⟨A', c', hv', _, _, hr, _⟩ := h.at_.buf.form
  rw [hv] at hv'
  injection hv' with e1 e2 e3
  subst e1
  dsimp only at hr
  rw [← hn] at hr
  have hr2 := hr.take hk
  rw [Nat.mul_one, ← bytC_take] at hr2
  have hl : (d.b.take k).length = k := by rw [List.length_take]; omega
  have hz := fr_set w2 q 0 (.slice A k k)
  refine ⟨⟨h.at_.hd.set_ 0 _, ⟨⟨A, k, by dsimp only; rw [hl], by dsimp only; omega, by unfold maxLen; omega, ?_, fun hlt => (by dsimp only at hlt; omega)⟩, fun j hj => ?_⟩, h.at_.ok⟩, Fr.trans h.fr (hz.mono (fun _ _ h => .inl h)) (fun _ _ h => h), fun j hj => .inl (hob j hj)⟩
  · dsimp only
    rw [hl]
    exact rd_fr (c := k) hr2 hz (fun j hj e => h.at_.ne (by rw [hob j hj, e]))
  · exact (h.at_.buf.row j (hob j hj)).set _
set_option maxHeartbeats 4000000 in
set_option maxRecDepth 100000 in
theorem drecover_any {es : Nat → Addr} {B q : Nat} {v : Value} {d : Dk} (w : World) (hW : WalW es B w) (hB : B ≤ w.heap.size) (hD : DiskAt w q v d) (hlo : DkLo B q v) (hd : d.b.length ≤ 65536) :
    Calls Tryd.prog 7 #[.pointer (some ⟨q, 0, none⟩)] w fun e w' => ∃ l k u v', e = .returned (.tuple #[u, .nilIface]) ∧ IsRead d.b l k ∧ w'.ownsRow w.heap.size 36 3 u l.length (enC l) ∧ DStep w w' q v v' ⟨d.b.take k, false, -1⟩ := by
  have Hon := Lib.hid (don_any w hD)
  have HW := Lib.hid (fun W (hb : Below B w W) => hW.below hb (Nat.le_refl _))
  have Hlo := Lib.hid hlo; have HB := Lib.hid hB; have H0 := Lib.hid hD
  clear hW hD hlo hB
  go_enter Tryd.func7, Tryd.ntmps7
  go_wp2_with fail
  refine Hon.out.mono ?_
  rintro e w1 ⟨rfl, hst⟩
  have HS1 := Lib.hid hst
  have HB1 := Lib.hid (hst.below Hlo.out HB.out)
  have c0 : w1.cell? ⟨q, 0, none⟩ = some v := hst.at_.hd.cell 0
  obtain ⟨A, c, hv, hnc, hcm, hr, _⟩ := hst.at_.buf.form
  dsimp only at hv hnc hr
  have hr2 := hr
  rw [bytC_nats] at hr
  have hcv := conv_bytes w1 A _ c _ hr (natsOf_256 d.b)
  rw [bytesOf_nats] at hcv
  have Hrd := Lib.hid (wread_any d.b (by omega) w1 (HW.out _ HB1.out) (Nat.le_trans HB.out HB1.out.size))
  rw [hv] at c0
  have Hv := Lib.hid hv
  obtain ⟨n, hn⟩ : ∃ n, n = d.b.length := ⟨_, rfl⟩
  rw [← hn] at c0 hcv hd hnc
  have Hn := Lib.hid hn
  have Hv2 := Lib.hid (show v = .slice A n c by rw [hn]; exact hv)
  clear hst hr hr2 hv hn
  generalize B8 d.b = sb at hcv Hrd
  go_wp2_with fail
  refine Hrd.out.mono ?_
  rintro e w2 ⟨l, k, u, rfl, hir, hown, hb2⟩
  have HI := Lib.hid hir
  have hkn : k ≤ n := by rw [Hn.out]; exact hir.le
  have HO := Lib.hid hown
  have HS2 := Lib.hid (HS1.out.behind hb2 (Nat.le_refl _))
  have c0 : w2.cell? ⟨q, 0, none⟩ = some (.slice A n c) := by rw [Hn.out, ← Hv.out]; exact HS2.out.at_.hd.cell 0
  have f0 := HS2.out.at_.hd.frozen 0
  obtain ⟨Au, cu, rfl, _, _, _⟩ := own_form hown
  clear hir hown hb2 hcv
  go_wp2
  go_ret2
  have hq := HS2.out.at_.hd
  refine ⟨l, k, _, _, rfl, HI.out, own_base (own_set HO.out (own_ne_blk HO.out hq (by decide)) _) HS1.out.fr.size, rec_done HS2.out Hv2.out Hn.out hkn hd⟩
end Go.Proofs.YtfkklcmepcocoaaDoor
