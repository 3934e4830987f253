/- A disk's other methods by contracts: On, Cut, Power, Bytes, Clear, NewDisk. -/
import Derived.Test.YtfkklcmepcocoaaDoorDiskQ
namespace Go.Proofs.YtfkklcmepcocoaaDoor
open Go.RowKit
set_option linter.unusedVariables false

section
variable {es : Nat → Addr} {B q : Nat} {v : Value} {d : Dk}
theorem don_any (w : World) (hD : DiskAt w q v d) :
    Calls Tryd.prog 15 #[.pointer (some ⟨q, 0, none⟩)] w fun e w' => e = .returned (.tuple #[]) ∧ DStep w w' q v v ⟨d.b, false, -1⟩ := by
  have c1 : w.cell? ⟨q, 1, none⟩ = some (.bool d.off) := hD.hd.cell 1
  have c2 : w.cell? ⟨q, 2, none⟩ = some (.int .i64 d.cut) := hD.hd.cell 2
  have f1 := hD.hd.frozen 1; have f2 := hD.hd.frozen 2
  have Hst := Lib.hid (show DStep w ((w.setCell ⟨q, 1, none⟩ (.bool false)).setCell ⟨q, 2, none⟩ (.int .i64 (-1))) q v v ⟨d.b, false, -1⟩ from
    dset (d' := ⟨d.b, false, -1⟩) hD rfl ⟨by show (-1 : Int) ≤ -1; decide, by show (-1 : Int) < 9223372036854775808; decide⟩ _ ((fr_set w q 1 _).trans (fr_set _ q 2 _) (fun _ _ h => h)) ((hD.hd.set_ 1 (.bool false)).set_ 2 (.int .i64 (-1))))
  clear hD
  go_enter Tryd.func15, Tryd.ntmps15
  go_wp2
  go_end0
  exact ⟨rfl, Hst.out⟩
theorem dbytes_any (w : World) (hD : DiskAt w q v d) :
    Calls Tryd.prog 8 #[.pointer (some ⟨q, 0, none⟩)] w fun e w' => e = .returned (.string (B8 d.b)) ∧ w = w' := by
  have c0 : w.cell? ⟨q, 0, none⟩ = some v := hD.hd.cell 0
  obtain ⟨A, c, rfl, _, _, hr, _⟩ := hD.buf.form
  rw [bytC_nats] at hr
  have hc := conv_bytes w A _ c _ hr (natsOf_256 d.b)
  rw [bytesOf_nats] at hc
  clear hD hr
  generalize B8 d.b = sb at hc ⊢
  generalize d.b.length = n at c0 hc
  go_enter Tryd.func8, Tryd.ntmps8
  go_wp2
  go_ret
  exact ⟨rfl, rfl⟩
theorem dcut_neg (w : World) (n : Int) (hn : n < 0) (g1 : w.cell? ⟨gErr 1, 0, none⟩ = some (sentV (es 1))) :
    Calls Tryd.prog 10 #[.pointer (some ⟨q, 0, none⟩), .int .i64 n] w fun e w' => e = .returned (sentV (es 1)) ∧ w = w' := by
  have G1 : w.cell? ⟨0, 0, none⟩ = some (sentV (es 1)) := g1
  clear g1
  go_enter Tryd.func10, Tryd.ntmps10
  go_wp2
  go_ret
  exact ⟨rfl, rfl⟩
theorem dcut_off (w : World) (hD : DiskAt w q v d) (n : Int) (hn : 0 ≤ n) (ho : d.off = true) (g1 : w.cell? ⟨gErr 9, 0, none⟩ = some (sentV (es 9))) :
    Calls Tryd.prog 10 #[.pointer (some ⟨q, 0, none⟩), .int .i64 n] w fun e w' => e = .returned (sentV (es 9)) ∧ w = w' := by
  have G1 : w.cell? ⟨2, 0, none⟩ = some (sentV (es 9)) := g1
  have c1 : w.cell? ⟨q, 1, none⟩ = some (.bool true) := by rw [← ho]; exact hD.hd.cell 1
  have hn2 : ¬ n < 0 := by omega
  clear g1 hD ho
  go_enter Tryd.func10, Tryd.ntmps10
  go_wp2
  go_ret
  exact ⟨rfl, rfl⟩
theorem dcut_ok (w : World) (hD : DiskAt w q v d) (n : Int) (hn : 0 ≤ n) (hx : n < 9223372036854775808) (ho : d.off = false) :
    Calls Tryd.prog 10 #[.pointer (some ⟨q, 0, none⟩), .int .i64 n] w fun e w' => e = .returned .nilIface ∧ DStep w w' q v v ⟨d.b, false, n⟩ := by
  have c1 : w.cell? ⟨q, 1, none⟩ = some (.bool false) := by rw [← ho]; exact hD.hd.cell 1
  have c2 : w.cell? ⟨q, 2, none⟩ = some (.int .i64 d.cut) := hD.hd.cell 2
  have f2 := hD.hd.frozen 2
  have hn2 : ¬ n < 0 := by omega
  have Hst := Lib.hid (show DStep w (w.setCell ⟨q, 2, none⟩ (.int .i64 n)) q v v ⟨d.b, false, n⟩ from
    dset (d' := ⟨d.b, false, n⟩) hD rfl ⟨by show (-1 : Int) ≤ n; omega, hx⟩ _ (fr_set w q 2 (.int .i64 n)) (by have := hD.hd.set_ 2 (.int .i64 n); rw [ho] at this; exact this))
  clear hD ho
  go_enter Tryd.func10, Tryd.ntmps10
  go_wp2
  go_ret
  exact ⟨rfl, Hst.out⟩
theorem dpower_any (w : World) (hD : DiskAt w q v d) :
    Calls Tryd.prog 13 #[.pointer (some ⟨q, 0, none⟩)] w fun e w' => e = .returned (.bool (!d.off)) ∧ w = w' := by
  have c1 : w.cell? ⟨q, 1, none⟩ = some (.bool d.off) := hD.hd.cell 1
  clear hD
  generalize d.off = o at c1 ⊢
  cases o
  · go_enter Tryd.func13, Tryd.ntmps13
    go_wp2
    go_ret
    exact ⟨rfl, rfl⟩
  · go_enter Tryd.func13, Tryd.ntmps13
    go_wp2
    go_ret
    exact ⟨rfl, rfl⟩
end
set_option maxRecDepth 100000 in
theorem dnew_any (b : Bs) (hl : b.length ≤ 65536) (w : World) :
    Calls Tryd.prog 6 #[.string (B8 b)] w fun e w' => ∃ q v, e = .returned (.tuple #[.pointer (some ⟨q, 0, none⟩), .nilIface]) ∧ DiskAt w' q v ⟨b, false, -1⟩ ∧ DkLo w.heap.size q v ∧ Below w.heap.size w w' := by
  have hsz : (B8 b).size = b.length := B8_size b
  have hcv := Lib.run_convert_string_bytes (P := Tryd.prog) w 9 47 5 (B8 b) Tryd.underlying9 Tryd.underlying47 Tryd.underlying5
  have hbuf := Buf.conv w (B8 b) (by omega)
  rw [hsz, B8_data] at hbuf
  have hb1 := bytesW_below w 5 (B8 b)
  have hs1 := Lib.bytesWorld_size w 5 (B8 b)
  obtain ⟨W, hW⟩ : ∃ W, W = Lib.bytesWorld w 5 (B8 b) := ⟨_, rfl⟩
  obtain ⟨cp, hcp⟩ : ∃ cp, cp = grownCap w (B8 b).size 0 5 := ⟨_, rfl⟩
  rw [← hW] at hbuf hb1 hs1 hcv
  rw [← hsz, ← hcp, hsz] at hbuf
  rw [← hcp, hsz] at hcv
  have Hfin := Lib.hid (show DiskAt (W.alloc (.cells #[.slice (some ⟨w.heap.size, 0, none⟩) b.length cp, .bool false, .int .i64 (-1)] 49)) W.heap.size (.slice (some ⟨w.heap.size, 0, none⟩) b.length cp) ⟨b, false, -1⟩ ∧ DkLo w.heap.size W.heap.size (.slice (some ⟨w.heap.size, 0, none⟩) b.length cp) ∧ Below w.heap.size w (W.alloc (.cells #[.slice (some ⟨w.heap.size, 0, none⟩) b.length cp, .bool false, .int .i64 (-1)] 49)) from by
    refine ⟨⟨Blk.new _ _ _, hbuf.fr (Fr.ofB (Below.alloc (Below.refl W.heap.size W) (Nat.le_refl _) _) (Nat.le_refl _)) (fun _ _ h => h), by show (-1 : Int) ≤ -1; decide, by show (-1 : Int) < 9223372036854775808; decide⟩, ?_, Below.alloc hb1 hb1.size _⟩
    rintro k (rfl | hk)
    · omega
    · have : w.heap.size = k := by simpa [Value.ownBlock] using hk
      omega)
  clear hbuf hb1 hW hcp
  generalize hst : B8 b = st at hsz hcv ⊢
  have hl2 : st.size ≤ 65536 := by omega
  generalize b.length = n at hsz hl Hfin hcv
  clear hst
  go_enter Tryd.func6, Tryd.ntmps6
  go_wp2
  go_ret2
  have h := Hfin.out
  rw [hs1] at h
  exact ⟨_, _, rfl, h.1, h.2.1, h.2.2⟩
end Go.Proofs.YtfkklcmepcocoaaDoor
