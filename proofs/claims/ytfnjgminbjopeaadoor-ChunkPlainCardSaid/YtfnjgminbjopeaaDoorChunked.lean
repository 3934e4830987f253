/- The closed fact chunked: it returns true. -/
import Derived.Test.YtfnjgminbjopeaaDoorChunkDec
namespace Go.Proofs.YtfnjgminbjopeaaDoor
open Go.RowKit
set_option linter.unusedVariables false

theorem chunk_nil : chunkL [] = sealL [0] := by
  unfold chunkL
  have : packN (rowP []) = [0] := by decide +kernel
  rw [this]
theorem dec_nil : decR (sealL [0]) = .ok [] := by decide +kernel
set_option maxHeartbeats 1000000 in
theorem chunked_any {es : Nat → Addr} {B : Nat} (w : World) (hS : SV es B w) (hT : TabAt w) (hTB : 15 < B) (hB0 : B ≤ w.heap.size) :
    Calls Tryd.prog 11 #[] w fun e w' => e = .returned (.bool true) ∧ Below w.heap.size w w' := by
  have He := Lib.hid (show Calls Tryd.prog 34 #[.slice none 0 0] w fun e w' => e = .returned (.tuple #[.string (bytesOf (sealL [0])), .nilIface]) ∧ Below w.heap.size w w' from by
    rw [← chunk_nil]
    exact encode_ok none 0 0 [] w hS hT hB0 Rd.nil (by omega) (fun j h => absurd h (Nat.not_lt_zero _)) (by simp))
  have Hd := Lib.hid (fun W (hf : Below w.heap.size w W) => decode_any (sealL [0]) W (hS.below hf hB0) (hT.call hf (Nat.le_refl _)) hTB (Nat.le_trans hB0 hf.size) (by decide +kernel) (by decide))
  have Hs := Lib.hid (show ∀ W, Calls Tryd.prog 38 #[.string ⟨#[0]⟩] W fun e w' => e = .returned (.string (bytesOf (sealL [0]))) ∧ Below W.heap.size W w' from fun W => seal_any [0] (by decide) (by decide) W)
  generalize bytesOf (sealL [0]) = s0 at He Hd Hs
  clear hS hT
  go_enter Tryd.func11, Tryd.ntmps11
  go_wp2_with fail
  refine He.out.mono ?_
  rintro e w1 ⟨rfl, hb⟩
  have hB1 := Lib.hid hb
  clear hb
  go_wp2_with fail
  refine (Hd.out _ hB1.out).mono ?_
  rintro e w2 ⟨_, hok, hb⟩
  obtain ⟨v, rfl, hown⟩ := hok [] dec_nil
  obtain ⟨A2, c2, rfl, _, _, _⟩ := own_form hown
  have hB2 := Lib.hid (Below.call hB1.out hb hB1.out.size)
  clear hb hok hown
  go_wp2_with fail
  refine (Hs.out _).mono ?_
  rintro e w3 ⟨rfl, hb⟩
  have hB3 := Lib.hid (Below.call hB2.out hb hB2.out.size)
  clear hb
  go_wp2
  go_ret
  exact ⟨rfl, hB3.out⟩
end Go.Proofs.YtfnjgminbjopeaaDoor
