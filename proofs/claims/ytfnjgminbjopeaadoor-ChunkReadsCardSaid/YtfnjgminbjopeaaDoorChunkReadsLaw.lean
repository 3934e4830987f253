/- ChunkReads by its contract: it returns true. -/
import Derived.Test.YtfnjgminbjopeaaDoorUnchunk
import Derived.Test.YtfnjgminbjopeaaDoorChunked
namespace Go.Proofs.YtfnjgminbjopeaaDoor
open Go.RowKit
set_option linter.unusedVariables false

theorem bytes_all (s : ByteArray) : ∃ xs : List Nat, s = bytesOf xs ∧ ∀ x ∈ xs, x < 256 := by
  refine ⟨s.data.toList.map UInt8.toNat, ?_, fun x hx => ?_⟩
  · obtain ⟨d⟩ := s
    have e : UInt8.ofNat ∘ UInt8.toNat = id := by funext x; simp
    simp [bytesOf, B8, e]
  · obtain ⟨u, _, rfl⟩ := List.mem_map.1 hx
    exact UInt8.toNat_lt u
theorem decR_code {xs : List Nat} {c : Nat} (h : decR xs = .err c) : c = 0 ∨ c = 8 := by
  unfold decR at h
  split at h
  · injection h with h; omega
  split at h
  · injection h with h; omega
  split at h
  · injection h with h; omega
  split at h
  · cases h
  · injection h with h; omega
theorem decR_facts {xs : List Nat} {l : List (Int × Int)} (h : decR xs = .ok l) : l.length ≤ 120 ∧ (∀ p ∈ l, 0 ≤ p.2 ∧ p.2 < 18446744073709551616) ∧ (∀ j, j < l.length → okAt l j) ∧ chunkL l = xs := by
  unfold decR at h
  split at h
  · cases h
  split at h
  · cases h
  split at h
  · cases h
  rename_i l' hp
  obtain ⟨h1, h2⟩ := ptR_ok hp
  split at h
  · rename_i h3
    injection h with h
    subst h
    exact ⟨h1, h2, h3.1, h3.2⟩
  · cases h
theorem rcode_s (n : Int) : (decide (n = n) && decide ((-1 : Int) = -1)) = true := by simp
theorem rcode_0 : (decide ((0 : Int) = 0) && decide ((-1 : Int) = -1)) = true := by decide
theorem sealL_256 {xs : List Nat} (h : ∀ x ∈ xs, x < 256) : ∀ x ∈ sealL xs, x < 256 := fun x hx => by
  rcases List.mem_append.1 hx with h3 | h3
  · exact h x h3
  · exact fourL_256 _ x h3

set_option maxRecDepth 100000 in
set_option maxHeartbeats 8000000 in
theorem chunkReads_law {es : Nat → Addr} {B : Nat} (s0 : ByteArray) (b : Bool) (w : World) (hS : Sents es B w) (hT : TabAt w) (hB : B = w.heap.size) :
    Calls Tryd.prog 7 #[.string s0, .bool b] w fun e w' => e = .returned (.bool true) ∧ Below w.heap.size w w' := by
  have hB0 : B ≤ w.heap.size := Nat.le_of_eq hB
  have hTB : 15 < B := by rw [hB]; exact hT.lt
  clear hB
  have Hck := Lib.hid (chunked_any w hS.v hT hTB hB0)
  have HS := Lib.hid hS; have HT := Lib.hid hT
  clear hS hT
  by_cases q0 : (200 : Int) < (s0.size : Int)
  · go_enter Tryd.func7, Tryd.ntmps7
    go_wp2_with (go_at_call 11; refine Hck.out.mono ?_; rintro e w1 ⟨rfl, hb1⟩; have hb1 := Lib.hid hb1)
    go_ret
    exact ⟨rfl, hb1.out⟩
  have q1 : (s0.size : Int) ≤ 200 := by omega
  clear q0
  obtain ⟨xs, hxs, hx⟩ := bytes_all s0
  have hxl : xs.length ≤ 200 := by have := bytesOf_size xs; rw [← hxs] at this; omega
  have Hse := Lib.hid (fun W => seal_any xs hx (by omega) W)
  rw [← hxs] at Hse
  obtain ⟨ys, hys⟩ : ∃ ys, ys = if b then sealL xs else xs := ⟨_, rfl⟩
  have hy : ∀ x ∈ ys, x < 256 := by
    rw [hys]; split
    · exact sealL_256 hx
    · exact hx
  have hyl : ys.length ≤ 204 := by
    rw [hys]; split
    · rw [seal_len]; omega
    · omega
  have Hd := Lib.hid (fun W (hf : Below w.heap.size w W) => decode_any ys W (HS.out.below hf hB0).v (HT.out.call hf (Nat.le_refl _)) hTB (Nat.le_trans hB0 hf.size) hy (by omega))
  have Hu := Lib.hid (fun W => unchunk_any ys W hy (by omega))
  clear hy hyl hx hxl
  obtain ⟨st, hst⟩ : ∃ st, st = bytesOf ys := ⟨_, rfl⟩
  rw [← hst] at Hd Hu
  cases b
  case' true =>
    rw [if_pos rfl] at hys
    rw [← hys, ← hst] at Hse
    have Hst := Lib.hid hst
    clear hys hst hxs
    go_enter Tryd.func7, Tryd.ntmps7
    go_wp2_with fail
    refine Hck.out.mono ?_
    rintro e w1 ⟨rfl, hb⟩
    have HB1 := Lib.hid hb; clear hb
    go_wp2_with fail
    refine (Hse.out _).mono ?_
    rintro e w2 ⟨rfl, hb⟩
    have HB2 := Lib.hid (Below.call HB1.out hb HB1.out.size); clear hb
  case' false =>
    rw [if_neg (by decide)] at hys
    subst hys
    obtain rfl : st = s0 := hst.trans hxs.symm
    have Hst := Lib.hid hst
    clear hst hxs
    go_enter Tryd.func7, Tryd.ntmps7
    go_wp2_with fail
    refine Hck.out.mono ?_
    rintro e w2 ⟨rfl, hb⟩
    have HB2 := Lib.hid hb; clear hb
  all_goals
    go_wp2_with fail
    refine (Hd.out _ HB2.out).mono ?_
    rintro e w3 ⟨her, hok, hb⟩
    have HB3 := Lib.hid (Below.call HB2.out hb HB2.out.size)
    clear hb
    cases hd : decR ys with
    | err ce =>
      obtain rfl := her ce hd
      have hce := decR_code hd
      have Hdd := Lib.hid hd
      have hce1 : (0 : Int) < (ce : Int) + 1 := by omega
      have hce11 : ce < 11 := by omega
      clear her hok hd hce
      go_wp2_with fail
      refine (Hu.out _).mono ?_
      rintro e w4 ⟨her, _, hb⟩
      obtain rfl := her ce Hdd.out
      have HB4 := Lib.hid (Below.call HB3.out hb HB3.out.size)
      clear her hb
      go_wp2_with fail
      refine (coded_any _ _ _ ((ce : Int) + 1) _ (HS.out.below HB4.out hB0) (Nat.le_trans hB0 HB4.out.size) (ErrIs.sent (HS.out.below HB4.out hB0) (k := ce) hce11)).mono ?_
      rintro e w5 ⟨rfl, hb⟩
      rw [rcode_s]
      have HB5 := Lib.hid (Below.call HB4.out hb HB4.out.size)
      clear hb
      go_wp2_with fail
      refine (samePoints_eq none 0 0 none 0 [] _ Rd.nil Rd.nil (by omega)).mono ?_
      rintro e w6 ⟨rfl, hb⟩
      have HB6 := Lib.hid (Below.call HB5.out hb HB5.out.size)
      clear hb
      go_wp2
      go_ret
      exact ⟨rfl, HB6.out⟩
    | ok l =>
      obtain ⟨v3, rfl, hown⟩ := hok l hd
      obtain ⟨A3, c3, rfl, _, _, hr3⟩ := own_form hown
      obtain ⟨hl1, hl2, hl3, hl4⟩ := decR_facts hd
      have Hbe := Lib.hid (show bytesOf (chunkL l) = st by rw [hl4]; exact Hst.out.symm)
      obtain ⟨n, hn⟩ : ∃ n, n = l.length := ⟨_, rfl⟩
      rw [← hn] at hr3 hl1 hl3 ⊢
      have Hdd := Lib.hid hd; have Hn := Lib.hid hn; have HR3 := Lib.hid hr3; have Hl2 := Lib.hid hl2; have Hl3 := Lib.hid hl3
      clear her hok hd hn hr3 hl2 hl3 hl4 hown
      go_wp2_with fail
      refine (Hu.out _).mono ?_
      rintro e w4 ⟨_, hok, hb⟩
      obtain ⟨v4, rfl, hown4⟩ := hok l Hdd.out
      rw [← Hn.out] at hown4
      obtain ⟨A4, c4, rfl, _, _, hr4⟩ := own_form hown4
      have HB4 := Lib.hid (Below.call HB3.out hb HB3.out.size)
      have HR3b := Lib.hid ((HR3.out.below hb).more hb.size)
      have HR4 := Lib.hid hr4
      clear hok hb hown4 hr4
      go_wp2_with fail
      refine (coded_any .nilIface 0 (-1) 0 _ (HS.out.below HB4.out hB0) (Nat.le_trans hB0 HB4.out.size) ErrIs.nil).mono ?_
      rintro e w5 ⟨rfl, hb⟩
      rw [rcode_0]
      have HB5 := Lib.hid (Below.call HB4.out hb HB4.out.size)
      have HR3c := Lib.hid ((HR3b.out.below hb).more hb.size)
      have HR4b := Lib.hid ((HR4.out.below hb).more hb.size)
      clear hb
      go_wp2_with fail
      refine (samePoints_eq A3 n c3 A4 c4 l _ HR3c.out HR4b.out (by omega)).mono ?_
      rintro e w6 ⟨rfl, hb⟩
      have HB6 := Lib.hid (Below.call HB5.out hb HB5.out.size)
      have HR3d := Lib.hid ((HR3c.out.below hb).more hb.size)
      clear hb
      go_wp2_with fail
      refine (encode_ok A3 n c3 l _ (HS.out.below HB6.out hB0).v (HT.out.call HB6.out (Nat.le_refl _)) (Nat.le_trans hB0 HB6.out.size) HR3d.out hl1 Hl3.out Hl2.out).mono ?_
      rintro e w7 ⟨rfl, hb⟩
      rw [Hbe.out]
      have HB7 := Lib.hid (Below.call HB6.out hb HB6.out.size)
      clear hb
      go_wp2
      go_ret
      exact ⟨rfl, HB7.out⟩
end Go.Proofs.YtfnjgminbjopeaaDoor
