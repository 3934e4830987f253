/- head.New, Check, Points by contracts. -/
import Derived.Test.YtfnjgminbjopeaaGreatDoorHeadQ
import Derived.Test.YtfnjgminbjopeaaGreatDoorLabFQ
namespace Go.Proofs.YtfnjgminbjopeaaGreatDoor
open Go.RowKit Go.Maps
set_option linter.unusedVariables false

theorem DOf.nil : DOf (.map []) [] := ⟨rfl, fun s => rfl, fun x h => by cases h⟩
theorem hnew_any (w : World) : Calls Tryz.prog 5 #[] w fun e w' => ∃ q mb, e = .returned (.pointer (some ⟨q, 0, none⟩)) ∧ HeadAt w' (fun k => w.heap.size ≤ k) q mb (.map []) [] ∧ Below w.heap.size w w' := by
  have hmm := @run_makeMap Tryz.prog
  have H1 : HeadAt ((w.alloc (.map #[] 0)).alloc (.cells #[.map (some w.heap.size)] 63)) (fun k => w.heap.size ≤ k) (w.heap.size + 1) w.heap.size (.map []) [] := by
    have hb := Blk.new (w.alloc (.map #[] 0)) 63 #[.map (some w.heap.size)]
    rw [World.size_alloc] at hb
    exact ⟨hb, (World.ownsMap_made w Tryz.prog 9 ptrR).alloc _, DOf.nil, fun x h => (by cases h), List.Pairwise.nil, Nat.le_succ _, Nat.le_refl _, List.Pairwise.nil⟩
  have HH := Lib.hid H1
  clear H1
  go_enter Tryz.func5, Tryz.ntmps5
  go_wp2
  go_ret
  exact ⟨_, _, rfl, HH.out, by go_grown⟩

def hFaultOf (d : Nat × Int) (tk : Bool) (f : Option HLn) (n : Nat) (t : Int) : Nat × Int :=
  if d.1 ≠ 0 then d else if tk = false then (2, -1) else match f with
    | some x => if t ≤ x.last then (8, -1) else (0, -1)
    | none => if 60 ≤ n then (7, -1) else (0, -1)
theorem hFault_of (L : List HLn) (s : Bs) (p : Int × Int) : hFault (absL L) s p = hFaultOf (rdF s) (tickB p.1) (lnFind L s) L.length p.1 := by
  unfold hFault hFaultOf
  rw [lnFind_abs]
  have : (absL L).length = L.length := by unfold absL; rw [List.length_map]
  rw [this]
  cases lnFind L s <;> rfl

set_option maxRecDepth 100000 in
set_option maxHeartbeats 4000000 in
theorem hcheck_any {es : Nat → Addr} {B : Nat} {F : Nat → Prop} {q mb : Nat} {D : DataW Unit} {L : List HLn} (s : Bs) (p : Int × Int) (w : World) (hs : s.length ≤ 100000) (hS : SVL es B w) (hB0 : B ≤ w.heap.size) (hH : HeadAt w F q mb D L) (hL : L.length ≤ 100000) :
    Calls Tryz.prog 21 #[.pointer (some ⟨q, 0, none⟩), .string (B8 s), .agg #[.int .i64 p.1, .int .u64 p.2]] w fun e w' => ∃ v, e = .returned v ∧ EV es w.heap.size w' v (hFault (absL L) s p) ∧ Below w.heap.size w w' := by
  rw [hFault_of]
  have hb1 : Below w.heap.size w (w.alloc (.cells #[.int .i64 p.1, .int .u64 p.2] 32)) := Below.alloc (Below.refl _ _) (Nat.le_refl _) _
  have hsz1 : (w.alloc (.cells #[.int .i64 p.1, .int .u64 p.2] 32)).heap.size = w.heap.size + 1 := World.size_alloc _ _
  have Hr := Lib.hid (lread_u s hs _ (hS.below hb1 hB0) (Nat.le_trans hB0 hb1.size))
  have HP := Lib.hid (Blk.new w 32 #[.int .i64 p.1, .int .u64 p.2])
  have HS := Lib.hid (fun W (hb : Below w.heap.size w W) => hS.below hb hB0)
  have HH := Lib.hid (fun W (hb : Below w.heap.size w W) => hH.below hb)
  have Hb1 := Lib.hid hb1
  have Hlk := Lib.hid (fun W (hb : Below w.heap.size w W) => (hH.below hb).look s (by omega))
  have Hlen := Lib.hid (fun W (hb : Below w.heap.size w W) => (hH.below hb).mp.len Tryz.underlying61)
  have Hdn := Lib.hid hH.dof.1
  have hq := hH.hd.lt
  obtain ⟨d, hd⟩ : ∃ d, d = rdF s := ⟨_, rfl⟩
  obtain ⟨f, hf⟩ : ∃ f, f = lnFind L s := ⟨_, rfl⟩
  rw [← hd, ← hf]
  rw [← hd] at Hr
  rw [← hf] at Hlk
  obtain ⟨n, hn⟩ : ∃ n, n = L.length := ⟨_, rfl⟩
  have Hn := Lib.hid hn
  have hn1 : n ≤ 100000 := by omega
  rw [← hn]
  have HF : ∀ x, f = some x → x ∈ L := fun x hx => (lnFind_mem (hf ▸ hx)).1
  have HF' := Lib.hid HF
  clear hd hf hS hH hb1 hsz1 HF hn hL
  generalize B8 s = st at Hr Hlk ⊢
  obtain ⟨t, b⟩ := p
  dsimp only at Hr HP Hb1 ⊢
  by_cases hd0 : d.1 = 0
  case neg =>
    have Hc := Lib.hid (show hFaultOf d (tickB t) f n t = d by unfold hFaultOf; rw [if_pos hd0])
    go_enter Tryz.func21, Tryz.ntmps21
    go_wp2_with fail
    refine Hr.out.mono ?_
    rintro e w1 ⟨v, u, l, rfl, hev, _, _, _, hb⟩
    obtain ⟨ty, pv, rfl⟩ := hev.pos hd0
    have HE := Lib.hid hev; have HB := Lib.hid (Below.call Hb1.out hb (by simp))
    clear hev hb
    go_wp2
    go_ret
    exact ⟨_, rfl, by rw [Hc.out]; exact HE.out.base (by simp), HB.out⟩
  by_cases htk : tickB t = true
  case neg =>
    have Hc := Lib.hid (show hFaultOf d (tickB t) f n t = (2, -1) by unfold hFaultOf; rw [if_neg (by simpa using hd0), if_pos (by simpa using htk)])
    have ht : t < -1099511627776 ∨ (¬ t < -1099511627776 ∧ 1099511627776 < t) := by
      unfold tickB at htk
      simp at htk
      omega
    clear htk
    rcases ht with ht | ⟨ht0, ht⟩
    all_goals
      go_enter Tryz.func21, Tryz.ntmps21
      go_wp2_with fail
      refine Hr.out.mono ?_
      rintro e w1 ⟨v, u, l, rfl, hev, _, _, _, hb⟩
      obtain rfl := hev.zero hd0
      have HB := Lib.hid (Below.call Hb1.out hb (by simp))
      have hk := HP.out.below hb (by simp)
      have z0 := hk.cell 0
      have g1 : w1.cell? ⟨2, 0, none⟩ = some (sentV (es 1)) := (HS.out _ HB.out).var 1 (by decide)
      clear hev hb hk
      go_wp2
      go_ret
      exact ⟨_, rfl, by rw [Hc.out]; exact .inr (.inl ⟨1, by decide, rfl, rfl⟩), HB.out⟩
  have ht1 : ¬ t < -1099511627776 := by unfold tickB at htk; simp at htk; omega
  have ht2 : ¬ 1099511627776 < t := by unfold tickB at htk; simp at htk; omega
  cases f with
  | some x =>
    by_cases hx : t ≤ x.last
    · have Hc := Lib.hid (show hFaultOf d (tickB t) (some x) n t = (8, -1) by unfold hFaultOf; rw [if_neg (by simpa using hd0), if_neg (by simp [htk])]; exact if_pos hx)
      clear htk
      go_enter Tryz.func21, Tryz.ntmps21
      go_wp2_with fail
      refine Hr.out.mono ?_
      rintro e w1 ⟨v, u, l, rfl, hev, _, _, _, hb⟩
      obtain rfl := hev.zero hd0
      have HB := Lib.hid (Below.call Hb1.out hb (by simp))
      have hk := HP.out.below hb (by simp)
      have z0 := hk.cell 0
      have g1 : w1.cell? ⟨7, 0, none⟩ = some (sentV (es 7)) := (HS.out _ HB.out).var 7 (by decide)
      have h1 := HH.out _ HB.out
      have z1 : w1.cell? ⟨q, 0, none⟩ = some (.map (some mb)) := h1.hd.cell 0
      have z2 := (Hlk.out _ HB.out).1 x (by first | rfl | trivial)
      have z3 : w1.cell? ⟨x.bk, 1, none⟩ = some (.int .i64 x.last) := (h1.ln x (HF'.out x rfl)).1.cell 1
      clear hev hb hk h1
      go_wp2
      go_quiet (fail)
      go_wp2
      go_ret
      exact ⟨_, rfl, by rw [Hc.out]; exact .inr (.inl ⟨7, by decide, rfl, rfl⟩), Below.drewN HB.out _⟩
    · have Hc := Lib.hid (show hFaultOf d (tickB t) (some x) n t = (0, -1) by unfold hFaultOf; rw [if_neg (by simpa using hd0), if_neg (by simp [htk])]; exact if_neg hx)
      clear htk
      go_enter Tryz.func21, Tryz.ntmps21
      go_wp2_with fail
      refine Hr.out.mono ?_
      rintro e w1 ⟨v, u, l, rfl, hev, _, _, _, hb⟩
      obtain rfl := hev.zero hd0
      have HB := Lib.hid (Below.call Hb1.out hb (by simp))
      have hk := HP.out.below hb (by simp)
      have z0 := hk.cell 0
      have h1 := HH.out _ HB.out
      have z1 : w1.cell? ⟨q, 0, none⟩ = some (.map (some mb)) := h1.hd.cell 0
      have z2 := (Hlk.out _ HB.out).1 x (by first | rfl | trivial)
      have z3 : w1.cell? ⟨x.bk, 1, none⟩ = some (.int .i64 x.last) := (h1.ln x (HF'.out x rfl)).1.cell 1
      clear hev hb hk h1
      go_wp2
      go_quiet (fail)
      go_wp2
      go_ret
      exact ⟨_, rfl, by rw [Hc.out]; exact .inl ⟨rfl, rfl⟩, Below.drewN HB.out _⟩
  | none =>
    by_cases hx : 60 ≤ n
    · have Hc := Lib.hid (show hFaultOf d (tickB t) none n t = (7, -1) by unfold hFaultOf; rw [if_neg (by simpa using hd0), if_neg (by simp [htk])]; exact if_pos hx)
      have hx' : (60 : Int) ≤ n := by omega
      clear htk
      go_enter Tryz.func21, Tryz.ntmps21
      go_wp2_with fail
      refine Hr.out.mono ?_
      rintro e w1 ⟨v, u, l, rfl, hev, _, _, _, hb⟩
      obtain rfl := hev.zero hd0
      have HB := Lib.hid (Below.call Hb1.out hb (by simp))
      have hk := HP.out.below hb (by simp)
      have z0 := hk.cell 0
      have h1 := HH.out _ HB.out
      have z1 : w1.cell? ⟨q, 0, none⟩ = some (.map (some mb)) := h1.hd.cell 0
      have z2 := (Hlk.out _ HB.out).2 (by first | rfl | trivial)
      have z4 := fun k => Hlen.out _ (Below.drewN HB.out k) 3
      rw [Hdn.out, ← Hn.out] at z4
      have g1 : w1.cell? ⟨6, 0, none⟩ = some (sentV (es 6)) := (HS.out _ HB.out).var 6 (by decide)
      clear hev hb hk h1
      go_wp2
      go_quiet (fail)
      go_wp2
      go_ret
      exact ⟨_, rfl, by rw [Hc.out]; exact .inr (.inl ⟨6, by decide, rfl, rfl⟩), Below.drewN HB.out _⟩
    · have Hc := Lib.hid (show hFaultOf d (tickB t) none n t = (0, -1) by unfold hFaultOf; rw [if_neg (by simpa using hd0), if_neg (by simp [htk])]; exact if_neg hx)
      have hx' : ¬ (60 : Int) ≤ n := by omega
      clear htk
      go_enter Tryz.func21, Tryz.ntmps21
      go_wp2_with fail
      refine Hr.out.mono ?_
      rintro e w1 ⟨v, u, l, rfl, hev, _, _, _, hb⟩
      obtain rfl := hev.zero hd0
      have HB := Lib.hid (Below.call Hb1.out hb (by simp))
      have hk := HP.out.below hb (by simp)
      have z0 := hk.cell 0
      have h1 := HH.out _ HB.out
      have z1 : w1.cell? ⟨q, 0, none⟩ = some (.map (some mb)) := h1.hd.cell 0
      have z2 := (Hlk.out _ HB.out).2 (by first | rfl | trivial)
      have z4 := fun k => Hlen.out _ (Below.drewN HB.out k) 3
      rw [Hdn.out, ← Hn.out] at z4
      clear hev hb hk h1
      go_wp2
      go_quiet (fail)
      go_wp2
      go_ret
      exact ⟨_, rfl, by rw [Hc.out]; exact .inl ⟨rfl, rfl⟩, Below.drewN HB.out _⟩
end Go.Proofs.YtfnjgminbjopeaaGreatDoor
