/- tidegaugelaw2.wideBlock by its contract. -/
import Derived.Test.YtpbgonpmpjpljaaGreatDoorMkmX
import Derived.Test.YtpbgonpmpjpljaaGreatDoorMkwX
namespace Go.Proofs.YtpbgonpmpjpljaaGreatDoor
open Go.RowKit
set_option linter.unusedVariables false

def WidePost (ser : List Bs) (ch : List (List Nat)) (w : World) (e : Ending) (w' : World) : Prop :=
  ∃ b, e = .returned (.bool b) ∧ (b = false → ser.length ≤ 70 ∧ ch.length ≤ 70 ∧ (∀ s ∈ ser, s.length ≤ 200) ∧ ∀ x ∈ ch, x.length ≤ 3000) ∧ Below w.heap.size w w'
theorem WidePost.yes {ser : List Bs} {ch : List (List Nat)} {w w' : World} (hb : Below w.heap.size w w') : WidePost ser ch w (.returned (.bool true)) w' := ⟨true, rfl, fun h => (by cases h), hb⟩
set_option maxRecDepth 100000 in
set_option maxHeartbeats 2000000 in
theorem wideBlock_any (fr sp : Int) (A A' : Option Addr) (n c n' c' : Nat) (ser : List Bs) (ch : List (List Nat)) (w : World)
    (hA : Rd w w.heap.size 1 A n (ser.map fun s => .string (B8 s))) (hC : Rd w w.heap.size 1 A' n' (ch.map fun x => .string (bytesOf x))) (hn : n ≤ 140737488351232) (hn' : n' ≤ 140737488351232) (hcl : ∀ x ∈ ch, x.length ≤ 140737488351232) :
    Calls Tryz.prog 5 #[.agg #[.int .i64 fr, .int .i64 sp, .slice A n c, .slice A' n' c']] w fun e w' => WidePost ser ch w e w' := by
  have Hln := Lib.hid (show ser.length = n by have := hA.1; simpa using this)
  have Hlc := Lib.hid (show ch.length = n' by have := hC.1; simpa using this)
  have Hat := Lib.hid (fun W (hb : Below w.heap.size w W) (i : Nat) (hi : i < n) => (hA.below hb).at1 (f := fun s : Bs => Value.string (B8 s)) hi)
  have Hct := Lib.hid (fun W (hb : Below w.heap.size w W) (i : Nat) (hi : i < n') => (hC.below hb).at1 (f := fun x : List Nat => Value.string (bytesOf x)) hi)
  have Hcl := Lib.hid hcl
  clear hA hC hcl
  have hb1 : Below w.heap.size w (w.alloc (.cells #[.int .i64 fr, .int .i64 sp, .slice A n c, .slice A' n' c'] 24)) := Below.alloc (Below.refl _ _) (Nat.le_refl _) _
  have HB1 := Lib.hid hb1
  have Hk := Lib.hid (Blk.new w 24 #[.int .i64 fr, .int .i64 sp, .slice A n c, .slice A' n' c'])
  clear hb1
  by_cases h70 : 70 < n
  · have h70' : (70 : Int) < n := by omega
    go_enter Tryz.func5, Tryz.ntmps5
    go_wp2
    go_ret
    exact WidePost.yes HB1.out
  have h70' : ¬ (70 : Int) < n := by omega
  by_cases h71 : 70 < n'
  · have h71' : (70 : Int) < n' := by omega
    go_enter Tryz.func5, Tryz.ntmps5
    go_wp2
    go_ret
    exact WidePost.yes HB1.out
  have h71' : ¬ (70 : Int) < n' := by omega
  go_enter Tryz.func5, Tryz.ntmps5
  go_wp2
  go_loopw [3, 4] (fun nv iv wr => ∃ (k m : Nat), k ≤ n' ∧ m ≤ 3000 ∧ iv = .int .i64 k ∧ nv = .int .i64 m ∧ (∀ j x, j < k → ch[j]? = some x → x.length ≤ 3000) ∧ Below w.heap.size w wr ∧ Blk wr w.heap.size 24 #[.int .i64 fr, .int .i64 sp, .slice A n c, .slice A' n' c']) (fun _ iv _ => n' - (intOf iv).toNat)
  case atStart => exact ⟨0, 0, Nat.zero_le _, Nat.zero_le _, rfl, rfl, fun j r h => absurd h (Nat.not_lt_zero _), HB1.out, Hk.out⟩
  case round =>
    obtain ⟨k, m, hk, hm, rfl, rfl, hpre, hb, hbl⟩ := hrel
    have HB := Lib.hid hb; have Hpre := Lib.hid hpre; have HK := Lib.hid hbl
    have z2 : wr.cell? ⟨w.heap.size, 2, none⟩ = some (.slice A n c) := hbl.cell 2
    have z3 : wr.cell? ⟨w.heap.size, 3, none⟩ = some (.slice A' n' c') := hbl.cell 3
    clear hb hpre hbl
    by_cases hkn : k < n'
    · have hkn' : (k : Int) < n' := by omega
      obtain ⟨b0, o0, x, hA0, had0, hr, x0⟩ := Hct.out _ HB.out k hkn
      subst hA0
      have hxl := Hcl.out x (List.mem_of_getElem? hr)
      have hsz : (bytesOf x).size = x.length := bytesOf_size x
      have Hr := Lib.hid hr
      clear hr
      generalize bytesOf x = sx at x0 hsz
      obtain ⟨L, hL⟩ : ∃ L, L = x.length := ⟨_, rfl⟩
      rw [← hL] at hsz hxl
      have HL := Lib.hid hL
      have hw : IntKind.i64.wrap ((m : Int) + (sx.size : Int)) = (m : Int) + (L : Int) := by rw [IntKind.wrap_i64, hsz]; omega
      clear hL hsz
      by_cases h3 : 3000 < m + L
      · have h3' : (3000 : Int) < (m : Int) + L := by omega
        go_wp2
        go_ret
        exact WidePost.yes HB.out
      · have h3' : ¬ (3000 : Int) < (m : Int) + L := by omega
        go_wp2
        go_roundw
        case rel => exact ⟨k + 1, m + L, by omega, by omega, by go_num, by go_num, fun j y hj hy => by
          rcases Nat.lt_or_ge j k with h | h
          · exact Hpre.out j y h hy
          · obtain rfl : j = k := by omega
            rw [Hr.out] at hy
            injection hy with hy
            rw [← hy, ← HL.out]; omega, HB.out, HK.out⟩
        case measure => simp [intOf]; omega
    · obtain rfl : k = n' := by omega
      have hkn' : ¬ (k : Int) < k := by omega
      have Hch := Lib.hid (show ∀ x ∈ ch, x.length ≤ 3000 from fun x hx => by
        obtain ⟨j, hj, e⟩ := List.getElem_of_mem hx
        exact Hpre.out j x (by rw [← Hlc.out]; exact hj) (by rw [List.getElem?_eq_getElem hj, e]))
      clear hkn hk Hpre Hcl Hct
      rename_i wx
      go_wp2
      go_loopw [5] (fun iv wr2 => ∃ (q : Nat), q ≤ n ∧ iv = .int .i64 q ∧ (∀ j x, j < q → ser[j]? = some x → x.length ≤ 200) ∧ Below w.heap.size w wr2 ∧ Blk wr2 w.heap.size 24 #[.int .i64 fr, .int .i64 sp, .slice A n c, .slice A' k c']) (fun iv _ => n - (intOf iv).toNat)
      case atStart => exact ⟨0, Nat.zero_le _, rfl, fun j r h => absurd h (Nat.not_lt_zero _), HB.out, HK.out⟩
      case round =>
        obtain ⟨q, hq, rfl, hpre, hb, hbl⟩ := hrel
        have HB2 := Lib.hid hb; have Hpre := Lib.hid hpre; have HK2 := Lib.hid hbl
        have y2 := hbl.cell 2
        clear hb hpre hbl z2 z3
        simp only [List.getElem?_toArray, List.getElem?_cons_zero, List.getElem?_cons_succ] at y2
        by_cases hqn : q < n
        · have hqn' : (q : Int) < n := by omega
          obtain ⟨b0, o0, x, hA0, had0, hr, x0⟩ := Hat.out _ HB2.out q hqn
          subst hA0
          have hsz := B8_size x
          have Hr := Lib.hid hr
          clear hr
          generalize B8 x = sx at x0 hsz
          obtain ⟨L, hL⟩ : ∃ L, L = x.length := ⟨_, rfl⟩
          rw [← hL] at hsz
          have HL := Lib.hid hL
          clear hL
          by_cases h2 : 200 < L
          · have h2' : (200 : Int) < (sx.size : Int) := by omega
            clear hsz
            go_wp2
            go_ret
            exact WidePost.yes HB2.out
          · have h2' : ¬ (200 : Int) < (sx.size : Int) := by omega
            clear hsz
            go_wp2
            go_roundw
            case rel => exact ⟨q + 1, by omega, by go_num, fun j y hj hy => by
              rcases Nat.lt_or_ge j q with h | h
              · exact Hpre.out j y h hy
              · obtain rfl : j = q := by omega
                rw [Hr.out] at hy
                injection hy with hy
                rw [← hy, ← HL.out]; omega, HB2.out, HK2.out⟩
            case measure => simp [intOf]; omega
        · obtain rfl : q = n := by omega
          have hqn' : ¬ (q : Int) < q := by omega
          go_wp2
          go_ret
          exact ⟨false, rfl, fun _ => ⟨by rw [Hln.out]; omega, by rw [Hlc.out]; omega, fun x hx => by
            obtain ⟨j, hj, e⟩ := List.getElem_of_mem hx
            exact Hpre.out j x (by rw [← Hln.out]; exact hj) (by rw [List.getElem?_eq_getElem hj, e]), Hch.out⟩, HB2.out⟩
end Go.Proofs.YtpbgonpmpjpljaaGreatDoor

namespace Go.Proofs.YtpbgonpmpjpljaaGreatDoor
open Go.RowKit
set_option linter.unusedVariables false

/-- A block that is being copied: the argument's box, the answer, the copy. -/
structure CpB (w W : World) (bx : Array Value) (fr sp : Int) (s2 s3 : Value) (n n' : Nat) (X Y : List Value) : Prop where
  bl : Below w.heap.size w W
  b0 : Blk W w.heap.size 24 bx
  b1 : Blk W (w.heap.size + 1) 24 #[.int .i64 0, .int .i64 0, .slice none 0 0, .slice none 0 0]
  b2 : Blk W (w.heap.size + 1 + 1) 24 #[.int .i64 fr, .int .i64 sp, s2, s3]
  o2 : W.ownsRow (w.heap.size + 3) 9 1 s2 n X
  o3 : W.ownsRow (w.heap.size + 3) 9 1 s3 n' Y
theorem CpB.step2 {w W wa : World} {bx : Array Value} {fr sp : Int} {v' : Value} {n : Nat} {X : List Value} (h : CpB w W bx fr sp (.slice none 0 0) (.slice none 0 0) 0 0 [] []) (hf : Fr (fun _ => False) W wa) (ho : wa.ownsRow (w.heap.size + 3) 9 1 v' n X) :
    (wa.cell? ⟨w.heap.size + 1 + 1, 2, none⟩ = some (.slice none 0 0) ∧ wa.frozen? ⟨w.heap.size + 1 + 1, 2, none⟩ = false) ∧ CpB w (wa.setCell ⟨w.heap.size + 1 + 1, 2, none⟩ v') bx fr sp v' (.slice none 0 0) n 0 X [] := by
  have q0 := hf.blk h.b0 (fun h => h)
  have q1 := hf.blk h.b1 (fun h => h)
  have q2 := hf.blk h.b2 (fun h => h)
  have hz : Fr (fun k => k = w.heap.size + 1 + 1) wa (wa.setCell ⟨w.heap.size + 1 + 1, 2, none⟩ v') := Fr.setCell (S := fun k => k = w.heap.size + 1 + 1) (Fr.refl _ _) (p := ⟨w.heap.size + 1 + 1, 2, none⟩) (.inr rfl) v'
  exact ⟨⟨q2.cell 2, q2.frozen 2⟩, ⟨Below.setCell (Fr.toBel h.bl hf) (by show w.heap.size ≤ w.heap.size + 1 + 1; omega) _, q0.far (by show w.heap.size ≠ w.heap.size + 1 + 1; omega) _, q1.far (by show w.heap.size + 1 ≠ w.heap.size + 1 + 1; omega) _, q2.set_ 2 v', hz.own ho (fun k hk e => by have := (own_lt ho k hk).1; omega), World.ownsRow_nil _ _ _ _⟩⟩
theorem CpB.step3 {w W wa : World} {bx : Array Value} {fr sp : Int} {s2 v' : Value} {n n' : Nat} {X Y : List Value} (h : CpB w W bx fr sp s2 (.slice none 0 0) n 0 X []) (hf : Fr (fun _ => False) W wa) (ho : wa.ownsRow (w.heap.size + 3) 9 1 v' n' Y) :
    (wa.cell? ⟨w.heap.size + 1 + 1, 3, none⟩ = some (.slice none 0 0) ∧ wa.frozen? ⟨w.heap.size + 1 + 1, 3, none⟩ = false) ∧ CpB w (wa.setCell ⟨w.heap.size + 1 + 1, 3, none⟩ v') bx fr sp s2 v' n n' X Y := by
  have q0 := hf.blk h.b0 (fun h => h)
  have q1 := hf.blk h.b1 (fun h => h)
  have q2 := hf.blk h.b2 (fun h => h)
  have o2 := hf.own h.o2 (fun _ _ h => h)
  have hz : Fr (fun k => k = w.heap.size + 1 + 1) wa (wa.setCell ⟨w.heap.size + 1 + 1, 3, none⟩ v') := Fr.setCell (S := fun k => k = w.heap.size + 1 + 1) (Fr.refl _ _) (p := ⟨w.heap.size + 1 + 1, 3, none⟩) (.inr rfl) v'
  exact ⟨⟨q2.cell 3, q2.frozen 3⟩, ⟨Below.setCell (Fr.toBel h.bl hf) (by show w.heap.size ≤ w.heap.size + 1 + 1; omega) _, q0.far (by show w.heap.size ≠ w.heap.size + 1 + 1; omega) _, q1.far (by show w.heap.size + 1 ≠ w.heap.size + 1 + 1; omega) _, q2.set_ 3 v', hz.own o2 (fun k hk e => by have := (own_lt o2 k hk).1; omega), hz.own ho (fun k hk e => by have := (own_lt ho k hk).1; omega)⟩⟩
def CopyPost (fr sp : Int) (n n' : Nat) (X Y : List Value) (w : World) (e : Ending) (w' : World) : Prop :=
  ∃ A1 c1 A2 c2, e = .returned (.agg #[.int .i64 fr, .int .i64 sp, .slice A1 n c1, .slice A2 n' c2]) ∧ w'.ownsRow w.heap.size 9 1 (.slice A1 n c1) n X ∧ w'.ownsRow w.heap.size 9 1 (.slice A2 n' c2) n' Y ∧ Below w.heap.size w w'
theorem own_setC {W : World} {base n size g i : Nat} {e : TypeId} {v : Value} {xs : List Value} (h : W.ownsRow base e size v n xs) (hg : g < base) (u : Value) : (W.setCell ⟨g, i, none⟩ u).ownsRow base e size v n xs := by
  have hz : Fr (fun k => k = g) W (W.setCell ⟨g, i, none⟩ u) := Fr.setCell (S := fun k => k = g) (Fr.refl _ _) (p := ⟨g, i, none⟩) (.inr rfl) u
  exact hz.own h (fun k hk e => by have := (own_lt h k hk).1; omega)
theorem own_slice {W : World} {base n m c size : Nat} {e : TypeId} {A : Option Addr} {xs : List Value} (h : W.ownsRow base e size (.slice A m c) n xs) : Rd W W.heap.size size A n xs := by
  obtain ⟨A', c', e', _, _, hr⟩ := own_form h
  injection e' with e1 _ _
  rw [e1]; exact hr
theorem CpB.fin {w W : World} {bx : Array Value} {fr sp : Int} {A1 A2 : Option Addr} {c1 c2 n n' : Nat} {X Y : List Value} (h : CpB w W bx fr sp (.slice A1 n c1) (.slice A2 n' c2) n n' X Y) (u0 u1 u2 u3 : Value) :
    CopyPost fr sp n n' X Y w (.returned (.agg #[.int .i64 fr, .int .i64 sp, .slice A1 n c1, .slice A2 n' c2])) ((((W.setCell ⟨w.heap.size + 1, 0, none⟩ u0).setCell ⟨w.heap.size + 1, 1, none⟩ u1).setCell ⟨w.heap.size + 1, 2, none⟩ u2).setCell ⟨w.heap.size + 1, 3, none⟩ u3) := by
  have hg : w.heap.size + 1 < w.heap.size + 3 := by omega
  have hl : w.heap.size ≤ w.heap.size + 1 := by omega
  refine ⟨A1, c1, A2, c2, rfl, ?_, ?_, ?_⟩
  · exact own_base (own_setC (own_setC (own_setC (own_setC h.o2 hg u0) hg u1) hg u2) hg u3) (by omega)
  · exact own_base (own_setC (own_setC (own_setC (own_setC h.o3 hg u0) hg u1) hg u2) hg u3) (by omega)
  · exact Below.setCell (p := ⟨w.heap.size + 1, 3, none⟩) (Below.setCell (p := ⟨w.heap.size + 1, 2, none⟩) (Below.setCell (p := ⟨w.heap.size + 1, 1, none⟩) (Below.setCell (p := ⟨w.heap.size + 1, 0, none⟩) h.bl hl u0) hl u1) hl u2) hl u3
/-- The same for a copy that stands in one's own block (tidegaugelaw2.own). -/
theorem ownB_fin {w w0 w5 : World} {o : Obj} {fr sp : Int} {A1 A2 : Option Addr} {c1 c2 n n' : Nat} {X Y : List Value} (hs : w0.heap.size = w.heap.size + 2) (hb : Below w.heap.size w w5) (h1 : w5.ownsRow w0.heap.size 9 1 (.slice A1 n c1) n X) (h2 : w5.ownsRow w0.heap.size 9 1 (.slice A2 n' c2) n' Y) (u0 u1 u2 u3 : Value) :
    CopyPost fr sp n n' X Y w (.returned (.agg #[.int .i64 fr, .int .i64 sp, .slice A1 n c1, .slice A2 n' c2])) (((((w5.alloc o).setCell ⟨w.heap.size + 1, 0, none⟩ u0).setCell ⟨w.heap.size + 1, 1, none⟩ u1).setCell ⟨w.heap.size + 1, 2, none⟩ u2).setCell ⟨w.heap.size + 1, 3, none⟩ u3) := by
  have hg : w.heap.size + 1 < w0.heap.size := by omega
  have hl : w.heap.size ≤ w.heap.size + 1 := by omega
  have ha := Fr.alloc (Fr.refl (fun _ => False) w5) o
  have k1 := ha.own h1 (fun _ _ h => h)
  have k2 := ha.own h2 (fun _ _ h => h)
  have kb := Fr.toBel hb ha
  refine ⟨A1, c1, A2, c2, rfl, ?_, ?_, ?_⟩
  · exact own_base (own_setC (own_setC (own_setC (own_setC k1 hg u0) hg u1) hg u2) hg u3) (by omega)
  · exact own_base (own_setC (own_setC (own_setC (own_setC k2 hg u0) hg u1) hg u2) hg u3) (by omega)
  · exact Below.setCell (p := ⟨w.heap.size + 1, 3, none⟩) (Below.setCell (p := ⟨w.heap.size + 1, 2, none⟩) (Below.setCell (p := ⟨w.heap.size + 1, 1, none⟩) (Below.setCell (p := ⟨w.heap.size + 1, 0, none⟩) kb hl u0) hl u1) hl u2) hl u3
theorem res_cp (tmps : Array Value) (W : World) (b : Nat) (v0 v1 v2 v3 : Value) (ha : tmps.getD 2 undef = .pointer (some ⟨b, 0, none⟩)) (hB : Blk W b 24 #[v0, v1, v2, v3]) :
    (results Tryz.f29 tmps).run Tryz.prog W = .ok (.agg #[v0, v1, v2, v3]) W := by
  have z0 := hB.cell 0; have z1 := hB.cell 1; have z2 := hB.cell 2; have z3 := hB.cell 3
  simp only [List.getElem?_toArray, List.getElem?_cons_zero, List.getElem?_cons_succ] at z0 z1 z2 z3
  simp only [Array.getD_eq_getD_getElem?] at ha
  simp [results, Tryz.results29, go_sem, ha, z0, z1, z2, z3]
theorem new_cpb (w : World) (bx : Array Value) (fr sp : Int) :
    CpB w (((w.alloc (.cells bx 24)).alloc (.cells #[.int .i64 0, .int .i64 0, .slice none 0 0, .slice none 0 0] 24)).alloc (.cells #[.int .i64 fr, .int .i64 sp, .slice none 0 0, .slice none 0 0] 24)) bx fr sp (.slice none 0 0) (.slice none 0 0) 0 0 [] [] := by
  have b0 := ((Blk.new w 24 bx).alloc (.cells #[.int .i64 0, .int .i64 0, .slice none 0 0, .slice none 0 0] 24)).alloc (.cells #[.int .i64 fr, .int .i64 sp, .slice none 0 0, .slice none 0 0] 24)
  have b1 := (Blk.new (w.alloc (.cells bx 24)) 24 #[.int .i64 0, .int .i64 0, .slice none 0 0, .slice none 0 0]).alloc (.cells #[.int .i64 fr, .int .i64 sp, .slice none 0 0, .slice none 0 0] 24)
  have b2 := Blk.new ((w.alloc (.cells bx 24)).alloc (.cells #[.int .i64 0, .int .i64 0, .slice none 0 0, .slice none 0 0] 24)) 24 #[.int .i64 fr, .int .i64 sp, .slice none 0 0, .slice none 0 0]
  rw [World.size_alloc] at b1
  rw [World.size_alloc, World.size_alloc] at b2
  exact ⟨Below.alloc (Below.alloc (Below.alloc (Below.refl _ _) (Nat.le_refl _) _) (by simp) _) (by simp; omega) _, b0, b1, b2, World.ownsRow_nil _ _ _ _, World.ownsRow_nil _ _ _ _⟩
set_option maxRecDepth 100000 in
set_option maxHeartbeats 4000000 in
theorem copy_any (fr sp : Int) (A A' : Option Addr) (n c n' c' : Nat) (X Y : List Value) (w : World) (hA : Rd w w.heap.size 1 A n X) (hC : Rd w w.heap.size 1 A' n' Y) (hX : ∀ u ∈ X, u.oneCell' = true) (hY : ∀ u ∈ Y, u.oneCell' = true) (hn : n ≤ 100000) (hn' : n' ≤ 100000) :
    Calls Tryz.prog 29 #[.agg #[.int .i64 fr, .int .i64 sp, .slice A n c, .slice A' n' c']] w fun e w' => CopyPost fr sp n n' X Y w e w' := by
  obtain ⟨i1, hi1, hy0, hy1, hy2⟩ := info_parts infoTx
  have Hi1 := Lib.hid hi1; have Hy0 := Lib.hid hy0; have Hy1 := Lib.hid hy1; have Hy2 := Lib.hid hy2
  have HA := Lib.hid hA; have HC := Lib.hid hC; have HX := Lib.hid hX; have HY := Lib.hid hY
  have H0 := Lib.hid (new_cpb w #[.int .i64 fr, .int .i64 sp, .slice A n c, .slice A' n' c'] fr sp)
  clear hi1 hy0 hy1 hy2 hA hC hX hY
  have hk63 : 0 + n ≤ maxLen := by unfold maxLen; omega
  have hk8 : (0 + n) * 16 ≤ 140737488355328 := by omega
  have hr63 : 0 + n' ≤ maxLen := by unfold maxLen; omega
  have hr8 : (0 + n') * 16 ≤ 140737488355328 := by omega
  go_enter Tryz.func29, Tryz.ntmps29
  go_upto_region 1 with fail
  go_cut [3] (fun pv wx => pv = .pointer (some ⟨w.heap.size + 1 + 1, 0, none⟩) ∧ CpB w wx #[.int .i64 fr, .int .i64 sp, .slice A n c, .slice A' n' c'] fr sp (.slice none 0 0) (.slice none 0 0) 0 0 [] [])
  case first =>
    go_wp2_with fail
    go_meet
    exact ⟨rfl, H0.out⟩
  case rest =>
    obtain ⟨rfl, hcut⟩ := hcut
    rename World => wo
    have HI := Lib.hid hcut
    clear H0
    apply_assumption
    have z0 : wo.cell? ⟨w.heap.size, 2, none⟩ = some (.slice A n c) := hcut.b0.cell 2
    have z1 : wo.cell? ⟨w.heap.size + 1 + 1, 2, none⟩ = some (.slice none 0 0) := hcut.b2.cell 2
    have HS := Lib.hid (fun W (hf : Fr (fun _ => False) wo W) => show Rd W w.heap.size 1 A n X from HA.out.belowOf (Fr.toBel HI.out.bl hf) (Nat.le_refl _))
    have HqF := Lib.hid (fun W (hf : Fr (fun _ => False) wo W) => show w.heap.size + 3 ≤ W.heap.size from by have := HI.out.b2.lt; have := hf.size; omega)
    have HNx := Lib.hid (fun W wa v' (hf : Fr (fun _ => False) wo W) (hgr : W.grownBy wa (Value.slice none 0 0).ownBlock) (hown : wa.ownsRow (w.heap.size + 3) 9 1 v' n X) =>
      HI.out.step2 (n := n) (X := X) (hf.grown hgr (fun k hk => by cases hk)) hown)
    clear hcut
    go_upto_region 2 with fail
    go_cut [] (fun wx => ∃ v2, CpB w wx #[.int .i64 fr, .int .i64 sp, .slice A n c, .slice A' n' c'] fr sp v2 (.slice none 0 0) n 0 X [])
    case first =>
      go_wp2_with (at_builtin; refine wpList_append_rd _ rfl (.tmp 10) (.tmp 12) _ (by rfl) (w.heap.size + 3) 9 i1 (.string ⟨#[]⟩) 1 16 Tryz.underlying22 Hi1.out Hy0.out Hy1.out Hy2.out (by rfl) (by decide) (.slice none 0 0) 0 [] (by rfl) (World.ownsRow_nil _ _ _ _) _ A n c X (by rfl) (HS.out _ (Fr.refl _ _)) HX.out hk63 hk8 (HqF.out _ (Fr.refl _ _)) ?_; intro v' wa hown hgr hat; rw [Nat.zero_add, List.nil_append] at hown; obtain ⟨A2, c2, rfl, _, _, _⟩ := own_form hown; have HQ := Lib.hid (HNx.out _ wa _ (Fr.refl _ _) hgr hown); clear hown hat hgr; obtain ⟨⟨y0, y1⟩, _⟩ := HQ.out)
      go_meet
      exact ⟨_, HQ.out.2⟩
    case rest =>
      obtain ⟨v2, hI7⟩ := hcut
      have HI7 := Lib.hid hI7
      rename World => w7
      clear HS HqF HNx HI z0 z1
      apply_assumption
      have z0 : w7.cell? ⟨w.heap.size, 3, none⟩ = some (.slice A' n' c') := hI7.b0.cell 3
      have z1 : w7.cell? ⟨w.heap.size + 1 + 1, 3, none⟩ = some (.slice none 0 0) := hI7.b2.cell 3
      have HS := Lib.hid (fun W (hf : Fr (fun _ => False) w7 W) => show Rd W w.heap.size 1 A' n' Y from HC.out.belowOf (Fr.toBel HI7.out.bl hf) (Nat.le_refl _))
      have HqF := Lib.hid (fun W (hf : Fr (fun _ => False) w7 W) => show w.heap.size + 3 ≤ W.heap.size from by have := HI7.out.b2.lt; have := hf.size; omega)
      have HNx := Lib.hid (fun W wa v' (hf : Fr (fun _ => False) w7 W) (hgr : W.grownBy wa (Value.slice none 0 0).ownBlock) (hown : wa.ownsRow (w.heap.size + 3) 9 1 v' n' Y) =>
        HI7.out.step3 (n' := n') (Y := Y) (hf.grown hgr (fun k hk => by cases hk)) hown)
      clear hI7
      go_upto_region 3 with fail
      go_cut [] (fun wx => ∃ v3, CpB w wx #[.int .i64 fr, .int .i64 sp, .slice A n c, .slice A' n' c'] fr sp v2 v3 n n' X Y)
      case first =>
        go_wp2_with (at_builtin; refine wpList_append_rd _ rfl (.tmp 16) (.tmp 18) _ (by rfl) (w.heap.size + 3) 9 i1 (.string ⟨#[]⟩) 1 16 Tryz.underlying22 Hi1.out Hy0.out Hy1.out Hy2.out (by rfl) (by decide) (.slice none 0 0) 0 [] (by rfl) (World.ownsRow_nil _ _ _ _) _ A' n' c' Y (by rfl) (HS.out _ (Fr.refl _ _)) HY.out hr63 hr8 (HqF.out _ (Fr.refl _ _)) ?_; intro v' wa hown hgr hat; rw [Nat.zero_add, List.nil_append] at hown; obtain ⟨A2, c2, rfl, _, _, _⟩ := own_form hown; have HQ := Lib.hid (HNx.out _ wa _ (Fr.refl _ _) hgr hown); clear hown hat hgr; obtain ⟨⟨y0, y1⟩, _⟩ := HQ.out)
        go_meet
        exact ⟨_, HQ.out.2⟩
      case rest =>
        obtain ⟨v3, hI9⟩ := hcut
        rename World => w9
        clear HS HqF HNx HI7 z0 z1
        apply_assumption
        obtain ⟨A1, c1, rfl, _, _, hr1⟩ := own_form hI9.o2
        obtain ⟨A2, c2, rfl, _, _, hr2⟩ := own_form hI9.o3
        have z0 : w9.cell? ⟨w.heap.size + 1 + 1, 0, none⟩ = some (.int .i64 fr) := hI9.b2.cell 0
        have z1 : w9.cell? ⟨w.heap.size + 1 + 1, 1, none⟩ = some (.int .i64 sp) := hI9.b2.cell 1
        have z2 : w9.cell? ⟨w.heap.size + 1 + 1, 2, none⟩ = some (.slice A1 n c1) := hI9.b2.cell 2
        have z3 : w9.cell? ⟨w.heap.size + 1 + 1, 3, none⟩ = some (.slice A2 n' c2) := hI9.b2.cell 3
        have y0 := hI9.b1.frozen 0
        have y5 := hI9.b1.frozen 1
        have y6 := hI9.b1.frozen 2
        have y7 := hI9.b1.frozen 3
        have y1 := hI9.b1.cell 0
        have y2 := hI9.b1.cell 1
        have y3 := hI9.b1.cell 2
        have y4 := hI9.b1.cell 3
        simp only [List.getElem?_toArray, List.getElem?_cons_zero, List.getElem?_cons_succ] at y1 y2 y3 y4
        have HB := Lib.hid (((((hI9.b1.set_ 0 (.int .i64 fr)).set_ 1 (.int .i64 sp)).set_ 2 (.slice A1 n c1)).set_ 3 (.slice A2 n' c2)))
        have HR1 := Lib.hid hr1; have HR2 := Lib.hid hr2; have HI9 := Lib.hid hI9
        clear hr1 hr2 hI9
        go_wp2_with fail
        refine bodyPost_ret (res_cp _ _ (w.heap.size + 1) _ _ _ _ rfl HB.out) rfl ?_
        exact HI9.out.fin _ _ _ _
theorem res_own (tmps : Array Value) (W : World) (b : Nat) (v0 v1 v2 v3 : Value) (ha : tmps.getD 2 undef = .pointer (some ⟨b, 0, none⟩)) (hB : Blk W b 37 #[v0, v1, v2, v3]) :
    (results Tryz.f8 tmps).run Tryz.prog W = .ok (.agg #[v0, v1, v2, v3]) W := by
  have z0 := hB.cell 0; have z1 := hB.cell 1; have z2 := hB.cell 2; have z3 := hB.cell 3
  simp only [List.getElem?_toArray, List.getElem?_cons_zero, List.getElem?_cons_succ] at z0 z1 z2 z3
  simp only [Array.getD_eq_getD_getElem?] at ha
  simp [results, Tryz.results8, go_sem, ha, z0, z1, z2, z3]
end Go.Proofs.YtpbgonpmpjpljaaGreatDoor

namespace Go.Proofs.YtpbgonpmpjpljaaGreatDoor
open Go.RowKit
set_option linter.unusedVariables false

set_option maxRecDepth 100000 in
set_option maxHeartbeats 4000000 in
theorem ownB_any (fr sp : Int) (A A' : Option Addr) (n c n' c' : Nat) (X Y : List Value) (w : World) (hA : Rd w w.heap.size 1 A n X) (hC : Rd w w.heap.size 1 A' n' Y) (hX : ∀ u ∈ X, u.oneCell' = true) (hY : ∀ u ∈ Y, u.oneCell' = true) (hn : n ≤ 100000) (hn' : n' ≤ 100000) :
    Calls Tryz.prog 8 #[.agg #[.int .i64 fr, .int .i64 sp, .slice A n c, .slice A' n' c']] w fun e w' => CopyPost fr sp n n' X Y w e w' := by
  have hb0 : Below w.heap.size w ((w.alloc (.cells #[.int .i64 fr, .int .i64 sp, .slice A n c, .slice A' n' c'] 24)).alloc (.cells #[.int .i64 0, .int .i64 0, .slice none 0 0, .slice none 0 0] 37)) := Below.alloc (Below.alloc (Below.refl _ _) (Nat.le_refl _) _) (by simp) _
  have hk0 := Blk.new (w.alloc (.cells #[.int .i64 fr, .int .i64 sp, .slice A n c, .slice A' n' c'] 24)) 37 #[.int .i64 0, .int .i64 0, .slice none 0 0, .slice none 0 0]
  rw [World.size_alloc] at hk0
  have HB0 := Lib.hid hb0; have HK0 := Lib.hid hk0; have HX := Lib.hid hX; have HY := Lib.hid hY
  have H1 := Lib.hid ((hA.below hb0).more hb0.size); have H2 := Lib.hid ((hC.below hb0).more hb0.size)
  clear hb0 hk0 hA hC hX hY
  go_enter Tryz.func8, Tryz.ntmps8
  go_wp2_with fail
  refine (copy_any fr sp A A' n c n' c' X Y _ H1.out H2.out HX.out HY.out hn hn').mono ?_
  rintro e w5 ⟨A1, c1, A2, c2, rfl, h1, h2, hb⟩
  have HB := Lib.hid (Below.call HB0.out hb HB0.out.size)
  have hk := HK0.out.below hb HK0.out.lt
  have hq := hk.alloc (.cells #[.int .i64 fr, .int .i64 sp, .slice A1 n c1, .slice A2 n' c2] 24)
  have y0 := hq.frozen 0; have y1 := hq.frozen 1; have y2 := hq.frozen 2; have y3 := hq.frozen 3
  have x0 := hq.cell 0; have x1 := hq.cell 1; have x2 := hq.cell 2; have x3 := hq.cell 3
  simp only [List.getElem?_toArray, List.getElem?_cons_zero, List.getElem?_cons_succ] at x0 x1 x2 x3
  have HF := Lib.hid ((((hq.set_ 0 (.int .i64 fr)).set_ 1 (.int .i64 sp)).set_ 2 (.slice A1 n c1)).set_ 3 (.slice A2 n' c2))
  have HR1 := Lib.hid h1; have HR2 := Lib.hid h2
  have HC5 := Lib.hid (Below.call HB0.out hb HB0.out.size)
  clear hb hk hq h1 h2
  go_wp2_with fail
  refine bodyPost_ret (res_own _ _ (w.heap.size + 1) _ _ _ _ rfl HF.out) rfl ?_
  exact ownB_fin (by simp) HC5.out HR1.out HR2.out _ _ _ _
theorem one_strs {α : Type} (f : α → ByteArray) (l : List α) : ∀ u ∈ l.map (fun x => Value.string (f x)), u.oneCell' = true := by
  intro u hu
  obtain ⟨x, _, rfl⟩ := List.mem_map.1 hu
  rfl
/-- The same for names and chunks. -/
theorem ownArg_any (fr sp : Int) (A C : Option Addr) (n c m d : Nat) (N : List Bs) (K : List (List Nat)) (w : World) (hA : Rd w w.heap.size 1 A n (N.map fun s => .string (B8 s))) (hC : Rd w w.heap.size 1 C m (K.map fun z => .string (bytesOf z))) (hn : n ≤ 100000) (hm : m ≤ 100000) :
    Calls Tryz.prog 8 #[.agg #[.int .i64 fr, .int .i64 sp, .slice A n c, .slice C m d]] w fun e w' => ∃ A1 c1 A2 c2, e = .returned (.agg #[.int .i64 fr, .int .i64 sp, .slice A1 n c1, .slice A2 m c2]) ∧
      Rd w' w'.heap.size 1 A1 n (N.map fun s => .string (B8 s)) ∧ Rd w' w'.heap.size 1 A2 m (K.map fun z => .string (bytesOf z)) ∧ Below w.heap.size w w' := by
  refine (ownB_any fr sp A C n c m d _ _ w hA hC (one_strs _ _) (one_strs _ _) hn hm).mono ?_
  rintro e w' ⟨A1, c1, A2, c2, rfl, h1, h2, hb⟩
  exact ⟨A1, c1, A2, c2, rfl, own_slice h1, own_slice h2, hb⟩
end Go.Proofs.YtpbgonpmpjpljaaGreatDoor
