/- Reading values by what changes: plain facts. -/
import Derived.Test.YthgefobcohlegaaGreatDoorMkkX
namespace Go.Proofs.YthgefobcohlegaaGreatDoor
open Go.RowKit
set_option linter.unusedVariables false

def vAt (S : List Bool) (q n : Nat) : Nat := valN ((S.drop q).take n)
theorem vAt_lt (S : List Bool) (q n : Nat) : vAt S q n < 2 ^ n := Nat.lt_of_lt_of_le (valN_lt _) (Nat.pow_le_pow_right (by decide) (by rw [List.length_take]; omega))
theorem vAt_bits (S : List Bool) (q n : Nat) (h : q + n ≤ S.length) : bitsN (vAt S q n) n = (S.drop q).take n := by
  have e : ((S.drop q).take n).length = n := by rw [List.length_take, List.length_drop]; omega
  have := bitsN_valN ((S.drop q).take n)
  rw [e] at this; exact this
theorem take_two (S : List Bool) (q a b : Nat) : (S.drop q).take (a + b) = (S.drop q).take a ++ (S.drop (q + a)).take b := by rw [List.take_add, List.drop_drop]
theorem vAt_mid (A R : List Bool) (v n q : Nat) (hq : q = A.length) (h : v < 2 ^ n) : vAt (A ++ (bitsN v n ++ R)) q n = v := by
  subst hq
  unfold vAt
  rw [List.drop_append, List.drop_eq_nil_of_le (Nat.le_refl _), List.nil_append, Nat.sub_self, List.drop_zero, List.take_append_of_le_length (by rw [bitsN_len]; exact Nat.le_refl _), List.take_of_length_le (by rw [bitsN_len]; exact Nat.le_refl _), valN_bitsN, Nat.mod_eq_of_lt h]
theorem bitsN_inj {v u n : Nat} (hv : v < 2 ^ n) (hu : u < 2 ^ n) (h : bitsN v n = bitsN u n) : v = u := by
  have := congrArg valN h
  rw [valN_bitsN, valN_bitsN, Nat.mod_eq_of_lt hv, Nat.mod_eq_of_lt hu] at this
  exact this

inductive CRes where
  | err (c : Nat) : CRes
  | ok (x : Nat) (w : Win) (q : Nat) : CRes
def dAt (S : List Bool) (q : Nat) : Nat := if vAt S q 6 = 0 then 64 else vAt S q 6
def freshW (S : List Bool) (q : Nat) : Win := ⟨vAt S q 5, 64 - vAt S q 5 - dAt S (q + 5), dAt S (q + 5)⟩
def badC (fr : Bool) (w w' : Win) (x : Nat) : Prop := x = 0 ∨ (fr = true ∧ (hasW w (winOf x) ∨ winOf x ≠ w'))
instance (fr : Bool) (w w' : Win) (x : Nat) : Decidable (badC fr w w' x) := by unfold badC; infer_instance
def bodyC (S : List Bool) (fr : Bool) (w w' : Win) (q : Nat) : CRes :=
  if S.length < q + w'.d then .err 4 else if badC fr w w' (vAt S q w'.d * 2 ^ w'.t) then .err 0 else .ok (vAt S q w'.d * 2 ^ w'.t) w' (q + w'.d)
/-- What changes, from place q on, behind a window. -/
def chg (S : List Bool) (w : Win) (q : Nat) : CRes :=
  if S.length < q + 1 then .err 4 else if vAt S q 1 = 0 then .ok 0 w (q + 1) else
  if S.length < q + 2 then .err 4 else if vAt S (q + 1) 1 = 1 then
    if S.length < q + 13 then .err 4 else if 64 < vAt S (q + 2) 5 + dAt S (q + 7) then .err 0 else bodyC S true w (freshW S (q + 2)) (q + 13)
  else if w.d = 0 then .err 0 else bodyC S false w w (q + 2)
inductive MRes where
  | err (c : Nat) : MRes
  | ok (l : List Nat) (q : Nat) : MRes
/-- n values more, behind those of acc, from place q on. -/
def rdM (S : List Bool) : Nat → List Nat → Win → Nat → MRes
  | 0, acc, _, q => .ok acc q
  | n + 1, acc, w, q => if acc.length = 0 then (if S.length < q + 64 then .err 4 else rdM S n [vAt S q 64] w (q + 64)) else
    match chg S w q with
    | .err c => .err c
    | .ok x w' q' => rdM S n (acc ++ [acc.getD (acc.length - 1) 0 ^^^ x]) w' q'
theorem rdM_first_none {S : List Bool} {n q : Nat} {w : Win} {acc : List Nat} (h : acc.length = 0) (hl : S.length < q + 64) : rdM S (n + 1) acc w q = .err 4 := by simp only [rdM]; rw [if_pos h, if_pos hl]
theorem rdM_first {S : List Bool} {n q : Nat} {w : Win} {acc : List Nat} (h : acc.length = 0) (hl : ¬ S.length < q + 64) : rdM S (n + 1) acc w q = rdM S n [vAt S q 64] w (q + 64) := by simp only [rdM]; rw [if_pos h, if_neg hl]
theorem rdM_err {S : List Bool} {n q c : Nat} {w : Win} {acc : List Nat} (h : acc.length ≠ 0) (hc : chg S w q = .err c) : rdM S (n + 1) acc w q = .err c := by simp only [rdM, hc]; rw [if_neg h]
theorem rdM_next {S : List Bool} {n q x q' : Nat} {w w' : Win} {acc : List Nat} (h : acc.length ≠ 0) (hc : chg S w q = .ok x w' q') : rdM S (n + 1) acc w q = rdM S n (acc ++ [acc.getD (acc.length - 1) 0 ^^^ x]) w' q' := by simp only [rdM, hc]; rw [if_neg h]
theorem chg_1 {S : List Bool} {w : Win} {q : Nat} (h : S.length < q + 1) : chg S w q = .err 4 := by unfold chg; rw [if_pos h]
theorem chg_0 {S : List Bool} {w : Win} {q : Nat} (h : ¬ S.length < q + 1) (h0 : vAt S q 1 = 0) : chg S w q = .ok 0 w (q + 1) := by unfold chg; rw [if_neg h, if_pos h0]
theorem chg_2 {S : List Bool} {w : Win} {q : Nat} (h : S.length < q + 2) (h0 : vAt S q 1 ≠ 0) : chg S w q = .err 4 := by
  unfold chg; rw [if_neg h0, if_pos h]; split <;> rfl
theorem chg_old {S : List Bool} {w : Win} {q : Nat} (h : ¬ S.length < q + 2) (h0 : vAt S q 1 ≠ 0) (h1 : vAt S (q + 1) 1 ≠ 1) (hd : w.d ≠ 0) : chg S w q = bodyC S false w w (q + 2) := by
  unfold chg; rw [if_neg (by omega), if_neg h0, if_neg h, if_neg h1, if_neg hd]
theorem chg_nowin {S : List Bool} {w : Win} {q : Nat} (h : ¬ S.length < q + 2) (h0 : vAt S q 1 ≠ 0) (h1 : vAt S (q + 1) 1 ≠ 1) (hd : w.d = 0) : chg S w q = .err 0 := by
  unfold chg; rw [if_neg (by omega), if_neg h0, if_neg h, if_neg h1, if_pos hd]
theorem chg_3 {S : List Bool} {w : Win} {q : Nat} (h : ¬ S.length < q + 2) (h3 : S.length < q + 13) (h0 : vAt S q 1 ≠ 0) (h1 : vAt S (q + 1) 1 = 1) : chg S w q = .err 4 := by
  unfold chg; rw [if_neg (by omega), if_neg h0, if_neg h, if_pos h1, if_pos h3]
theorem chg_far {S : List Bool} {w : Win} {q : Nat} (h3 : ¬ S.length < q + 13) (h0 : vAt S q 1 ≠ 0) (h1 : vAt S (q + 1) 1 = 1) (h64 : 64 < vAt S (q + 2) 5 + dAt S (q + 7)) : chg S w q = .err 0 := by
  unfold chg; rw [if_neg (by omega), if_neg h0, if_neg (by omega), if_pos h1, if_neg h3, if_pos h64]
theorem chg_new {S : List Bool} {w : Win} {q : Nat} (h3 : ¬ S.length < q + 13) (h0 : vAt S q 1 ≠ 0) (h1 : vAt S (q + 1) 1 = 1) (h64 : ¬ 64 < vAt S (q + 2) 5 + dAt S (q + 7)) : chg S w q = bodyC S true w (freshW S (q + 2)) (q + 13) := by
  unfold chg; rw [if_neg (by omega), if_neg h0, if_neg (by omega), if_pos h1, if_neg h3, if_neg h64]
theorem body_none {S : List Bool} {fr : Bool} {w w' : Win} {q : Nat} (h : S.length < q + w'.d) : bodyC S fr w w' q = .err 4 := by unfold bodyC; rw [if_pos h]
theorem body_bad {S : List Bool} {fr : Bool} {w w' : Win} {q : Nat} (h : ¬ S.length < q + w'.d) (hb : badC fr w w' (vAt S q w'.d * 2 ^ w'.t)) : bodyC S fr w w' q = .err 0 := by unfold bodyC; rw [if_neg h, if_pos hb]
theorem body_ok {S : List Bool} {fr : Bool} {w w' : Win} {q : Nat} (h : ¬ S.length < q + w'.d) (hb : ¬ badC fr w w' (vAt S q w'.d * 2 ^ w'.t)) : bodyC S fr w w' q = .ok (vAt S q w'.d * 2 ^ w'.t) w' (q + w'.d) := by unfold bodyC; rw [if_neg h, if_neg hb]

theorem dAt_bd (S : List Bool) (q : Nat) : 1 ≤ dAt S q ∧ dAt S q ≤ 64 := by
  have := vAt_lt S q 6
  unfold dAt; split <;> omega
theorem dAt_bits (S : List Bool) (q : Nat) (h : q + 6 ≤ S.length) : bitsN (dAt S q) 6 = (S.drop q).take 6 := by
  rw [← vAt_bits S q 6 h]
  unfold dAt; split
  · rename_i e; rw [e, ← bitsN_mod 64 6]
  · rfl
theorem fresh_ok {S : List Bool} {q : Nat} (h : ¬ 64 < vAt S q 5 + dAt S (q + 5)) : (freshW S q).Ok := by
  have h1 := vAt_lt S q 5
  have h2 := dAt_bd S (q + 5)
  refine ⟨?_, h2.1, ?_⟩
  · show vAt S q 5 ≤ 31; omega
  · show vAt S q 5 + (64 - vAt S q 5 - dAt S (q + 5)) + dAt S (q + 5) = 64; omega
theorem one_true {S : List Bool} {q : Nat} (hl : q + 1 ≤ S.length) (h : vAt S q 1 ≠ 0) : (S.drop q).take 1 = [true] := by
  have h1 := vAt_lt S q 1
  have : vAt S q 1 = 1 := by omega
  rw [← vAt_bits S q 1 hl, this]; rfl
theorem one_false {S : List Bool} {q : Nat} (hl : q + 1 ≤ S.length) (h : vAt S q 1 ≠ 1) : (S.drop q).take 1 = [false] := by
  have h1 := vAt_lt S q 1
  have : vAt S q 1 = 0 := by omega
  rw [← vAt_bits S q 1 hl, this]; rfl
theorem parts_zero (w : Win) : mParts w 0 = [(0, 1)] := by unfold mParts; rw [if_pos rfl]
theorem parts_old {w : Win} {x : Nat} (h0 : x ≠ 0) (h : hasW w (winOf x)) : mParts w x = [(2, 2), (x / 2 ^ w.t, w.d)] := by unfold mParts; rw [if_neg h0, if_pos h]
theorem parts_new {w : Win} {x : Nat} (h0 : x ≠ 0) (h : ¬ hasW w (winOf x)) : mParts w x = [(3, 2), ((winOf x).a, 5), ((winOf x).d, 6), (x / 2 ^ (winOf x).t, (winOf x).d)] := by unfold mParts; rw [if_neg h0, if_neg h]
theorem mul_div_pow (v t : Nat) : v * 2 ^ t / 2 ^ t = v := Nat.mul_div_cancel _ (Nat.two_pow_pos _)

/-- Bits of an old window: what they tell is told so. -/
theorem chk_old {S : List Bool} {w : Win} {q : Nat} (hw : w.Ok) (hl : ¬ S.length < q + 2 + w.d) (h0 : vAt S q 1 ≠ 0) (h1 : vAt S (q + 1) 1 ≠ 1) (hx : vAt S (q + 2) w.d * 2 ^ w.t ≠ 0) :
    pBits (mParts w (vAt S (q + 2) w.d * 2 ^ w.t)) = (S.drop q).take (2 + w.d) := by
  have hh := (x_hasW hw _ (vAt_lt S (q + 2) w.d) hx).2
  rw [parts_old hx hh, pBits_cons, pBits_cons, mul_div_pow, take_two, take_two S q 1 1, one_true (by omega) h0, one_false (by omega) h1, vAt_bits _ _ _ (by omega)]
  show [true, false] ++ (_ ++ []) = _
  rw [List.append_nil]; rfl
theorem winOf_ext {k w : Win} (hk : k.Ok) (hw : w.Ok) (ha : k.a = w.a) (hd : k.d = w.d) : k = w := by
  have h1 := hk.2.2; have h2 := hw.2.2
  have ht : k.t = w.t := by omega
  cases k; cases w; simp_all
theorem chk_new {S : List Bool} {w : Win} {q : Nat} (hl : ¬ S.length < q + 13 + (freshW S (q + 2)).d) (h0 : vAt S q 1 ≠ 0) (h1 : vAt S (q + 1) 1 = 1) (h64 : ¬ 64 < vAt S (q + 2) 5 + dAt S (q + 7))
    (hx : vAt S (q + 13) (freshW S (q + 2)).d * 2 ^ (freshW S (q + 2)).t ≠ 0) :
    pBits (mParts w (vAt S (q + 13) (freshW S (q + 2)).d * 2 ^ (freshW S (q + 2)).t)) = (S.drop q).take (13 + (freshW S (q + 2)).d) ↔ ¬ badC true w (freshW S (q + 2)) (vAt S (q + 13) (freshW S (q + 2)).d * 2 ^ (freshW S (q + 2)).t) := by
  have hok : (freshW S (q + 2)).Ok := fresh_ok h64
  have hx64 := (x_hasW hok _ (vAt_lt S (q + 13) _) hx).1
  have hdiv := mul_div_pow (vAt S (q + 13) (freshW S (q + 2)).d) (freshW S (q + 2)).t
  have hbd := vAt_bits S (q + 13) (freshW S (q + 2)).d (by omega)
  obtain ⟨x, hxe⟩ : ∃ x, x = vAt S (q + 13) (freshW S (q + 2)).d * 2 ^ (freshW S (q + 2)).t := ⟨_, rfl⟩
  rw [← hxe] at hx hx64 hdiv ⊢
  have hb5 : (S.drop (q + 2)).take 5 = bitsN (freshW S (q + 2)).a 5 := (vAt_bits _ _ _ (by omega)).symm
  have hb6 : (S.drop (q + 7)).take 6 = bitsN (freshW S (q + 2)).d 6 := (dAt_bits _ _ (by omega)).symm
  have hrow : (S.drop q).take (13 + (freshW S (q + 2)).d) = [true, true] ++ (bitsN (freshW S (q + 2)).a 5 ++ (bitsN (freshW S (q + 2)).d 6 ++ bitsN (x / 2 ^ (freshW S (q + 2)).t) (freshW S (q + 2)).d)) := by
    rw [take_two, take_two S q 2 11, take_two S q 1 1, take_two S (q + 2) 5 6, one_true (by omega) h0, one_true (by omega) (by rw [h1]; decide), hb5, hb6, hdiv, hbd]
    simp
  rw [hrow]
  have hwk := winOf_ok x hx hx64
  have hk := hasW_x hwk x hx hx64 (has_self x hx hx64)
  generalize freshW S (q + 2) = w' at hok
  unfold badC
  by_cases hh : hasW w (winOf x)
  · rw [parts_old hx hh, pBits_cons]
    constructor
    · intro h
      exact absurd (congrArg (fun l => l[1]?) h) (by show some false ≠ some true; decide)
    · intro h
      exact absurd (.inr ⟨rfl, .inl hh⟩) h
  · rw [parts_new hx hh, pBits_cons, pBits_cons, pBits_cons, pBits_cons]
    show [true, true] ++ (bitsN (winOf x).a 5 ++ (bitsN (winOf x).d 6 ++ (bitsN (x / 2 ^ (winOf x).t) (winOf x).d ++ []))) = _ ↔ _
    rw [List.append_nil]
    constructor
    · intro h hb
      have e1 := List.append_cancel_left h
      obtain ⟨e2, e3⟩ := List.append_inj e1 (by rw [bitsN_len, bitsN_len])
      obtain ⟨e4, e5⟩ := List.append_inj e3 (by rw [bitsN_len, bitsN_len])
      have ha := bitsN_inj (by have := hwk.1; omega) (by have := hok.1; omega) e2
      rw [← bitsN_mod, ← bitsN_mod w'.d] at e4
      have hd := bitsN_inj (Nat.mod_lt _ (by decide)) (Nat.mod_lt _ (by decide)) e4
      have hd' : (winOf x).d = w'.d := by
        have h1 := hwk.2; have h2 := hok.2
        omega
      have he := winOf_ext hwk hok ha hd'
      rcases hb with hb | ⟨_, hb | hb⟩
      · exact hx hb
      · exact hh hb
      · exact hb he
    · intro h
      have he : winOf x = w' := by
        by_cases he : winOf x = w'
        · exact he
        · exact absurd (.inr ⟨rfl, .inr he⟩) h
      rw [he]

theorem xor_back (a x : Nat) : (a ^^^ x) ^^^ a = x := by rw [Nat.xor_comm a x, Nat.xor_assoc, Nat.xor_self, Nat.xor_zero]
theorem xor_forth (a b : Nat) : a ^^^ (b ^^^ a) = b := by rw [Nat.xor_comm b a, ← Nat.xor_assoc, Nat.xor_self, Nat.zero_xor]
theorem mP_snoc (l : List Nat) (v : Nat) : mP (l ++ [v]) l.length = mP l l.length := by
  have := mP_take (l := l ++ [v]) (m := l.length) l.length (Nat.le_refl _)
  rw [List.take_left] at this
  exact this.symm
theorem mW_snoc (l : List Nat) (v : Nat) : mW (l ++ [v]) l.length = mW l l.length := by
  have := mW_take (l := l ++ [v]) (m := l.length) l.length (Nat.le_refl _)
  rw [List.take_left] at this
  exact this.symm
theorem xAt_next (l : List Nat) (x : Nat) (h : l.length ≠ 0) : xAt (l ++ [l.getD (l.length - 1) 0 ^^^ x]) l.length = x := by
  have e1 : (l ++ [l.getD (l.length - 1) 0 ^^^ x]).getD l.length 0 = l.getD (l.length - 1) 0 ^^^ x := by rw [List.getD_eq_getElem?_getD]; simp
  have e2 : (l ++ [l.getD (l.length - 1) 0 ^^^ x]).getD (l.length - 1) 0 = l.getD (l.length - 1) 0 := by
    rw [List.getD_eq_getElem?_getD, List.getElem?_append_left (by omega), ← List.getD_eq_getElem?_getD]
  unfold xAt
  rw [e1, e2, xor_back]
theorem maskB_next (l : List Nat) (x : Nat) (h : l.length ≠ 0) : maskB (l ++ [l.getD (l.length - 1) 0 ^^^ x]) = maskB l ++ pBits (mParts (mW l l.length) x) := by
  unfold maskB
  rw [List.length_append, List.length_singleton, mP_succ _ h, pBits_append, xAt_next l x h, mW_snoc, mP_snoc]
theorem mW_next (l : List Nat) (x : Nat) (h : l.length ≠ 0) : mW (l ++ [l.getD (l.length - 1) 0 ^^^ x]) (l.length + 1) = mWin (mW l l.length) x := by
  rw [mW_succ _ h, xAt_next l x h, mW_snoc]

/-- What holds where some values are read that begin at place b. -/
structure MInv (S : List Bool) (b : Nat) (acc : List Nat) (w : Win) (q : Nat) : Prop where
  bits : maskB acc = (S.drop b).take (q - b)
  ble : b ≤ q
  le : q ≤ S.length
  win : mW acc acc.length = w
  lt : ∀ v ∈ acc, v < 18446744073709551616
theorem MInv.wok {S : List Bool} {b : Nat} {acc : List Nat} {w : Win} {q : Nat} (h : MInv S b acc w q) : w = w0 ∨ w.Ok := by rw [← h.win]; exact mW_ok h.lt _
theorem MInv.first {S : List Bool} {b : Nat} (h : ¬ S.length < b + 64) : MInv S b [vAt S b 64] w0 (b + 64) := by
  refine ⟨?_, by omega, by omega, rfl, fun v hv => ?_⟩
  · have := vAt_bits S b 64 (by omega)
    show bitsN (vAt S b 64) 64 ++ [] = _
    rw [List.append_nil, this, Nat.add_sub_cancel_left]
  · rw [List.mem_singleton] at hv
    rw [hv]; exact vAt_lt S b 64
theorem MInv.last {S : List Bool} {b : Nat} {acc : List Nat} {w : Win} {q : Nat} (h : MInv S b acc w q) : acc.getD (acc.length - 1) 0 < 18446744073709551616 := by
  rw [List.getD_eq_getElem?_getD]
  cases e : acc[acc.length - 1]? with
  | none => simp
  | some y => exact h.lt y (List.mem_of_getElem? e)
/-- The bits of one value more: are they as they would be made? -/
theorem MInv.chk {S : List Bool} {b : Nat} {acc : List Nat} {w : Win} {q : Nat} (h : MInv S b acc w q) (h0 : acc.length ≠ 0) (x m : Nat) : maskB (acc ++ [acc.getD (acc.length - 1) 0 ^^^ x]) = (S.drop b).take (q + m - b) ↔ pBits (mParts w x) = (S.drop q).take m := by
  have hb := h.ble
  rw [maskB_next acc x h0, h.win, h.bits, show q + m - b = (q - b) + m by omega, List.take_add, List.drop_drop, show b + (q - b) = q by omega]
  exact ⟨fun e => List.append_cancel_left e, fun e => by rw [e]⟩
theorem MInv.step {S : List Bool} {b : Nat} {acc : List Nat} {w w' : Win} {q x m : Nat} (h : MInv S b acc w q) (h0 : acc.length ≠ 0) (hp : pBits (mParts w x) = (S.drop q).take m) (hl : q + m ≤ S.length) (hw : mWin w x = w') (hx : x < 18446744073709551616) :
    MInv S b (acc ++ [acc.getD (acc.length - 1) 0 ^^^ x]) w' (q + m) := by
  refine ⟨(h.chk h0 x m).2 hp, by have := h.ble; omega, hl, ?_, fun v hv => ?_⟩
  · rw [List.length_append, List.length_singleton, mW_next acc x h0, h.win, hw]
  · rcases List.mem_append.1 hv with hv | hv
    · exact h.lt v hv
    · rw [List.mem_singleton] at hv
      rw [hv]; exact Nat.xor_lt_two_pow (n := 64) h.last hx
theorem MInv.same {S : List Bool} {b : Nat} {acc : List Nat} {w : Win} {q : Nat} (h : MInv S b acc w q) (h0 : acc.length ≠ 0) (hl : ¬ S.length < q + 1) (hv : vAt S q 1 = 0) : MInv S b (acc ++ [acc.getD (acc.length - 1) 0 ^^^ 0]) w (q + 1) :=
  h.step h0 (by rw [parts_zero, ← vAt_bits S q 1 (by omega), hv]; rfl) (by omega) (by unfold mWin; rw [if_pos rfl]) (by decide)
theorem MInv.old {S : List Bool} {b : Nat} {acc : List Nat} {w : Win} {q : Nat} (h : MInv S b acc w q) (h0 : acc.length ≠ 0) (hd : w.d ≠ 0) (hl : ¬ S.length < q + 2 + w.d) (h1 : vAt S q 1 ≠ 0) (h2 : vAt S (q + 1) 1 ≠ 1) (hx : vAt S (q + 2) w.d * 2 ^ w.t ≠ 0) :
    MInv S b (acc ++ [acc.getD (acc.length - 1) 0 ^^^ vAt S (q + 2) w.d * 2 ^ w.t]) w (q + (2 + w.d)) := by
  have hw : w.Ok := by
    rcases h.wok with e | e
    · rw [e] at hd; exact absurd rfl hd
    · exact e
  have hh := x_hasW hw _ (vAt_lt S (q + 2) w.d) hx
  exact h.step h0 (chk_old hw hl h1 h2 hx) (by omega) (by unfold mWin; rw [if_neg hx, if_pos hh.2]) hh.1
theorem MInv.new {S : List Bool} {b : Nat} {acc : List Nat} {w : Win} {q : Nat} (h : MInv S b acc w q) (h0 : acc.length ≠ 0) (hl : ¬ S.length < q + 13 + (freshW S (q + 2)).d) (h1 : vAt S q 1 ≠ 0) (h2 : vAt S (q + 1) 1 = 1) (h64 : ¬ 64 < vAt S (q + 2) 5 + dAt S (q + 7))
    (hb : ¬ badC true w (freshW S (q + 2)) (vAt S (q + 13) (freshW S (q + 2)).d * 2 ^ (freshW S (q + 2)).t)) :
    MInv S b (acc ++ [acc.getD (acc.length - 1) 0 ^^^ vAt S (q + 13) (freshW S (q + 2)).d * 2 ^ (freshW S (q + 2)).t]) (freshW S (q + 2)) (q + (13 + (freshW S (q + 2)).d)) := by
  have hx : vAt S (q + 13) (freshW S (q + 2)).d * 2 ^ (freshW S (q + 2)).t ≠ 0 := fun e => hb (.inl e)
  have hok : (freshW S (q + 2)).Ok := fresh_ok h64
  have hh := x_hasW hok _ (vAt_lt S (q + 13) _) hx
  refine h.step h0 ((chk_new hl h1 h2 h64 hx).2 hb) (by omega) ?_ hh.1
  unfold mWin
  rw [if_neg hx, if_neg (fun e => hb (.inr ⟨rfl, .inl e⟩))]
  by_cases he : winOf (vAt S (q + 13) (freshW S (q + 2)).d * 2 ^ (freshW S (q + 2)).t) = freshW S (q + 2)
  · exact he
  · exact absurd (.inr ⟨rfl, .inr he⟩) hb
theorem MInv.chg {S : List Bool} {b : Nat} {acc : List Nat} {w w' : Win} {q q' x : Nat} (h : MInv S b acc w q) (h0 : acc.length ≠ 0) (hc : chg S w q = .ok x w' q') : MInv S b (acc ++ [acc.getD (acc.length - 1) 0 ^^^ x]) w' q' := by
  unfold Go.Proofs.YthgefobcohlegaaGreatDoor.chg at hc
  split at hc
  · cases hc
  rename_i a1
  split at hc
  · rename_i a2
    injection hc with e1 e2 e3
    subst e1; subst e2; subst e3
    exact h.same h0 a1 a2
  rename_i a2
  split at hc
  · cases hc
  rename_i a3
  split at hc
  · rename_i a4
    split at hc
    · cases hc
    rename_i a5
    split at hc
    · cases hc
    rename_i a6
    unfold bodyC at hc
    split at hc
    · cases hc
    rename_i a7
    split at hc
    · cases hc
    rename_i a8
    injection hc with e1 e2 e3
    subst e1; subst e2; subst e3
    have := h.new h0 a7 a2 a4 a6 a8
    rw [← Nat.add_assoc] at this
    exact this
  · rename_i a4
    split at hc
    · cases hc
    rename_i a5
    unfold bodyC at hc
    split at hc
    · cases hc
    rename_i a7
    split at hc
    · cases hc
    rename_i a8
    injection hc with e1 e2 e3
    subst e1; subst e2; subst e3
    have := h.old h0 a5 a7 a2 a4 (fun e => a8 (.inl e))
    rw [← Nat.add_assoc] at this
    exact this

theorem vAt_of {S A R : List Bool} {v n q : Nat} (hS : S = A ++ (bitsN v n ++ R)) (hq : q = A.length) (hv : v < 2 ^ n) : vAt S q n = v := by
  rw [hS]; exact vAt_mid A R v n q hq hv
/-- What changes is read as it was put. -/
theorem chg_parts {A R : List Bool} {w : Win} (hw : w = w0 ∨ w.Ok) (x : Nat) (hx : x < 18446744073709551616) : chg (A ++ (pBits (mParts w x) ++ R)) w A.length = .ok x (mWin w x) (A.length + (pBits (mParts w x)).length) := by
  by_cases h0 : x = 0
  · subst h0
    have e : pBits (mParts w 0) = bitsN 0 1 := by rw [parts_zero]; rfl
    rw [e]
    have hv : vAt (A ++ (bitsN 0 1 ++ R)) A.length 1 = 0 := vAt_mid A R 0 1 _ rfl (by decide)
    rw [chg_0 (by simp [bitsN_len]) hv]
    unfold mWin; rw [if_pos rfl, bitsN_len]
  by_cases hh : hasW w (winOf x)
  · have hk := has_ok hw hh
    obtain ⟨x1, x2⟩ := hasW_x hk x h0 hx hh
    have e : pBits (mParts w x) = bitsN 1 1 ++ (bitsN 0 1 ++ bitsN (x / 2 ^ w.t) w.d) := by rw [parts_old h0 hh, pBits_cons, pBits_cons]; show [true, false] ++ (_ ++ []) = _; rw [List.append_nil]; rfl
    obtain ⟨S, hS⟩ : ∃ S, S = A ++ (pBits (mParts w x) ++ R) := ⟨_, rfl⟩
    have hl : S.length = A.length + (2 + w.d) + R.length := by rw [hS, e]; simp only [List.length_append, bitsN_len]; omega
    have v1 : vAt S A.length 1 = 1 := vAt_of (A := A) (R := bitsN 0 1 ++ (bitsN (x / 2 ^ w.t) w.d ++ R)) (by rw [hS, e]; simp only [List.append_assoc]) rfl (by decide)
    have v2 : vAt S (A.length + 1) 1 = 0 := vAt_of (A := A ++ bitsN 1 1) (R := bitsN (x / 2 ^ w.t) w.d ++ R) (by rw [hS, e]; simp only [List.append_assoc]) (by rw [List.length_append, bitsN_len]) (by decide)
    have v3 : vAt S (A.length + 2) w.d = x / 2 ^ w.t := vAt_of (A := A ++ (bitsN 1 1 ++ bitsN 0 1)) (R := R) (by rw [hS, e]; simp only [List.append_assoc]) (by simp only [List.length_append, bitsN_len]) x1
    rw [← hS, chg_old (by omega) (by rw [v1]; decide) (by rw [v2]; decide) (by have := hk.2.1; omega), body_ok (by omega) (by rw [v3, x2]; rintro (h | ⟨h, _⟩); exact h0 h; cases h), v3, x2]
    unfold mWin; rw [if_neg h0, if_pos hh, e]
    congr 1
    simp only [List.length_append, bitsN_len]; omega
  · have hk := winOf_ok x h0 hx
    obtain ⟨x1, x2⟩ := hasW_x hk x h0 hx (has_self x h0 hx)
    have hka := hk.1; have hkd := hk.2.1; have hks := hk.2.2
    have e : pBits (mParts w x) = bitsN 1 1 ++ (bitsN 1 1 ++ (bitsN (winOf x).a 5 ++ (bitsN ((winOf x).d % 64) 6 ++ bitsN (x / 2 ^ (winOf x).t) (winOf x).d))) := by
      rw [parts_new h0 hh, pBits_cons, pBits_cons, pBits_cons, pBits_cons, show bitsN ((winOf x).d % 64) 6 = bitsN (winOf x).d 6 from bitsN_mod _ 6]
      show [true, true] ++ (_ ++ (_ ++ (_ ++ []))) = _
      rw [List.append_nil]; rfl
    obtain ⟨S, hS⟩ : ∃ S, S = A ++ (pBits (mParts w x) ++ R) := ⟨_, rfl⟩
    have hl : S.length = A.length + (13 + (winOf x).d) + R.length := by rw [hS, e]; simp only [List.length_append, bitsN_len]; omega
    have v1 : vAt S A.length 1 = 1 := vAt_of (A := A) (R := bitsN 1 1 ++ (bitsN (winOf x).a 5 ++ (bitsN ((winOf x).d % 64) 6 ++ (bitsN (x / 2 ^ (winOf x).t) (winOf x).d ++ R)))) (by rw [hS, e]; simp only [List.append_assoc]) rfl (by decide)
    have v2 : vAt S (A.length + 1) 1 = 1 := vAt_of (A := A ++ bitsN 1 1) (R := bitsN (winOf x).a 5 ++ (bitsN ((winOf x).d % 64) 6 ++ (bitsN (x / 2 ^ (winOf x).t) (winOf x).d ++ R))) (by rw [hS, e]; simp only [List.append_assoc]) (by rw [List.length_append, bitsN_len]) (by decide)
    have v3 : vAt S (A.length + 2) 5 = (winOf x).a := vAt_of (A := A ++ (bitsN 1 1 ++ bitsN 1 1)) (R := bitsN ((winOf x).d % 64) 6 ++ (bitsN (x / 2 ^ (winOf x).t) (winOf x).d ++ R)) (by rw [hS, e]; simp only [List.append_assoc]) (by simp only [List.length_append, bitsN_len]) (by omega)
    have v4 : vAt S (A.length + 7) 6 = (winOf x).d % 64 := vAt_of (A := A ++ (bitsN 1 1 ++ (bitsN 1 1 ++ bitsN (winOf x).a 5))) (R := bitsN (x / 2 ^ (winOf x).t) (winOf x).d ++ R) (by rw [hS, e]; simp only [List.append_assoc]) (by simp only [List.length_append, bitsN_len]) (Nat.mod_lt _ (by decide))
    have v5 : vAt S (A.length + 13) (winOf x).d = x / 2 ^ (winOf x).t := vAt_of (A := A ++ (bitsN 1 1 ++ (bitsN 1 1 ++ (bitsN (winOf x).a 5 ++ bitsN ((winOf x).d % 64) 6)))) (R := R) (by rw [hS, e]; simp only [List.append_assoc]) (by simp only [List.length_append, bitsN_len]) x1
    have hd : dAt S (A.length + 7) = (winOf x).d := by unfold dAt; rw [v4]; split <;> omega
    have hf : freshW S (A.length + 2) = winOf x := by
      have e2 : freshW S (A.length + 2) = ⟨(winOf x).a, 64 - (winOf x).a - (winOf x).d, (winOf x).d⟩ := by
        unfold freshW
        rw [v3, show A.length + 2 + 5 = A.length + 7 by omega, hd]
      rw [e2]
      have : 64 - (winOf x).a - (winOf x).d = (winOf x).t := by omega
      rw [this]
    rw [← hS, chg_new (by omega) (by rw [v1]; decide) v2 (by rw [v3, hd]; omega), hf, body_ok (by omega) (by rw [v5, x2]; rintro (h | ⟨_, h | h⟩); exact h0 h; exact hh h; exact h rfl), v5, x2]
    unfold mWin; rw [if_neg h0, if_neg hh, e]
    congr 1
    simp only [List.length_append, bitsN_len]; omega
theorem mP_more (l : List Nat) (k : Nat) : ∀ d, ∃ R, mP l (k + 1 + d) = mP l (k + 1) ++ R
  | 0 => ⟨[], by simp⟩
  | d + 1 => by
    obtain ⟨R, h⟩ := mP_more l k d
    rw [show k + 1 + (d + 1) = (k + 1 + d) + 1 by omega, mP_succ l (by omega), h, List.append_assoc]
    exact ⟨_, rfl⟩
theorem rdM_back {l : List Nat} (A R0 : List Bool) (hl : ∀ x ∈ l, x < 18446744073709551616) : ∀ d k, k + 1 + d = l.length → rdM (A ++ (maskB l ++ R0)) d (l.take (k + 1)) (mW l (k + 1)) (A.length + (pBits (mP l (k + 1))).length) = .ok l (A.length + (maskB l).length)
  | 0, k, h => by
    have e : k + 1 = l.length := by omega
    rw [e, List.take_length]; rfl
  | d + 1, k, h => by
    have hlen : (l.take (k + 1)).length = k + 1 := by rw [List.length_take]; omega
    obtain ⟨R, hR⟩ := mP_more l (k + 1) d
    have hS : maskB l = pBits (mP l (k + 1)) ++ (pBits (mParts (mW l (k + 1)) (xAt l (k + 1))) ++ pBits R) := by
      unfold maskB
      rw [← h, show k + 1 + (d + 1) = k + 1 + 1 + d by omega, hR, mP_succ l (by omega), pBits_append, pBits_append, List.append_assoc]
    have hc := chg_parts (A := A ++ pBits (mP l (k + 1))) (R := pBits R ++ R0) (mW_ok hl (k + 1)) (xAt l (k + 1)) (xAt_lt hl _)
    rw [show A ++ pBits (mP l (k + 1)) ++ (pBits (mParts (mW l (k + 1)) (xAt l (k + 1))) ++ (pBits R ++ R0)) = A ++ (maskB l ++ R0) by rw [hS]; simp only [List.append_assoc], List.length_append] at hc
    rw [rdM_next (by omega) hc]
    have hnext : l.take (k + 1) ++ [(l.take (k + 1)).getD ((l.take (k + 1)).length - 1) 0 ^^^ xAt l (k + 1)] = l.take (k + 1 + 1) := by
      have hk : k + 1 < l.length := by omega
      have e1 : (l.take (k + 1)).getD ((l.take (k + 1)).length - 1) 0 = l.getD k 0 := by
        rw [hlen, Nat.add_sub_cancel, List.getD_eq_getElem?_getD, List.getD_eq_getElem?_getD, List.getElem?_take, if_pos (by omega)]
      rw [e1]
      unfold xAt
      rw [Nat.add_sub_cancel, xor_forth, show l.take (k + 1 + 1) = l.take (k + 1) ++ l[k + 1]?.toList from List.take_add_one, List.getD_eq_getElem?_getD, List.getElem?_eq_getElem hk]
      rfl
    rw [hnext]
    have hq : A.length + (pBits (mP l (k + 1))).length + (pBits (mParts (mW l (k + 1)) (xAt l (k + 1)))).length = A.length + (pBits (mP l (k + 1 + 1))).length := by
      rw [mP_succ l (k := k + 1) (by omega), pBits_append, List.length_append, Nat.add_assoc]
    rw [hq, ← mW_succ l (k := k + 1) (by omega)]
    exact rdM_back A R0 hl d (k + 1) (by omega)
/-- Values are read as they were put. -/
theorem rdM_mask {l : List Nat} (A R0 : List Bool) (hl : ∀ x ∈ l, x < 18446744073709551616) : rdM (A ++ (maskB l ++ R0)) l.length [] w0 A.length = .ok l (A.length + (maskB l).length) := by
  cases l with
  | nil => rfl
  | cons v l =>
    obtain ⟨R, hR⟩ := mP_more (v :: l) 0 l.length
    have hS : maskB (v :: l) = bitsN v 64 ++ pBits R := by
      unfold maskB
      rw [List.length_cons, show l.length + 1 = 0 + 1 + l.length by omega, hR, pBits_append]
      show (bitsN v 64 ++ []) ++ _ = _
      rw [List.append_nil]
    have hv : vAt (A ++ (maskB (v :: l) ++ R0)) A.length 64 = v := vAt_of (R := pBits R ++ R0) (by rw [hS]; simp only [List.append_assoc]) rfl (hl v List.mem_cons_self)
    rw [List.length_cons, rdM_first rfl (by rw [hS]; simp only [List.length_append, bitsN_len]; omega), hv]
    have := rdM_back A R0 hl l.length 0 (by rw [List.length_cons]; omega)
    have e : (pBits (mP (v :: l) (0 + 1))).length = 64 := by show (bitsN v 64 ++ []).length = _; rw [List.append_nil, bitsN_len]
    rw [e] at this
    exact this
end Go.Proofs.YthgefobcohlegaaGreatDoor

namespace Go.Proofs.YthgefobcohlegaaGreatDoor
open Go.RowKit
set_option linter.unusedVariables false

theorem rdM_len {S : List Bool} : ∀ (n : Nat) (acc : List Nat) (w : Win) (q : Nat) (l : List Nat) (p : Nat), rdM S n acc w q = .ok l p → l.length = acc.length + n := by
  intro n
  induction n with
  | zero => intro acc w q l p h; injection h with h1 h2; subst h1; rfl
  | succ n ih =>
    intro acc w q l p h
    simp only [rdM] at h
    split at h
    · rename_i h0
      split at h
      · cases h
      · have := ih _ _ _ _ _ h; rw [List.length_singleton] at this; omega
    · split at h
      · cases h
      · have := ih _ _ _ _ _ h; rw [List.length_append, List.length_singleton] at this; omega
theorem chg_lt {S : List Bool} {w w' : Win} {q q' x : Nat} (hw : w = w0 ∨ w.Ok) (h : chg S w q = .ok x w' q') : x < 18446744073709551616 ∧ (w' = w0 ∨ w'.Ok) := by
  unfold chg at h
  split at h
  · cases h
  split at h
  · injection h with e1 e2 e3
    subst e1; subst e2
    exact ⟨by decide, hw⟩
  split at h
  · cases h
  split at h
  · split at h
    · cases h
    split at h
    · cases h
    rename_i h64
    unfold bodyC at h
    split at h
    · cases h
    split at h
    · cases h
    · rename_i hb
      injection h with e1 e2 e3
      subst e1; subst e2
      exact ⟨(x_hasW (fresh_ok h64) _ (vAt_lt _ _ _) (fun e => hb (.inl e))).1, .inr (fresh_ok h64)⟩
  · split at h
    · cases h
    rename_i hd
    have hok : w.Ok := by
      rcases hw with e | e
      · rw [e] at hd; exact absurd rfl hd
      · exact e
    unfold bodyC at h
    split at h
    · cases h
    split at h
    · cases h
    · rename_i hb
      injection h with e1 e2 e3
      subst e1; subst e2
      exact ⟨(x_hasW hok _ (vAt_lt _ _ _) (fun e => hb (.inl e))).1, hw⟩
end Go.Proofs.YthgefobcohlegaaGreatDoor
