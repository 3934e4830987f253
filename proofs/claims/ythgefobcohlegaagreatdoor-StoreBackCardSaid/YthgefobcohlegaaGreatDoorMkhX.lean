/- How a head lies in memory: its map, its lines; an append onto a line's slice. -/
import Derived.Test.YthgefobcohlegaaGreatDoorMkcX
import Derived.Test.YthgefobcohlegaaGreatDoorMkgX
import Derived.Maps.OwnSet
import Derived.Maps.RangeWalk
import Derived.ArgAppend
import Derived.Test.YthgefobcohlegaaGreatDoorBaseX
import Derived.Test.YthgefobcohlegaaGreatDoorMkeX
import Derived.Lib.ItoaMem
import Derived.Lib.AtoiTie
import Derived.Lib.AtoiAllCases
namespace Go.Proofs.YthgefobcohlegaaGreatDoor
open Go.RowKit Go.Maps
set_option linter.unusedVariables false

/-- A line in memory: its series, its block, its slice, its points, its last tick. -/
structure HLn where
  nm : Bs
  bk : Nat
  v : Value
  pts : List (Int × Int)
  last : Int
def absL (L : List HLn) : List HA := L.map fun x => (x.nm, x.pts, x.last)
/-- What a pointer to a line reads as: its block's number. -/
def ptrR (v : Value) : Option (DataW Unit × List MemPlace) := match v with
  | .pointer (some ⟨b, 0, none⟩) => some (.lit (.int .i64 (b : Int)), [])
  | .pointer none => some (.nil, [])
  | _ => none
theorem ptrR_mk (b : Nat) : ptrR (.pointer (some ⟨b, 0, none⟩)) = some (.lit (.int .i64 (b : Int)), []) := rfl
theorem ptrR_inv {v : Value} {b : Nat} {ps : List MemPlace} (h : ptrR v = some (.lit (.int .i64 (b : Int)), ps)) : v = .pointer (some ⟨b, 0, none⟩) := by
  unfold ptrR at h
  split at h
  · rename_i c
    have h := Option.some.inj h
    have h := congrArg Prod.fst h
    injection h with h
    injection h with _ h
    have : c = b := by omega
    rw [this]
  · have h := Option.some.inj h
    have h := congrArg Prod.fst h
    cases h
  · cases h
theorem ptrR_nil {v : Value} {ps : List MemPlace} (h : ptrR v = some (.nil, ps)) : v = .pointer none := by
  unfold ptrR at h
  split at h
  · have h := Option.some.inj h
    have h := congrArg Prod.fst h
    cases h
  · rfl
  · cases h
def capOf : Value → Nat
  | .slice _ _ c => c
  | _ => 0
/-- The block that a slice may be appended to in place. -/
def ownZB (v : Value) : Option Nat := if capOf v = 0 then none else v.ownBlock
/-- A slice of one's own, or one of no room at all. -/
def OwnZ (w : World) (e : TypeId) (size : Nat) (v : Value) (n : Nat) (xs : List Value) : Prop :=
  (n = 0 ∧ xs = [] ∧ ∃ A, v = .slice A 0 0) ∨ (capOf v ≠ 0 ∧ w.ownsRow 0 e size v n xs)
theorem OwnZ.of_own {w : World} {base : Nat} {e : TypeId} {size n : Nat} {v : Value} {xs : List Value} (h : w.ownsRow base e size v n xs) : OwnZ w e size v n xs := by
  by_cases hc : capOf v = 0
  · obtain ⟨A, c, rfl, hn, _, hr⟩ := own_form h
    have hc' : c = 0 := hc
    subst hc'
    obtain rfl : n = 0 := by omega
    have := hr.1
    exact .inl ⟨rfl, List.eq_nil_of_length_eq_zero (by simpa using this), A, rfl⟩
  · exact .inr ⟨hc, own_base h (Nat.zero_le _)⟩
theorem OwnZ.form {w : World} {e : TypeId} {size n : Nat} {v : Value} {xs : List Value} (h : OwnZ w e size v n xs) :
    ∃ A c, v = .slice A n c ∧ n ≤ c ∧ c ≤ maxLen ∧ Rd w w.heap.size size A n xs := by
  rcases h with ⟨rfl, rfl, A, rfl⟩ | ⟨_, h⟩
  · exact ⟨A, 0, rfl, Nat.le_refl _, Nat.zero_le _, Rd.empty⟩
  · exact own_form h
theorem OwnZ.fr {S : Nat → Prop} {w w' : World} {e : TypeId} {size n : Nat} {v : Value} {xs : List Value} (h : OwnZ w e size v n xs) (hf : Fr S w w') (hn : ∀ k, ownZB v = some k → ¬ S k) : OwnZ w' e size v n xs := by
  rcases h with h | ⟨hc, h⟩
  · exact .inl h
  · exact .inr ⟨hc, hf.own h fun k hk => hn k (by unfold ownZB; rw [if_neg hc]; exact hk)⟩
theorem OwnZ.lt {w : World} {e : TypeId} {size n : Nat} {v : Value} {xs : List Value} (h : OwnZ w e size v n xs) : ∀ k, ownZB v = some k → k < w.heap.size := by
  intro k hk
  rcases h with ⟨_, _, A, rfl⟩ | ⟨hc, h⟩
  · simp [ownZB, capOf] at hk
  · unfold ownZB at hk
    rw [if_neg hc] at hk
    exact (own_lt h k hk).2
theorem ownZB_le {v : Value} {k : Nat} (h : ownZB v = some k) : v.ownBlock = some k := by
  unfold ownZB at h
  split at h
  · cases h
  · exact h
theorem OwnZ.ne_blk {w : World} {e t : TypeId} {size n g : Nat} {v : Value} {xs : List Value} {cs : Array Value} (h : OwnZ w e size v n xs) (hg : Blk w g t cs) (hne : e ≠ t) : ownZB v ≠ some g := by
  intro hz
  rcases h with ⟨_, _, A, rfl⟩ | ⟨hc, h⟩
  · simp [ownZB, capOf] at hz
  · exact own_ne_blk h hg hne (ownZB_le hz).symm

def LineAt (w : World) (F : Nat → Prop) (x : HLn) : Prop :=
  Blk w x.bk 114 #[x.v, .int .i64 x.last] ∧ OwnZ w 39 2 x.v x.pts.length (ptsC x.pts) ∧ F x.bk ∧ ∀ g, ownZB x.v = some g → F g
def Apart (x y : HLn) : Prop := x.bk ≠ y.bk ∧ (ownZB x.v = none ∨ ownZB x.v ≠ ownZB y.v)
theorem Apart.symm {x y : HLn} (h : Apart x y) : Apart y x := by
  refine ⟨fun e => h.1 e.symm, ?_⟩
  rcases h.2 with h2 | h2
  · cases hy : ownZB y.v with
    | none => exact .inl rfl
    | some g => exact .inr (by rw [h2]; simp)
  · exact .inr (fun e => h2 e.symm)
/-- The map's datum says just the lines' blocks. -/
def DOf (D : DataW Unit) (L : List HLn) : Prop :=
  Maps.size D = L.length ∧ (∀ s : Bs, Maps.has D (.string s) = L.any fun x => x.nm == s) ∧ ∀ x ∈ L, ∀ z, D.atKey (.string x.nm) z = .lit (.int .i64 (x.bk : Int))
structure HeadAt (w : World) (F : Nat → Prop) (hb mb : Nat) (D : DataW Unit) (L : List HLn) : Prop where
  hd : Blk w hb 110 #[.map (some mb)]
  mp : w.ownsMap Tryz.prog 9 ptrR mb L.length D
  dof : DOf D L
  ln : ∀ x ∈ L, LineAt w F x
  ap : L.Pairwise Apart
  fh : F hb
  fm : F mb
  srt : hSrt (absL L)
theorem ownsMap_blk {P : Program} {k : TypeId} {R : Value → Option (DataW Unit × List MemPlace)} {w w' : World} {b n : Nat} {D : DataW Unit} (h : w.ownsMap P k R b n D) (hb : w'.heap[b]? = w.heap[b]?) : w'.ownsMap P k R b n D := by
  obtain ⟨es, clock, h1, h2, h3, h4⟩ := h
  exact ⟨es, clock, hb.trans h1, h2, h3, h4⟩
theorem LineAt.fr {S F : Nat → Prop} {w w' : World} {x : HLn} (h : LineAt w F x) (hf : Fr S w w') (hn : ∀ k, F k → ¬ S k) : LineAt w' F x :=
  ⟨hf.blk h.1 (hn _ h.2.2.1), h.2.1.fr hf (fun k hk => hn k (h.2.2.2 k hk)), h.2.2⟩
theorem HeadAt.fr {S F : Nat → Prop} {w w' : World} {hb mb : Nat} {D : DataW Unit} {L : List HLn} (h : HeadAt w F hb mb D L) (hf : Fr S w w') (hn : ∀ k, F k → ¬ S k) : HeadAt w' F hb mb D L :=
  ⟨hf.blk h.hd (hn _ h.fh), ownsMap_blk h.mp (hf.block _ h.mp.lt (hn _ h.fm)), h.dof, fun x hx => (h.ln x hx).fr hf hn, h.ap, h.fh, h.fm, h.srt⟩
theorem HeadAt.below {F : Nat → Prop} {w w' : World} {hb mb : Nat} {D : DataW Unit} {L : List HLn} (h : HeadAt w F hb mb D L) (hf : Below w.heap.size w w') : HeadAt w' F hb mb D L :=
  h.fr (Fr.ofBelow hf) (fun _ _ h => h)
theorem HeadAt.mono {F F' : Nat → Prop} {w : World} {hb mb : Nat} {D : DataW Unit} {L : List HLn} (h : HeadAt w F hb mb D L) (hF : ∀ k, F k → F' k) : HeadAt w F' hb mb D L :=
  ⟨h.hd, h.mp, h.dof, fun x hx => ⟨(h.ln x hx).1, (h.ln x hx).2.1, hF _ (h.ln x hx).2.2.1, fun g hg => hF _ ((h.ln x hx).2.2.2 g hg)⟩, h.ap, hF _ h.fh, hF _ h.fm, h.srt⟩

theorem strKeyed : Keyed Tryz.prog 9 := string_keyed Tryz.underlying9
theorem zeroLn (w : World) : (zeroValue 111).run Tryz.prog w = .ok (.pointer none) w := by kernel_rfl
theorem keyStr {s : Bs} (h : s.length ≤ 1000000) : keyOf Tryz.prog 9 (.string (B8 s)) = some (.string s) := by
  have := WideMaps.keyOf_string_mk (P := Tryz.prog) Tryz.underlying9 (s := B8 s) (by rw [B8_size]; unfold maxLen; omega)
  rw [this]
  rfl
/-- A line of the list by its series. -/
def lnFind (L : List HLn) (s : Bs) : Option HLn := L.find? fun x => x.nm == s
theorem lnFind_abs (L : List HLn) (s : Bs) : hFind (absL L) s = (lnFind L s).map fun x => (x.nm, x.pts, x.last) := by
  unfold hFind absL lnFind
  rw [List.find?_map]
  rfl
theorem lnFind_mem {L : List HLn} {s : Bs} {x : HLn} (h : lnFind L s = some x) : x ∈ L ∧ x.nm = s := by
  unfold lnFind at h
  exact ⟨List.mem_of_find?_eq_some h, by simpa using List.find?_some h⟩
theorem lnFind_any {L : List HLn} {s : Bs} : (L.any fun x => x.nm == s) = (lnFind L s).isSome := by
  unfold lnFind
  induction L with
  | nil => rfl
  | cons a L ih =>
    rw [List.any_cons, List.find?_cons]
    cases a.nm == s with
    | true => rfl
    | false => exact ih
/-- A look at the map: 'x, ok := h.l[s]'. -/
theorem HeadAt.look {F : Nat → Prop} {w : World} {hb mb : Nat} {D : DataW Unit} {L : List HLn} (h : HeadAt w F hb mb D L) (s : Bs) (hs : s.length ≤ 1000000) :
    (∀ x, lnFind L s = some x → (Instr.lookup 108 (.map (some mb)) (.string (B8 s)) true).run Tryz.prog w = .ok (.tuple #[.pointer (some ⟨x.bk, 0, none⟩), .bool true]) w) ∧
    (lnFind L s = none → (Instr.lookup 108 (.map (some mb)) (.string (B8 s)) true).run Tryz.prog w = .ok (.tuple #[.pointer none, .bool false]) w) := by
  obtain ⟨v, ps, hrun, hv⟩ := h.mp.look_ok strKeyed Tryz.underlying108 (zeroLn w) (zd := .nil) (zp := []) rfl (keyStr hs)
  rw [h.dof.2.1 s, lnFind_any] at hrun
  refine ⟨fun x hx => ?_, fun hx => ?_⟩
  · obtain ⟨h1, h2⟩ := lnFind_mem hx
    rw [hx] at hrun
    rw [← h2, h.dof.2.2 x h1] at hv
    rw [ptrR_inv hv] at hrun
    exact hrun
  · have hh : Maps.has D (.string s) = false := by rw [h.dof.2.1 s, lnFind_any, hx]; rfl
    rw [hx] at hrun
    rw [Maps.atKey_of_not_has hh] at hv
    rw [ptrR_nil hv] at hrun
    exact hrun
/-- .. without 'ok'. -/
theorem HeadAt.look1 {F : Nat → Prop} {w : World} {hb mb : Nat} {D : DataW Unit} {L : List HLn} (h : HeadAt w F hb mb D L) (x : HLn) (hx : x ∈ L) (hs : x.nm.length ≤ 1000000) :
    (Instr.lookup 108 (.map (some mb)) (.string (B8 x.nm)) false).run Tryz.prog w = .ok (.pointer (some ⟨x.bk, 0, none⟩)) w := by
  obtain ⟨v, ps, hrun, hv⟩ := h.mp.lookup strKeyed Tryz.underlying108 (zeroLn w) (zd := .nil) (zp := []) rfl (keyStr hs)
  rw [h.dof.2.2 x hx] at hv
  rw [ptrR_inv hv] at hrun
  exact hrun

section
variable {P : Program} {w : World}
/-- An append onto a slice of one's own, or of no room. -/
theorem run_append_rz (t ty e : TypeId) (i : TypeInfo) (z : Value) (size bytes : Nat) (ht : P.underlying t = some (.slice e)) (hi : P.info? e = some i) (hz : i.zero = some z)
    (hsize : i.size = size) (hby : i.bytes = bytes) (hzs : z.cells.size = size) (hsz : 0 < size)
    (v : Value) (n : Nat) (xs : List Value) (hown : OwnZ w e size v n xs)
    (B : Nat) (A : Option Addr) (m c : Nat) (news : List Value) (hr : Rd w B size A m news) (h1 : ∀ u ∈ news, u.oneCell' = true) (hm : 0 < m)
    (h63 : n + m ≤ maxLen) (hbytes : (n + m) * bytes ≤ 140737488355328) :
    ∃ v' w', (Builtin.append_ #[t, t] ty #[v, .slice A m c]).run P w = .ok v' w' ∧ w'.ownsRow 0 e size v' (n + m) (xs ++ news) ∧ w.grownBy w' (ownZB v) ∧ (v'.ownBlock = ownZB v ∨ v'.ownBlock = some w.heap.size) ∧ capOf v' ≠ 0 := by
  have cap_of : ∀ {v' : Value} {w' : World}, w'.ownsRow 0 e size v' (n + m) (xs ++ news) → capOf v' ≠ 0 := fun {v' w'} h => by
    obtain ⟨A', c', rfl, h1, _, _⟩ := own_form h
    show c' ≠ 0
    omega
  rcases hown with ⟨rfl, rfl, A0, rfl⟩ | ⟨hc, hown⟩
  · obtain ⟨b, o, rfl, _, hcell⟩ := hr.2 hm
    cases A0 with
    | some a0 =>
      obtain ⟨v', w', hrun, r1, r2⟩ := run_append_arg_grows (P := P) w t ty e i z size bytes ht hi hz hsize hby hzs hsz a0 0 0 [] (by simp) (by simp) ⟨b, o, none⟩ m c news hr.1 (fun j u hu => by rw [Addr.add_lit]; exact hcell j u hu) (by omega) h63 hbytes
      refine ⟨v', w', hrun, own_base r1 (Nat.zero_le _), r2, ?_, cap_of (own_base r1 (Nat.zero_le _))⟩
      right
      obtain ⟨A', c', e', _, _, _⟩ := own_form r1
      rcases r1.2 with ⟨_, h0⟩ | ⟨g, cap, cur, rfl, hb, hg, _⟩
      · omega
      · show some g = some w.heap.size
        have hlt := (Array.getElem?_eq_some_iff.1 hg).1
        rcases Nat.lt_or_ge g w.heap.size with h | h
        · omega
        · have hsz2 : w'.heap.size = w.heap.size + 1 := by
            have := run_append_grow (P := P) w t ty e i z ht hi hz a0 0 0 [] (by simp) (by simp) ⟨b, o, none⟩ m c news (by rw [hsize]; exact hr.1) (fun j u hu => by rw [Addr.add_lit]; exact hcell j u hu) (by omega) (by simp only [maxLen] at h63; omega) (growslice_fits (by omega) (by rw [hby]; exact hbytes))
            rw [this] at hrun
            injection hrun with _ hw
            rw [← hw]
            simp
          rw [show g = w.heap.size by omega]
    | none =>
      obtain ⟨v', w', hrun, r1, r2, r3⟩ := run_append_rd (P := P) w w.heap.size t ty e i z size bytes ht hi hz hsize hby hzs hsz (.slice none 0 0) 0 [] (World.ownsRow_nil w _ e size) B (some ⟨b, o, none⟩) m c news hr h1 h63 hbytes (Nat.le_refl _)
      refine ⟨v', w', hrun, own_base r1 (Nat.zero_le _), r2, ?_, cap_of (own_base r1 (Nat.zero_le _))⟩
      exact r3
  · have e1 : ownZB v = v.ownBlock := by unfold ownZB; rw [if_neg hc]
    obtain ⟨v', w', hrun, r1, r2, r3⟩ := run_append_rd (P := P) w 0 t ty e i z size bytes ht hi hz hsize hby hzs hsz v n xs hown B A m c news hr h1 h63 hbytes (Nat.zero_le _)
    rw [e1]
    exact ⟨v', w', hrun, r1, r2, r3, cap_of r1⟩
/-- At one operation of a region that draws its order. -/
theorem step_append_rz {ops : Array Oper} {o : Oper} {a : Act} {K : Act → World → Prop} {Q : Exit → Act → World → Prop} {E : Prop} (hgd : o.guard = none) (s x : Operand) (t : TypeId)
    (ho : o.op = .call { callee := .builtin .append, args := #[s, x], argTypes := #[t, t] })
    (e : TypeId) (i : TypeInfo) (z : Value) (size bytes : Nat) (ht : P.underlying t = some (.slice e)) (hi : P.info? e = some i) (hz : i.zero = some z)
    (hsize : i.size = size) (hby : i.bytes = bytes) (hzs : z.cells.size = size) (hsz : 0 < size)
    (v : Value) (n : Nat) (xs : List Value) (hs : a.eval s = v) (hown : OwnZ w e size v n xs)
    (B : Nat) (A : Option Addr) (m c : Nat) (news : List Value) (hx : a.eval x = .slice A m c) (hr : Rd w B size A m news) (h1 : ∀ u ∈ news, u.oneCell' = true) (hm : 0 < m)
    (h63 : n + m ≤ maxLen) (hbytes : (n + m) * bytes ≤ 140737488355328)
    (h : ∀ v' w', w'.ownsRow 0 e size v' (n + m) (xs ++ news) → w.grownBy w' (ownZB v) → (v'.ownBlock = ownZB v ∨ v'.ownBlock = some w.heap.size) → capOf v' ≠ 0 → K (a.put o.dst v') w') :
    if Region.wanted o (yielded ops a.tmps) = true then Oper.wp P o a w K Q else E := by
  rw [if_pos (by simp [Region.wanted, hgd])]
  obtain ⟨v', w', hrun, h2, h3, h4, h5⟩ := run_append_rz (P := P) (w := w) t o.type e i z size bytes ht hi hz hsize hby hzs hsz v n xs hown B A m c news hr h1 hm h63 hbytes
  unfold Oper.wp execOp
  simp only [ho, resolve, invoke, builtin, Sem.run_bind, Sem.run_pure, Result.andThen_ok, List.map_toArray, List.map_cons, List.map_nil, hs, hx, hrun]
  exact h v' w' h2 h3 h4 h5
end
end Go.Proofs.YthgefobcohlegaaGreatDoor

namespace Go.Proofs.YthgefobcohlegaaGreatDoor
open Go.RowKit
set_option linter.unusedVariables false

/-- Block k is a row of bytes. -/
def U8B (w : World) (k : Nat) : Prop := ∃ cs fz, w.heap[k]? = some (.cells cs 5 fz)
theorem U8B.lt {w : World} {k : Nat} (h : U8B w k) : k < w.heap.size := by
  obtain ⟨_, _, h⟩ := h
  exact (Array.getElem?_eq_some_iff.1 h).1
theorem U8B.ne_blk {w : World} {k g : Nat} {t : TypeId} {cs : Array Value} (h : U8B w k) (hg : Blk w g t cs) (ht : t ≠ 5) : k ≠ g := by
  rintro rfl
  obtain ⟨_, _, h⟩ := h
  have e := Option.some.inj (h.symm.trans hg)
  injection e with _ e
  exact ht e.symm
theorem U8B.ne_own {w : World} {k base : Nat} {e : TypeId} {size n : Nat} {v : Value} {xs : List Value} (h : U8B w k) (ho : w.ownsRow base e size v n xs) (ht : e ≠ 5) : v.ownBlock ≠ some k := by
  rcases ho.2 with ⟨rfl, _⟩ | ⟨g, cap, cur, rfl, _, hh, _⟩
  · simp [Value.ownBlock]
  · intro hk
    have : g = k := by simpa [Value.ownBlock] using hk
    subst this
    obtain ⟨_, _, h⟩ := h
    have e := Option.some.inj (h.symm.trans hh)
    injection e with _ e
    exact ht e.symm
structure Buf (w : World) (v : Value) (n : Nat) (xs : List Value) : Prop where
  form : ∃ A c, v = .slice A n c ∧ n ≤ c ∧ c ≤ maxLen ∧ Rd w w.heap.size 1 A n xs ∧ (n < c → ∃ g o, A = some ⟨g, o, none⟩ ∧ ∀ j, n ≤ j → j < c → (w.cell? ⟨g, o + j, none⟩).isSome = true ∧ w.frozen? ⟨g, o + j, none⟩ = false)
  row : ∀ k, v.ownBlock = some k → U8B w k
theorem rd_fr {S : Nat → Prop} {w w' : World} {size n c : Nat} {A : Option Addr} {xs : List Value} (h : Rd w w.heap.size size A n xs) (hf : Fr S w w') (hn : ∀ k, (Value.slice A n c).ownBlock = some k → ¬ S k) : Rd w' w'.heap.size size A n xs := by
  refine ⟨h.1, fun h0 => ?_⟩
  obtain ⟨b, o, e, hb, hc⟩ := h.2 h0
  subst e
  exact ⟨b, o, rfl, Nat.lt_of_lt_of_le hb hf.size, fun j u hu => (World.cell?_of_block (hf.block b hb (hn b rfl))).trans (hc j u hu)⟩
theorem Buf.fr {S : Nat → Prop} {w w' : World} {v : Value} {n : Nat} {xs : List Value} (h : Buf w v n xs) (hf : Fr S w w') (hn : ∀ k, v.ownBlock = some k → ¬ S k) : Buf w' v n xs := by
  obtain ⟨⟨A, c, rfl, h1, h2, h3, h4⟩, hr⟩ := h
  refine ⟨⟨A, c, rfl, h1, h2, rd_fr h3 hf hn, fun hc => ?_⟩, fun k hk => ?_⟩
  · obtain ⟨g, o, rfl, h5⟩ := h4 hc
    have hg := hf.block g (hr g rfl).lt (hn g rfl)
    refine ⟨g, o, rfl, fun j a b => ?_⟩
    rw [World.cell?_of_block (a := ⟨g, o + j, none⟩) hg, World.frozen?_of_block (a := ⟨g, o + j, none⟩) hg]
    exact h5 j a b
  · obtain ⟨cs, fz, hg⟩ := hr k hk
    exact ⟨cs, fz, (hf.block k (hr k hk).lt (hn k hk)).trans hg⟩
theorem Buf.of_own {w : World} {base : Nat} {v : Value} {n : Nat} {xs : List Value} (h : w.ownsRow base 5 1 v n xs) : Buf w v n xs := by
  rcases h.2 with ⟨rfl, rfl⟩ | ⟨g, cap, cur, rfl, hb, hg, hnc, hcm, hcs, htake⟩
  · exact ⟨⟨none, 0, rfl, Nat.le_refl _, Nat.zero_le _, Rd.of_own h, fun h => absurd h (Nat.lt_irrefl 0)⟩, fun k hk => (by cases hk)⟩
  · refine ⟨⟨_, cap, rfl, hnc, hcm, Rd.of_own h, fun _ => ⟨g, 0, rfl, fun j h1 h2 => ⟨?_, frozen_of_row w g (0 + j) cur _ hg⟩⟩⟩, fun k hk => ?_⟩
    · rw [cell_of_row w g (0 + j) cur _ _ hg, Array.getElem?_eq_getElem (by omega)]
      rfl
    · have : g = k := by simpa [Value.ownBlock] using hk
      subst this
      exact ⟨_, _, hg⟩
theorem Buf.lt {w : World} {v : Value} {n : Nat} {xs : List Value} (h : Buf w v n xs) : ∀ k, v.ownBlock = some k → k < w.heap.size := fun k hk => (h.row k hk).lt
theorem grownBy_set (w : World) (g i : Nat) (u : Value) : w.grownBy (w.setCell ⟨g, i, none⟩ u) (some g) :=
  ⟨rfl, rfl, rfl, by simp [World.setCell], fun k _ hk => Below.heap_setCell _ _ _ _ (fun e => hk (by simp [e]))⟩
theorem U8B.set {w : World} {k g i : Nat} (h : U8B w k) (u : Value) : U8B (w.setCell ⟨g, i, none⟩ u) k := by
  obtain ⟨cs, fz, h⟩ := h
  by_cases e : g = k
  · subst e
    exact ⟨cs.setIfInBounds i u, fz, by simp [World.setCell, Array.getElem?_modify, h]⟩
  · exact ⟨cs, fz, (Below.heap_setCell w ⟨g, i, none⟩ u k (fun e2 => e e2.symm)).trans h⟩
section
variable {P : Program} {w : World}
theorem run_append_buf (t ty : TypeId) (i : TypeInfo) (ht : P.underlying t = some (.slice 5)) (hi : P.info? 5 = some i) (hz : i.zero = some (.int .u8 0))
    (hsize : i.size = 1) (hby : i.bytes = 1)
    (v : Value) (n : Nat) (xs : List Value) (hbuf : Buf w v n xs) (b o c : Nat) (u : Value) (hr : w.cell? ⟨b, o, none⟩ = some u) (h1 : u.oneCell' = true)
    (h63 : n + 1 ≤ 140737488355328) :
    ∃ v' w', (Builtin.append_ #[t, t] ty #[v, .slice (some ⟨b, o, none⟩) 1 c]).run P w = .ok v' w' ∧ Buf w' v' (n + 1) (xs ++ [u]) ∧ w.grownBy w' v.ownBlock ∧ (∀ k, v'.ownBlock = some k → v.ownBlock = some k ∨ w.heap.size ≤ k) := by
  obtain ⟨⟨A, cap, rfl, hnc, hcm, hrd, hroom⟩, hrow⟩ := hbuf
  have hone : ∀ x ∈ [u], x.oneCell' = true := fun x hx => by rw [List.mem_singleton.1 hx]; exact h1
  have hnews : ∀ (j : Nat) x, [u][j]? = some x → w.cell? ((⟨b, o, none⟩ : Addr).add j) = some x := by
    intro j x hx
    obtain ⟨hj, rfl⟩ := List.getElem?_eq_some_iff.1 hx
    have hj0 : j = 0 := by simp at hj; exact hj
    subst hj0
    rw [add_at]; exact hr
  by_cases hfull : n < cap
  · obtain ⟨g, o1, rfl, hc⟩ := hroom hfull
    have hgl : g < w.heap.size := (hrow g rfl).lt
    obtain ⟨s1, s2⟩ := hc n (Nat.le_refl _) hfull
    have hrun := run_append_room_cells (P := P) w t ty 5 i ht hi g o1 n cap ⟨b, o, none⟩ 1 c [u] (by rw [hsize]; rfl) hnews hone (by omega)
      (fun j hj => by have : j = 0 := by simpa using hj
                      subst this; rw [hsize, Nat.mul_one, Nat.add_zero]; exact s1) (fun j hj => by have : j = 0 := by simpa using hj
                                                                                                   subst this; rw [hsize, Nat.mul_one, Nat.add_zero]; exact s2)
    rw [hsize, Nat.mul_one] at hrun
    refine ⟨_, _, hrun, ⟨⟨_, cap, rfl, by omega, hcm, ⟨by rw [List.length_append, hrd.1]; simp, fun _ => ⟨g, o1, rfl, ?_, fun j x hx => ?_⟩⟩, fun hlt => ⟨g, o1, rfl, fun j a1 a2 => ?_⟩⟩, fun k hk => ?_⟩, grownBy_set _ _ _ _, fun k hk => .inl hk⟩
    · show g < (w.setCell ⟨g, o1 + n, none⟩ u).heap.size
      simpa [World.setCell] using hgl
    · show (w.setCell ⟨g, o1 + n, none⟩ u).cell? _ = _
      have hl : xs.length = n := by simpa using hrd.1
      rcases Nat.lt_or_ge j n with hj | hj
      · rw [World.cell?_setCell_other _ _ _ _ (by intro e; injection e; omega)]
        obtain ⟨b2, o2, e2, _, hcell⟩ := hrd.2 (by omega)
        injection e2 with e2
        injection e2 with e3 e4
        subst e3; subst e4
        exact hcell j x (by rw [← hx, List.getElem?_append_left (by omega)])
      · rw [List.getElem?_append_right (by omega)] at hx
        obtain ⟨hj2, rfl⟩ := List.getElem?_eq_some_iff.1 hx
        have : j = n := by simp at hj2; omega
        subst this
        obtain ⟨y, hy⟩ := Option.isSome_iff_exists.1 s1
        rw [World.cell?_setCell_same _ _ _ hy]
        simp [hl]
    · show ((w.setCell ⟨g, o1 + n, none⟩ u).cell? _).isSome = true ∧ (w.setCell ⟨g, o1 + n, none⟩ u).frozen? _ = false
      rw [World.frozen?_setCell, World.cell?_setCell_other _ _ _ _ (by intro e; injection e; omega)]
      exact hc j (by omega) a2
    · exact (hrow k hk).set u
  · obtain rfl : n = cap := by omega
    have hml : n + 1 ≤ maxLen := by unfold maxLen; omega
    cases A with
    | none =>
      have hn : n = 0 := by
        rcases Nat.eq_zero_or_pos n with h | h
        · exact h
        · obtain ⟨_, _, e, _⟩ := hrd.2 h; cases e
      subst hn
      have hx : xs = [] := List.eq_nil_of_length_eq_zero (by simpa using hrd.1)
      subst hx
      obtain ⟨v', w', hrun, r1, r2, _⟩ := run_append_own (P := P) w w.heap.size t ty 5 i _ 1 1 ht hi hz hsize hby rfl (by decide) (.slice none 0 0) 0 [] (World.ownsRow_nil w _ _ 1) ⟨b, o, none⟩ 1 c [u] rfl hnews hone hml (by omega) (Nat.le_refl _)
      exact ⟨v', w', hrun, Buf.of_own r1, r2, fun k hk => .inr (own_lt r1 k hk).1⟩
    | some a0 =>
      obtain ⟨v', w', hrun, r1, r2⟩ := run_append_arg_grows (P := P) w t ty 5 i _ 1 1 ht hi hz hsize hby rfl (by decide) a0 n n xs hrd.1 (fun j x hu => by
        have hn1 : 0 < n := by
          have h0 := hrd.1
          have hj := (List.getElem?_eq_some_iff.1 hu).1
          omega
        obtain ⟨b0, o0, e0, _, hc⟩ := hrd.2 hn1
        injection e0 with e0
        subst e0
        rw [Addr.add_lit]; exact hc j x hu) ⟨b, o, none⟩ 1 c [u] rfl hnews (by omega) hml (by omega)
      exact ⟨v', w', hrun, Buf.of_own r1, ⟨r2.os, r2.tape, r2.output, r2.size, fun k hk _ => r2.block k hk (by simp)⟩, fun k hk => .inr (own_lt r1 k hk).1⟩
theorem step_append_buf {ops : Array Oper} {o : Oper} {a : Act} {K : Act → World → Prop} {Q : Exit → Act → World → Prop} {E : Prop} (hgd : o.guard = none) (s x : Operand) (t : TypeId)
    (ho : o.op = .call { callee := .builtin .append, args := #[s, x], argTypes := #[t, t] })
    (i : TypeInfo) (ht : P.underlying t = some (.slice 5)) (hi : P.info? 5 = some i) (hz : i.zero = some (.int .u8 0)) (hsize : i.size = 1) (hby : i.bytes = 1)
    (v : Value) (n : Nat) (xs : List Value) (hs : a.eval s = v) (hbuf : Buf w v n xs)
    (b of c : Nat) (u : Value) (hx : a.eval x = .slice (some ⟨b, of, none⟩) 1 c) (hr : w.cell? ⟨b, of, none⟩ = some u) (h1 : u.oneCell' = true) (h63 : n + 1 ≤ 140737488355328)
    (h : ∀ v' w', Buf w' v' (n + 1) (xs ++ [u]) → w.grownBy w' v.ownBlock → (∀ k, v'.ownBlock = some k → v.ownBlock = some k ∨ w.heap.size ≤ k) → K (a.put o.dst v') w') :
    if Region.wanted o (yielded ops a.tmps) = true then Oper.wp P o a w K Q else E := by
  rw [if_pos (by simp [Region.wanted, hgd])]
  obtain ⟨v', w', hrun, h2, h3, h4⟩ := run_append_buf (P := P) (w := w) t o.type i ht hi hz hsize hby v n xs hbuf b of c u hr h1 h63
  unfold Oper.wp execOp
  simp only [ho, resolve, invoke, builtin, Sem.run_bind, Sem.run_pure, Result.andThen_ok, List.map_toArray, List.map_cons, List.map_nil, hs, hx, hrun]
  exact h v' w' h2 h3 h4
end
/-- What a conversion of a text to bytes makes. -/
theorem Buf.conv (w : World) (s : ByteArray) (hs : s.size ≤ 1000000) :
    Buf (Lib.bytesWorld w 5 s) (.slice (some ⟨w.heap.size, 0, none⟩) s.size (grownCap w s.size 0 5)) s.size (s.data.toList.map fun x : UInt8 => Value.int .u8 (x.toNat : Int)) := by
  have hge := grownCap_ge w s.size 0 5
  have hcm : grownCap w s.size 0 5 ≤ maxLen := grownCap_le_maxLen w s.size 0 _ (by unfold maxLen; omega)
  have hB := Lib.bytesWorld_at_new w 5 s
  have hd : s.data.size = s.size := rfl
  have hcs : (Lib.bytesCells w 5 s).size = grownCap w s.size 0 5 := by
    unfold Lib.bytesCells
    rw [Array.size_append, Array.size_map, Array.size_replicate, hd]; omega
  refine ⟨⟨_, _, rfl, hge, hcm, ⟨by simp, fun _ => ⟨_, 0, rfl, by rw [Lib.bytesWorld_size]; omega, fun j u hu => ?_⟩⟩, fun _ => ⟨_, 0, rfl, fun j h1 h2 => ⟨?_, ?_⟩⟩⟩, fun k hk => ?_⟩
  · rw [Nat.zero_add]
    have hj : j < s.size := by have := (List.getElem?_eq_some_iff.1 hu).1; simpa using this
    rw [Lib.bytesWorld_cell w _ s j hj]
    rw [List.getElem?_map] at hu
    rw [List.getD_eq_getElem?_getD]
    obtain ⟨x, hx, rfl⟩ := Option.map_eq_some_iff.1 hu
    rw [hx]; rfl
  · rw [Nat.zero_add, cell_of_row _ _ j _ _ _ hB, Array.getElem?_eq_getElem (by omega)]; rfl
  · rw [Nat.zero_add]
    simp only [World.frozen?, hB, Bool.and_eq_false_iff, decide_eq_false_iff_not]
    left; omega
  · have : w.heap.size = k := by simpa [Value.ownBlock] using hk
    subst this
    exact ⟨_, _, hB⟩
end Go.Proofs.YthgefobcohlegaaGreatDoor

namespace Go.Proofs.YthgefobcohlegaaGreatDoor
set_option linter.unusedVariables false

theorem decFrom_cons (acc : Nat) (c : UInt8) (r : List UInt8) : Lib.decFrom acc (c :: r) = match Lib.digitVal c with
    | some d => Lib.decFrom (acc * 10 + d) r
    | none => none := rfl
theorem decFrom_app (a b : List UInt8) (acc : Nat) : Lib.decFrom acc (a ++ b) = (Lib.decFrom acc a).bind fun m => Lib.decFrom m b := by
  induction a generalizing acc with
  | nil => rfl
  | cons c a ih =>
    rw [List.cons_append, decFrom_cons, decFrom_cons]
    cases Lib.digitVal c with
    | none => rfl
    | some d => exact ih _
theorem digitVal_ofNat {d : Nat} (h : d < 10) : Lib.digitVal (UInt8.ofNat (48 + d)) = some d := by
  unfold Lib.digitVal
  have e : (UInt8.ofNat (48 + d)).toNat = 48 + d := by rw [UInt8.toNat_ofNat']; omega
  rw [e, if_pos (by omega)]
  congr 1; omega
theorem decFrom_digits (u : Nat) : Lib.decFrom 0 (Lib.decDigits u) = some u := by
  induction u using Nat.strongRecOn with
  | _ u ih =>
    by_cases h : u < 10
    · rw [Lib.decDigits, dif_pos h]
      unfold Lib.decFrom
      rw [digitVal_ofNat h]
      simp [Lib.decFrom]
    · rw [Lib.decDigits, dif_neg h, decFrom_app, ih (u / 10) (by omega)]
      show Lib.decFrom (u / 10) [UInt8.ofNat (48 + u % 10)] = some u
      unfold Lib.decFrom
      rw [digitVal_ofNat (by omega)]
      show some (u / 10 * 10 + u % 10) = some u
      congr 1; omega
theorem decDigits_ne (u : Nat) : Lib.decDigits u ≠ [] := by
  intro e
  have h1 := Lib.decDigits_length u
  have h2 := Lib.nDigits_pos u
  rw [e] at h1
  simp at h1; omega
theorem decDigits_chars (u : Nat) : ∀ c ∈ Lib.decDigits u, 48 ≤ c.toNat ∧ c.toNat ≤ 57 := by
  intro c hc
  obtain ⟨k, hk, rfl⟩ := List.getElem_of_mem hc
  obtain ⟨d, hd⟩ := Lib.digit_of_decFrom _ _ _ (decFrom_digits u) k _ (List.getElem?_eq_getElem hk)
  have := Lib.digitVal_eq hd
  exact ⟨this.1, this.2.1⟩
theorem decDigits_cons (u : Nat) : ∃ c r, Lib.decDigits u = c :: r ∧ 48 ≤ c.toNat ∧ c.toNat ≤ 57 := by
  cases h : Lib.decDigits u with
  | nil => exact absurd h (decDigits_ne u)
  | cons c r => exact ⟨c, r, rfl, decDigits_chars u c (by rw [h]; exact List.mem_cons_self)⟩
theorem nDigits_le {u k : Nat} (hk : 1 ≤ k) (h : u < 10 ^ k) : Lib.nDigits u ≤ k := by
  induction k generalizing u with
  | zero => omega
  | succ k ih =>
    by_cases h10 : u < 10
    · rw [Lib.nDigits_small h10]; omega
    · rw [Lib.nDigits_big h10]
      have hk1 : 1 ≤ k := by
        rcases Nat.eq_zero_or_pos k with rfl | h1
        · simp at h; omega
        · exact h1
      have := ih (u := u / 10) hk1 (by rw [Nat.pow_succ] at h; omega)
      omega
theorem itoa_len {n : Int} {k : Nat} (hk : 1 ≤ k) (h : n.natAbs < 10 ^ k) : (Lib.itoa n).length ≤ k + 1 := by
  unfold Lib.itoa
  have hd := nDigits_le hk h
  split
  · rw [List.length_cons, Lib.decDigits_length]; omega
  · have e : n.toNat = n.natAbs := by omega
    rw [e, Lib.decDigits_length]; omega
theorem itoa_chars (n : Int) : ∀ c ∈ Lib.itoa n, c.toNat = 45 ∨ (48 ≤ c.toNat ∧ c.toNat ≤ 57) := by
  intro c hc
  unfold Lib.itoa at hc
  split at hc
  · rcases List.mem_cons.1 hc with rfl | hc
    · exact .inl rfl
    · exact .inr (decDigits_chars _ c hc)
  · exact .inr (decDigits_chars _ c hc)
theorem atoi_itoa (n : Int) : Lib.atoi (Lib.itoa n) = some n := by
  unfold Lib.itoa
  split
  · show (Lib.decNat (Lib.decDigits n.natAbs)).map (fun (m : Nat) => -(m : Int)) = some n
    unfold Lib.decNat
    rw [if_neg (by simpa using decDigits_ne _), decFrom_digits]
    simp; omega
  · obtain ⟨c, r, e, h1, h2⟩ := decDigits_cons n.toNat
    rw [e]
    have c45 : ¬ (c == 45) = true := by intro hh; have : c = 45 := by simpa using hh
                                        subst this; revert h1; decide
    have c43 : ¬ (c == 43) = true := by intro hh; have : c = 43 := by simpa using hh
                                        subst this; revert h1; decide
    show (if (c == 45) = true then (Lib.decNat r).map fun (m : Nat) => -(m : Int) else if (c == 43) = true then (Lib.decNat r).map fun (m : Nat) => (m : Int) else (Lib.decNat (c :: r)).map fun (m : Nat) => (m : Int)) = some n
    rw [if_neg c45, if_neg c43, ← e]
    unfold Lib.decNat
    rw [if_neg (by simpa using decDigits_ne _), decFrom_digits]
    simp; omega
theorem atoiAll_itoa {n : Int} (h : n.natAbs < 10 ^ 17) : Lib.atoiAll (Lib.itoa n) = .ok n := by
  rw [Lib.atoiAll_short _ (itoa_len (by decide) h), atoi_itoa]; rfl

/-- A hexadecimal digit. -/
def hexD (d : Nat) : UInt8 := UInt8.ofNat (if d < 10 then 48 + d else 87 + d)
/-- So many hexadecimal digits, the first ahead. -/
def hexK : Nat → Nat → List UInt8
  | 0, _ => []
  | k + 1, v => hexK k (v / 16) ++ [hexD (v % 16)]
theorem hexK_len (k v : Nat) : (hexK k v).length = k := by
  induction k generalizing v with
  | zero => rfl
  | succ k ih => unfold hexK; rw [List.length_append, ih]; rfl
/-- As many as it takes. -/
def hexM (v : Nat) : List UInt8 := if h : v < 16 then [hexD v] else hexM (v / 16) ++ [hexD (v % 16)]
termination_by v
decreasing_by omega
theorem hexM_small {v : Nat} (h : v < 16) : hexM v = [hexD v] := by rw [hexM, dif_pos h]
theorem hexM_big {v : Nat} (h : ¬ v < 16) : hexM v = hexM (v / 16) ++ [hexD (v % 16)] := by rw [hexM, dif_neg h]
theorem hexM_len {v k : Nat} (hk : 1 ≤ k) (h : v < 16 ^ k) : 1 ≤ (hexM v).length ∧ (hexM v).length ≤ k := by
  induction k generalizing v with
  | zero => omega
  | succ k ih =>
    by_cases h16 : v < 16
    · rw [hexM_small h16]; simp
    · have hk1 : 1 ≤ k := by
        rcases Nat.eq_zero_or_pos k with rfl | h1
        · simp at h; omega
        · exact h1
      have := ih (v := v / 16) hk1 (by rw [Nat.pow_succ] at h; omega)
      rw [hexM_big h16, List.length_append, List.length_singleton]
      omega
theorem hexK_zero (k : Nat) : hexK k 0 = List.replicate k 48 := by
  induction k with
  | zero => rfl
  | succ k ih => unfold hexK; rw [Nat.zero_div, ih, List.replicate_succ']; rfl
theorem hexK_pad {v k : Nat} (hk : 1 ≤ k) (h : v < 16 ^ k) : List.replicate (k - (hexM v).length) 48 ++ hexM v = hexK k v := by
  induction k generalizing v with
  | zero => omega
  | succ k ih =>
    by_cases h16 : v < 16
    · rw [hexM_small h16]
      unfold hexK
      rw [Nat.div_eq_of_lt h16, hexK_zero, Nat.mod_eq_of_lt h16]; rfl
    · have hk1 : 1 ≤ k := by
        rcases Nat.eq_zero_or_pos k with rfl | h1
        · simp at h; omega
        · exact h1
      have hv : v / 16 < 16 ^ k := by rw [Nat.pow_succ] at h; omega
      have hi := ih hk1 hv
      rw [hexM_big h16, List.length_append, List.length_singleton]
      unfold hexK
      rw [← hi, List.append_assoc]
      have := hexM_len hk1 hv
      congr 2
      omega
theorem hexD_toNat {d : Nat} (h : d < 16) : (hexD d).toNat = if d < 10 then 48 + d else 87 + d := by
  unfold hexD
  rw [UInt8.toNat_ofNat']
  split <;> omega
/-- What a digit counts; none: it is none. -/
def hexV (c : UInt8) : Option Nat := if 48 ≤ c.toNat ∧ c.toNat ≤ 57 then some (c.toNat - 48) else if 97 ≤ c.toNat ∧ c.toNat ≤ 102 then some (c.toNat - 87) else none
theorem hexV_D {d : Nat} (h : d < 16) : hexV (hexD d) = some d := by
  unfold hexV
  rw [hexD_toNat h]
  by_cases h10 : d < 10
  · rw [if_pos h10, if_pos (by omega)]; congr 1; omega
  · rw [if_neg h10, if_neg (by omega), if_pos (by omega)]; congr 1; omega
theorem hexV_lt {c : UInt8} {d : Nat} (h : hexV c = some d) : d < 16 := by
  unfold hexV at h
  split at h
  · injection h with h; omega
  · split at h
    · injection h with h; omega
    · cases h
def hexFrom (acc : Nat) : List UInt8 → Option Nat
  | [] => some acc
  | c :: r => match hexV c with
    | some d => hexFrom (acc * 16 + d) r
    | none => none
theorem hexFrom_cons (acc : Nat) (c : UInt8) (r : List UInt8) : hexFrom acc (c :: r) = match hexV c with
    | some d => hexFrom (acc * 16 + d) r
    | none => none := rfl
theorem hexFrom_app (a b : List UInt8) (acc : Nat) : hexFrom acc (a ++ b) = (hexFrom acc a).bind fun m => hexFrom m b := by
  induction a generalizing acc with
  | nil => rfl
  | cons c a ih =>
    rw [List.cons_append, hexFrom_cons, hexFrom_cons]
    cases hexV c with
    | none => rfl
    | some d => exact ih _
theorem hexFrom_K (k v : Nat) : hexFrom 0 (hexK k v) = some (v % 16 ^ k) := by
  induction k generalizing v with
  | zero => show some 0 = some (v % 1); rw [Nat.mod_one]
  | succ k ih =>
    unfold hexK
    rw [hexFrom_app, ih]
    show hexFrom (v / 16 % 16 ^ k) [hexD (v % 16)] = _
    unfold hexFrom
    rw [hexV_D (Nat.mod_lt _ (by decide))]
    show some (v / 16 % 16 ^ k * 16 + v % 16) = some (v % 16 ^ (k + 1))
    rw [Nat.pow_succ, Nat.mul_comm (16 ^ k) 16, Nat.mod_mul]
    congr 1; omega
end Go.Proofs.YthgefobcohlegaaGreatDoor
