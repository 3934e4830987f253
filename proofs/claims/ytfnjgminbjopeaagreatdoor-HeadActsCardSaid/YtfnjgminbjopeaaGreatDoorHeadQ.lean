/- How a head lies in memory: its map, its lines; an append onto a line's slice. -/
import Derived.Test.YtfnjgminbjopeaaGreatDoorHeadNQ
import Derived.Maps.OwnSet
import Derived.Maps.RangeWalk
import Derived.ArgAppend
namespace Go.Proofs.YtfnjgminbjopeaaGreatDoor
open Go.RowKit Go.Maps
set_option linter.unusedVariables false

/-- A line in memory: its series, its block, its slice, its points, its last tick. -/
structure HLn where
  nm : Bs
  bk : Nat
  v : Value
  pts : List (Int × Int)
  last : Int
def absL (L : List HLn) : List HA := L.map fun x => (x.nm, x.pts, x.last)
/-- What a pointer to a line reads as: its block's number. -/
def ptrR (v : Value) : Option (DataW Unit × List MemPlace) := match v with
  | .pointer (some ⟨b, 0, none⟩) => some (.lit (.int .i64 (b : Int)), [])
  | .pointer none => some (.nil, [])
  | _ => none
theorem ptrR_mk (b : Nat) : ptrR (.pointer (some ⟨b, 0, none⟩)) = some (.lit (.int .i64 (b : Int)), []) := rfl
theorem ptrR_inv {v : Value} {b : Nat} {ps : List MemPlace} (h : ptrR v = some (.lit (.int .i64 (b : Int)), ps)) : v = .pointer (some ⟨b, 0, none⟩) := by
  unfold ptrR at h
  split at h
  · rename_i c
    have h := Option.some.inj h
    have h := congrArg Prod.fst h
    injection h with h
    injection h with _ h
    have : c = b := by omega
    rw [this]
  · have h := Option.some.inj h
    have h := congrArg Prod.fst h
    cases h
  · cases h
theorem ptrR_nil {v : Value} {ps : List MemPlace} (h : ptrR v = some (.nil, ps)) : v = .pointer none := by
  unfold ptrR at h
  split at h
  · have h := Option.some.inj h
    have h := congrArg Prod.fst h
    cases h
  · rfl
  · cases h
theorem ptrR_shape {v : Value} {y : DataW Unit × List MemPlace} (h : ptrR v = some y) : ∃ c : Option Addr, v = .pointer c := by
  unfold ptrR at h
  split at h
  · exact ⟨_, rfl⟩
  · exact ⟨_, rfl⟩
  · cases h

def capOf : Value → Nat
  | .slice _ _ c => c
  | _ => 0
/-- The block that a slice may be appended to in place. -/
def ownZB (v : Value) : Option Nat := if capOf v = 0 then none else v.ownBlock
/-- A slice of one's own, or one of no room at all. -/
def OwnZ (w : World) (e : TypeId) (size : Nat) (v : Value) (n : Nat) (xs : List Value) : Prop :=
  (n = 0 ∧ xs = [] ∧ ∃ A, v = .slice A 0 0) ∨ (capOf v ≠ 0 ∧ w.ownsRow 0 e size v n xs)
theorem OwnZ.of_own {w : World} {base : Nat} {e : TypeId} {size n : Nat} {v : Value} {xs : List Value} (h : w.ownsRow base e size v n xs) : OwnZ w e size v n xs := by
  by_cases hc : capOf v = 0
  · obtain ⟨A, c, rfl, hn, _, hr⟩ := own_form h
    have hc' : c = 0 := hc
    subst hc'
    obtain rfl : n = 0 := by omega
    have := hr.1
    exact .inl ⟨rfl, List.eq_nil_of_length_eq_zero (by simpa using this), A, rfl⟩
  · exact .inr ⟨hc, own_base h (Nat.zero_le _)⟩
theorem OwnZ.form {w : World} {e : TypeId} {size n : Nat} {v : Value} {xs : List Value} (h : OwnZ w e size v n xs) :
    ∃ A c, v = .slice A n c ∧ n ≤ c ∧ c ≤ maxLen ∧ Rd w w.heap.size size A n xs := by
  rcases h with ⟨rfl, rfl, A, rfl⟩ | ⟨_, h⟩
  · exact ⟨A, 0, rfl, Nat.le_refl _, Nat.zero_le _, Rd.empty⟩
  · exact own_form h
theorem OwnZ.fr {S : Nat → Prop} {w w' : World} {e : TypeId} {size n : Nat} {v : Value} {xs : List Value} (h : OwnZ w e size v n xs) (hf : Fr S w w') (hn : ∀ k, ownZB v = some k → ¬ S k) : OwnZ w' e size v n xs := by
  rcases h with h | ⟨hc, h⟩
  · exact .inl h
  · exact .inr ⟨hc, hf.own h fun k hk => hn k (by unfold ownZB; rw [if_neg hc]; exact hk)⟩
theorem OwnZ.lt {w : World} {e : TypeId} {size n : Nat} {v : Value} {xs : List Value} (h : OwnZ w e size v n xs) : ∀ k, ownZB v = some k → k < w.heap.size := by
  intro k hk
  rcases h with ⟨_, _, A, rfl⟩ | ⟨hc, h⟩
  · simp [ownZB, capOf] at hk
  · unfold ownZB at hk
    rw [if_neg hc] at hk
    exact (own_lt h k hk).2
theorem ownZB_le {v : Value} {k : Nat} (h : ownZB v = some k) : v.ownBlock = some k := by
  unfold ownZB at h
  split at h
  · cases h
  · exact h
theorem OwnZ.ne_blk {w : World} {e t : TypeId} {size n g : Nat} {v : Value} {xs : List Value} {cs : Array Value} (h : OwnZ w e size v n xs) (hg : Blk w g t cs) (hne : e ≠ t) : ownZB v ≠ some g := by
  intro hz
  rcases h with ⟨_, _, A, rfl⟩ | ⟨hc, h⟩
  · simp [ownZB, capOf] at hz
  · exact own_ne_blk h hg hne (ownZB_le hz).symm

def LineAt (w : World) (F : Nat → Prop) (x : HLn) : Prop :=
  Blk w x.bk 69 #[x.v, .int .i64 x.last] ∧ OwnZ w 32 2 x.v x.pts.length (ptsC x.pts) ∧ F x.bk ∧ ∀ g, ownZB x.v = some g → F g
def Apart (x y : HLn) : Prop := x.bk ≠ y.bk ∧ (ownZB x.v = none ∨ ownZB x.v ≠ ownZB y.v)
theorem Apart.symm {x y : HLn} (h : Apart x y) : Apart y x := by
  refine ⟨fun e => h.1 e.symm, ?_⟩
  rcases h.2 with h2 | h2
  · cases hy : ownZB y.v with
    | none => exact .inl rfl
    | some g => exact .inr (by rw [h2]; simp)
  · exact .inr (fun e => h2 e.symm)
/-- The map's datum says just the lines' blocks. -/
def DOf (D : DataW Unit) (L : List HLn) : Prop :=
  Maps.size D = L.length ∧ (∀ s : Bs, Maps.has D (.string s) = L.any fun x => x.nm == s) ∧ ∀ x ∈ L, ∀ z, D.atKey (.string x.nm) z = .lit (.int .i64 (x.bk : Int))
structure HeadAt (w : World) (F : Nat → Prop) (hb mb : Nat) (D : DataW Unit) (L : List HLn) : Prop where
  hd : Blk w hb 63 #[.map (some mb)]
  mp : w.ownsMap Tryz.prog 9 ptrR mb L.length D
  dof : DOf D L
  ln : ∀ x ∈ L, LineAt w F x
  ap : L.Pairwise Apart
  fh : F hb
  fm : F mb
  srt : hSrt (absL L)
theorem ownsMap_blk {P : Program} {k : TypeId} {R : Value → Option (DataW Unit × List MemPlace)} {w w' : World} {b n : Nat} {D : DataW Unit} (h : w.ownsMap P k R b n D) (hb : w'.heap[b]? = w.heap[b]?) : w'.ownsMap P k R b n D := by
  obtain ⟨es, clock, h1, h2, h3, h4⟩ := h
  exact ⟨es, clock, hb.trans h1, h2, h3, h4⟩
theorem LineAt.fr {S F : Nat → Prop} {w w' : World} {x : HLn} (h : LineAt w F x) (hf : Fr S w w') (hn : ∀ k, F k → ¬ S k) : LineAt w' F x :=
  ⟨hf.blk h.1 (hn _ h.2.2.1), h.2.1.fr hf (fun k hk => hn k (h.2.2.2 k hk)), h.2.2⟩
theorem HeadAt.fr {S F : Nat → Prop} {w w' : World} {hb mb : Nat} {D : DataW Unit} {L : List HLn} (h : HeadAt w F hb mb D L) (hf : Fr S w w') (hn : ∀ k, F k → ¬ S k) : HeadAt w' F hb mb D L :=
  ⟨hf.blk h.hd (hn _ h.fh), ownsMap_blk h.mp (hf.block _ h.mp.lt (hn _ h.fm)), h.dof, fun x hx => (h.ln x hx).fr hf hn, h.ap, h.fh, h.fm, h.srt⟩
theorem Fr.ofBelow {w w' : World} (h : Below w.heap.size w w') : Fr (fun _ => False) w w' := ⟨h.os, h.tape, h.output, h.size, fun k hk _ => h.block k hk⟩
theorem HeadAt.below {F : Nat → Prop} {w w' : World} {hb mb : Nat} {D : DataW Unit} {L : List HLn} (h : HeadAt w F hb mb D L) (hf : Below w.heap.size w w') : HeadAt w' F hb mb D L :=
  h.fr (Fr.ofBelow hf) (fun _ _ h => h)
theorem HeadAt.mono {F F' : Nat → Prop} {w : World} {hb mb : Nat} {D : DataW Unit} {L : List HLn} (h : HeadAt w F hb mb D L) (hF : ∀ k, F k → F' k) : HeadAt w F' hb mb D L :=
  ⟨h.hd, h.mp, h.dof, fun x hx => ⟨(h.ln x hx).1, (h.ln x hx).2.1, hF _ (h.ln x hx).2.2.1, fun g hg => hF _ ((h.ln x hx).2.2.2 g hg)⟩, h.ap, hF _ h.fh, hF _ h.fm, h.srt⟩

theorem strKeyed : Keyed Tryz.prog 9 := string_keyed Tryz.underlying9
theorem zeroLn (w : World) : (zeroValue 66).run Tryz.prog w = .ok (.pointer none) w := by kernel_rfl
theorem keyStr {s : Bs} (h : s.length ≤ 1000000) : keyOf Tryz.prog 9 (.string (B8 s)) = some (.string s) := by
  have := WideMaps.keyOf_string_mk (P := Tryz.prog) Tryz.underlying9 (s := B8 s) (by rw [B8_size]; unfold maxLen; omega)
  rw [this]
  rfl
/-- A line of the list by its series. -/
def lnFind (L : List HLn) (s : Bs) : Option HLn := L.find? fun x => x.nm == s
theorem lnFind_abs (L : List HLn) (s : Bs) : hFind (absL L) s = (lnFind L s).map fun x => (x.nm, x.pts, x.last) := by
  unfold hFind absL lnFind
  rw [List.find?_map]
  rfl
theorem lnFind_mem {L : List HLn} {s : Bs} {x : HLn} (h : lnFind L s = some x) : x ∈ L ∧ x.nm = s := by
  unfold lnFind at h
  exact ⟨List.mem_of_find?_eq_some h, by simpa using List.find?_some h⟩
theorem lnFind_any {L : List HLn} {s : Bs} : (L.any fun x => x.nm == s) = (lnFind L s).isSome := by
  unfold lnFind
  induction L with
  | nil => rfl
  | cons a L ih =>
    rw [List.any_cons, List.find?_cons]
    cases a.nm == s with
    | true => rfl
    | false => exact ih
/-- A look at the map: 'x, ok := h.l[s]'. -/
theorem HeadAt.look {F : Nat → Prop} {w : World} {hb mb : Nat} {D : DataW Unit} {L : List HLn} (h : HeadAt w F hb mb D L) (s : Bs) (hs : s.length ≤ 1000000) :
    (∀ x, lnFind L s = some x → (Instr.lookup 61 (.map (some mb)) (.string (B8 s)) true).run Tryz.prog w = .ok (.tuple #[.pointer (some ⟨x.bk, 0, none⟩), .bool true]) w) ∧
    (lnFind L s = none → (Instr.lookup 61 (.map (some mb)) (.string (B8 s)) true).run Tryz.prog w = .ok (.tuple #[.pointer none, .bool false]) w) := by
  obtain ⟨v, ps, hrun, hv⟩ := h.mp.look_ok strKeyed Tryz.underlying61 (zeroLn w) (zd := .nil) (zp := []) rfl (keyStr hs)
  rw [h.dof.2.1 s, lnFind_any] at hrun
  refine ⟨fun x hx => ?_, fun hx => ?_⟩
  · obtain ⟨h1, h2⟩ := lnFind_mem hx
    rw [hx] at hrun
    rw [← h2, h.dof.2.2 x h1] at hv
    rw [ptrR_inv hv] at hrun
    exact hrun
  · have hh : Maps.has D (.string s) = false := by rw [h.dof.2.1 s, lnFind_any, hx]; rfl
    rw [hx] at hrun
    rw [Maps.atKey_of_not_has hh] at hv
    rw [ptrR_nil hv] at hrun
    exact hrun
/-- .. without 'ok'. -/
theorem HeadAt.look1 {F : Nat → Prop} {w : World} {hb mb : Nat} {D : DataW Unit} {L : List HLn} (h : HeadAt w F hb mb D L) (x : HLn) (hx : x ∈ L) (hs : x.nm.length ≤ 1000000) :
    (Instr.lookup 61 (.map (some mb)) (.string (B8 x.nm)) false).run Tryz.prog w = .ok (.pointer (some ⟨x.bk, 0, none⟩)) w := by
  obtain ⟨v, ps, hrun, hv⟩ := h.mp.lookup strKeyed Tryz.underlying61 (zeroLn w) (zd := .nil) (zp := []) rfl (keyStr hs)
  rw [h.dof.2.2 x hx] at hv
  rw [ptrR_inv hv] at hrun
  exact hrun

section
variable {P : Program} {w : World}
/-- An append onto a slice of one's own, or of no room. -/
theorem run_append_rz (t ty e : TypeId) (i : TypeInfo) (z : Value) (size bytes : Nat) (ht : P.underlying t = some (.slice e)) (hi : P.info? e = some i) (hz : i.zero = some z)
    (hsize : i.size = size) (hby : i.bytes = bytes) (hzs : z.cells.size = size) (hsz : 0 < size)
    (v : Value) (n : Nat) (xs : List Value) (hown : OwnZ w e size v n xs)
    (B : Nat) (A : Option Addr) (m c : Nat) (news : List Value) (hr : Rd w B size A m news) (h1 : ∀ u ∈ news, u.oneCell' = true) (hm : 0 < m)
    (h63 : n + m ≤ maxLen) (hbytes : (n + m) * bytes ≤ 140737488355328) :
    ∃ v' w', (Builtin.append_ #[t, t] ty #[v, .slice A m c]).run P w = .ok v' w' ∧ w'.ownsRow 0 e size v' (n + m) (xs ++ news) ∧ w.grownBy w' (ownZB v) ∧ (v'.ownBlock = ownZB v ∨ v'.ownBlock = some w.heap.size) ∧ capOf v' ≠ 0 := by
  have cap_of : ∀ {v' : Value} {w' : World}, w'.ownsRow 0 e size v' (n + m) (xs ++ news) → capOf v' ≠ 0 := fun {v' w'} h => by
    obtain ⟨A', c', rfl, h1, _, _⟩ := own_form h
    show c' ≠ 0
    omega
  rcases hown with ⟨rfl, rfl, A0, rfl⟩ | ⟨hc, hown⟩
  · obtain ⟨b, o, rfl, _, hcell⟩ := hr.2 hm
    cases A0 with
    | some a0 =>
      obtain ⟨v', w', hrun, r1, r2⟩ := run_append_arg_grows (P := P) w t ty e i z size bytes ht hi hz hsize hby hzs hsz a0 0 0 [] (by simp) (by simp) ⟨b, o, none⟩ m c news hr.1 (fun j u hu => by rw [Addr.add_lit]; exact hcell j u hu) (by omega) h63 hbytes
      refine ⟨v', w', hrun, own_base r1 (Nat.zero_le _), r2, ?_, cap_of (own_base r1 (Nat.zero_le _))⟩
      right
      obtain ⟨A', c', e', _, _, _⟩ := own_form r1
      rcases r1.2 with ⟨_, h0⟩ | ⟨g, cap, cur, rfl, hb, hg, _⟩
      · omega
      · show some g = some w.heap.size
        have hlt := (Array.getElem?_eq_some_iff.1 hg).1
        rcases Nat.lt_or_ge g w.heap.size with h | h
        · omega
        · have hsz2 : w'.heap.size = w.heap.size + 1 := by
            have := run_append_grow (P := P) w t ty e i z ht hi hz a0 0 0 [] (by simp) (by simp) ⟨b, o, none⟩ m c news (by rw [hsize]; exact hr.1) (fun j u hu => by rw [Addr.add_lit]; exact hcell j u hu) (by omega) (by simp only [maxLen] at h63; omega) (growslice_fits (by omega) (by rw [hby]; exact hbytes))
            rw [this] at hrun
            injection hrun with _ hw
            rw [← hw]
            simp
          rw [show g = w.heap.size by omega]
    | none =>
      obtain ⟨v', w', hrun, r1, r2, r3⟩ := run_append_rd (P := P) w w.heap.size t ty e i z size bytes ht hi hz hsize hby hzs hsz (.slice none 0 0) 0 [] (World.ownsRow_nil w _ e size) B (some ⟨b, o, none⟩) m c news hr h1 h63 hbytes (Nat.le_refl _)
      refine ⟨v', w', hrun, own_base r1 (Nat.zero_le _), r2, ?_, cap_of (own_base r1 (Nat.zero_le _))⟩
      exact r3
  · have e1 : ownZB v = v.ownBlock := by unfold ownZB; rw [if_neg hc]
    obtain ⟨v', w', hrun, r1, r2, r3⟩ := run_append_rd (P := P) w 0 t ty e i z size bytes ht hi hz hsize hby hzs hsz v n xs hown B A m c news hr h1 h63 hbytes (Nat.zero_le _)
    rw [e1]
    exact ⟨v', w', hrun, r1, r2, r3, cap_of r1⟩
/-- At one operation of a region that draws its order. -/
theorem step_append_rz {ops : Array Oper} {o : Oper} {a : Act} {K : Act → World → Prop} {Q : Exit → Act → World → Prop} {E : Prop} (hgd : o.guard = none) (s x : Operand) (t : TypeId)
    (ho : o.op = .call { callee := .builtin .append, args := #[s, x], argTypes := #[t, t] })
    (e : TypeId) (i : TypeInfo) (z : Value) (size bytes : Nat) (ht : P.underlying t = some (.slice e)) (hi : P.info? e = some i) (hz : i.zero = some z)
    (hsize : i.size = size) (hby : i.bytes = bytes) (hzs : z.cells.size = size) (hsz : 0 < size)
    (v : Value) (n : Nat) (xs : List Value) (hs : a.eval s = v) (hown : OwnZ w e size v n xs)
    (B : Nat) (A : Option Addr) (m c : Nat) (news : List Value) (hx : a.eval x = .slice A m c) (hr : Rd w B size A m news) (h1 : ∀ u ∈ news, u.oneCell' = true) (hm : 0 < m)
    (h63 : n + m ≤ maxLen) (hbytes : (n + m) * bytes ≤ 140737488355328)
    (h : ∀ v' w', w'.ownsRow 0 e size v' (n + m) (xs ++ news) → w.grownBy w' (ownZB v) → (v'.ownBlock = ownZB v ∨ v'.ownBlock = some w.heap.size) → capOf v' ≠ 0 → K (a.put o.dst v') w') :
    if Region.wanted o (yielded ops a.tmps) = true then Oper.wp P o a w K Q else E := by
  rw [if_pos (by simp [Region.wanted, hgd])]
  obtain ⟨v', w', hrun, h2, h3, h4, h5⟩ := run_append_rz (P := P) (w := w) t o.type e i z size bytes ht hi hz hsize hby hzs hsz v n xs hown B A m c news hr h1 hm h63 hbytes
  unfold Oper.wp execOp
  simp only [ho, resolve, invoke, builtin, Sem.run_bind, Sem.run_pure, Result.andThen_ok, List.map_toArray, List.map_cons, List.map_nil, hs, hx, hrun]
  exact h v' w' h2 h3 h4 h5
end
end Go.Proofs.YtfnjgminbjopeaaGreatDoor
