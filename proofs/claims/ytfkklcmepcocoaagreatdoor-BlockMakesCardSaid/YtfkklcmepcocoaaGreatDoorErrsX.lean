/- errors.As and errors.Is by contracts, at what this program hands them: a sentinel of errors.New's make, or an api.Fault that holds one. -/
import Derived.Test.YtfkklcmepcocoaaGreatDoorBaseX
import Derived.Test.YtfkklcmepcocoaaGreatDoorChecked
import Derived.WalkKit
import Derived.LaidEql
import Derived.RowKitTokens
import Derived.Stop.Asserts
namespace Go.Proofs.YtfkklcmepcocoaaGreatDoor
open Go.RowKit Go.Extern.Stop Go.Stop Go.Extern
set_option linter.unusedVariables false

/-- A sentinel: an interface value that holds a pointer to an errors.errorString. -/
abbrev sentV (a : Addr) : Value := .iface 336 (.pointer (some a))
/-- A fault: an interface value that holds a pointer to an api.Fault. -/
abbrev faultV (a : Addr) : Value := .iface 101 (.pointer (some a))

/-! ### closed facts on the model's entries for internal/reflectlite, at this program's types -/
theorem e_valueOfPP (t : Addr) (w : World) : (ReflectliteValue.unpack (.iface 164 (.pointer (some t)))).run Tryz.prog w
    = .ok (.agg #[.pointer (some ⟨20, 164, none⟩), .pointer (some ⟨w.heap.size, 0, none⟩), .int .u64 150]) (w.alloc (.cells #[.pointer (some t)] 164)) := by kernel_rfl
theorem e_typePP (a : Addr) (w : World) : (ReflectliteValue.methodAny (ReflectliteValue.valueError "reflectlite.Value.Type" 0) (fun t _ _ _ => ReflectliteType.toType t) #[.agg #[.pointer (some ⟨20, 164, none⟩), .pointer (some a), .int .u64 150]]).run Tryz.prog w
    = .ok (.iface 252 (.agg #[.pointer (some ⟨20, 164, none⟩)])) w := by kernel_rfl
theorem e_methodKind (h : Value) (w : World) : (Go.method 477 252 (.agg #[h]) "Kind").run Tryz.prog w = .ok (272, h) w := by kernel_rfl
theorem e_kindPP (w : World) : ((ReflectliteType.abiMethod fun t => (fun a : Nat => Value.int IntKind.u8 (a : Int)) <$> Rtype.kind t) #[.pointer (some ⟨20, 164, none⟩)]).run Tryz.prog w = .ok (.int .u8 22) w := by kernel_rfl
theorem e_kindP (w : World) : ((ReflectliteType.abiMethod fun t => (fun a : Nat => Value.int IntKind.u8 (a : Int)) <$> Rtype.kind t) #[.pointer (some ⟨20, 101, none⟩)]).run Tryz.prog w = .ok (.int .u8 22) w := by kernel_rfl
theorem rlm (z : Sem Value) (f : TypeId → Addr → Nat → Nat → Sem Value) (v : Value) :
    ReflectliteValue.method z f #[v] = (do match ← ReflectliteValue.parts v with | none => z | some (t, a, fl) => f t a fl (fl % 32)) := rfl
theorem e_partsPP (a : Addr) (w : World) : (ReflectliteValue.parts (.agg #[.pointer (some ⟨20, 164, none⟩), .pointer (some a), .int .u64 150])).run Tryz.prog w = .ok (some (164, a, 150)) w := by kernel_rfl
theorem e_isNilPP (a p : Addr) (W : World) (ha : W.cell? a = some (.pointer (some p))) :
    (ReflectliteValue.method (ReflectliteValue.valueError "reflectlite.Value.IsNil" 0) ReflectliteValue.isNil #[.agg #[.pointer (some ⟨20, 164, none⟩), .pointer (some a), .int .u64 150]]).run Tryz.prog W = .ok (.bool false) W := by
  rw [rlm]
  simp only [Sem.run_bind, e_partsPP, Result.andThen]
  simp [ReflectliteValue.isNil, loadVar, isAgg, underlying, Tryz.underlying164, ha, Result.andThen]
theorem e_methodElem (h : Value) (w : World) : (Go.method 477 252 (.agg #[h]) "Elem").run Tryz.prog w = .ok (284, .agg #[h]) w := by kernel_rfl
theorem e_methodImplements (h : Value) (w : World) : (Go.method 477 252 (.agg #[h]) "Implements").run Tryz.prog w = .ok (285, .agg #[h]) w := by kernel_rfl
theorem e_methodAssignableTo (h : Value) (w : World) : (Go.method 477 252 (.agg #[h]) "AssignableTo").run Tryz.prog w = .ok (282, .agg #[h]) w := by kernel_rfl
theorem e_methodComparable (v : Value) (w : World) : (Go.method 477 252 v "Comparable").run Tryz.prog w = .ok (283, v) w := by kernel_rfl
theorem e_elemPP (w : World) : (ReflectliteType.method ReflectliteType.elem #[.agg #[.pointer (some ⟨20, 164, none⟩)]]).run Tryz.prog w = .ok (.iface 252 (.agg #[.pointer (some ⟨20, 101, none⟩)])) w := by kernel_rfl
theorem e_implementsP (w : World) : (ReflectliteType.relation "Implements" ReflectliteType.implements_ #[.agg #[.pointer (some ⟨20, 101, none⟩)], .iface 252 (.agg #[.pointer (some ⟨20, 29, none⟩)])]).run Tryz.prog w = .ok (.bool true) w := by kernel_rfl
theorem e_typeOfP (v : Value) (w : World) : (ReflectliteType.typeOf #[.iface 101 v]).run Tryz.prog w = .ok (.iface 252 (.agg #[.pointer (some ⟨20, 101, none⟩)])) w := by kernel_rfl
theorem e_typeOfS (v : Value) (w : World) : (ReflectliteType.typeOf #[.iface 336 v]).run Tryz.prog w = .ok (.iface 252 (.agg #[.pointer (some ⟨20, 336, none⟩)])) w := by kernel_rfl
theorem e_assignableP (w : World) : (ReflectliteType.relation "AssignableTo" ReflectliteType.assignableTo #[.agg #[.pointer (some ⟨20, 101, none⟩)], .iface 252 (.agg #[.pointer (some ⟨20, 101, none⟩)])]).run Tryz.prog w = .ok (.bool true) w := by kernel_rfl
theorem e_assignableS (w : World) : (ReflectliteType.relation "AssignableTo" ReflectliteType.assignableTo #[.agg #[.pointer (some ⟨20, 336, none⟩)], .iface 252 (.agg #[.pointer (some ⟨20, 101, none⟩)])]).run Tryz.prog w = .ok (.bool false) w := by kernel_rfl
theorem e_valueOfP (e : Addr) (w : World) : (ReflectliteValue.unpack (.iface 101 (.pointer (some e)))).run Tryz.prog w
    = .ok (.agg #[.pointer (some ⟨20, 101, none⟩), .pointer (some ⟨w.heap.size, 0, none⟩), .int .u64 150]) (w.alloc (.cells #[.pointer (some e)] 101)) := by kernel_rfl
theorem e_elemOfPP (w : World) : (Rtype.elem? 164).run Tryz.prog w = .ok (some 101) w := by kernel_rfl
theorem e_mkP (p : Addr) (w : World) : (ReflectliteValue.mk 101 p ReflectliteValue.flagAddr).run Tryz.prog w = .ok (.agg #[.pointer (some ⟨20, 101, none⟩), .pointer (some p), .int .u64 406]) w := by kernel_rfl
theorem e_elemVPP (a p : Addr) (W : World) (ha : W.cell? a = some (.pointer (some p))) :
    (ReflectliteValue.method (ReflectliteValue.valueError "reflectlite.Value.Elem" 0) ReflectliteValue.elem #[.agg #[.pointer (some ⟨20, 164, none⟩), .pointer (some a), .int .u64 150]]).run Tryz.prog W
      = .ok (.agg #[.pointer (some ⟨20, 101, none⟩), .pointer (some p), .int .u64 406]) W := by
  rw [rlm]
  simp only [Sem.run_bind, e_partsPP, Result.andThen]
  simp [ReflectliteValue.elem, loadVar, isAgg, underlying, Tryz.underlying164, ha, Result.andThen, e_elemOfPP, e_mkP]
theorem rls (v x : Value) : ReflectliteValue.set #[v, x] = (do
    let (some (dst, a, fl), some (src, b, _)) := (← ReflectliteValue.parts v, ← ReflectliteValue.parts x)
      | unsupported (.noEntry "extern/(internal/reflectlite.Value).Set.zeroValue")
    if fl / ReflectliteValue.flagAddr % 2 == 0 then unsupported (.noEntry "extern/(internal/reflectlite.Value).Set.unaddressable")
    let val ← loadVar src b
    if ← Rtype.directlyAssignable dst src then storeVar dst a val
    else if ← Rtype.implements dst src then
      if (← Rtype.kind src) == 20 then
        match val with
        | .nilIface => unsupported (.noEntry "extern/reflectlite: a nil value of one interface type handed on as a value of another")
        | _ => storeVar dst a val
      else storeVar dst a (.iface src val)
    else panicString ("reflectlite.Set: value of type " ++ (← Rtype.spelt src) ++ " is not assignable to type " ++ (← Rtype.spelt dst))
    pure (.tuple #[])) := rfl
theorem e_partsPa (a : Addr) (w : World) : (ReflectliteValue.parts (.agg #[.pointer (some ⟨20, 101, none⟩), .pointer (some a), .int .u64 406])).run Tryz.prog w = .ok (some (101, a, 406)) w := by kernel_rfl
theorem e_partsP (a : Addr) (w : World) : (ReflectliteValue.parts (.agg #[.pointer (some ⟨20, 101, none⟩), .pointer (some a), .int .u64 150])).run Tryz.prog w = .ok (some (101, a, 150)) w := by kernel_rfl
theorem e_directP (w : World) : (Rtype.directlyAssignable 101 101).run Tryz.prog w = .ok true w := by kernel_rfl
theorem e_setP (ta b e : Addr) (old : Value) (W : World) (hb : W.cell? b = some (.pointer (some e))) (ht : W.cell? ta = some old) (hf : W.frozen? ta = false) :
    (ReflectliteValue.set #[.agg #[.pointer (some ⟨20, 101, none⟩), .pointer (some ta), .int .u64 406], .agg #[.pointer (some ⟨20, 101, none⟩), .pointer (some b), .int .u64 150]]).run Tryz.prog W
      = .ok (.tuple #[]) (W.setCell ta (.pointer (some e))) := by
  rw [rls]
  simp only [Sem.run_bind, e_partsPa, e_partsP, Result.andThen]
  simp [ReflectliteValue.flagAddr, loadVar, isAgg, underlying, Tryz.underlying101, hb, Result.andThen, e_directP, storeVar, Value.cells, storeCells, Addr.add]
  rw [run_store Tryz.prog W ta _ _ (by rfl)]
  simp [ht, hf]
def compExt : Array Value → Sem Value := ReflectliteType.method fun t => do Rtype.noPackHeld "Comparable" t; pure (.bool (← typeInfo t).comparable)
theorem e_compS (w : World) : (compExt #[.agg #[.pointer (some ⟨20, 336, none⟩)]]).run Tryz.prog w = .ok (.bool true) w := by kernel_rfl
theorem e_comp : (Tryz.prog.info? 336).map (·.comparable) = some true := by kernel_rfl
theorem e_size : (Tryz.prog.info? 338).map (·.size) = some 1 := by kernel_rfl

/-! ### what the assertions in errors.as and errors.is find -/
theorem e_noAsS (v : Value) (xT : TypeId) (w : World) : (Instr.typeAssert (.iface 336 v) xT 256 true).run Tryz.prog w = .ok (.tuple #[.nilIface, .bool false]) w := run_typeAssert_lacksB Tryz.underlying256 (by kernel_rfl) (by kernel_rfl) v xT w
theorem e_noIsS (v : Value) (xT : TypeId) (w : World) : (Instr.typeAssert (.iface 336 v) xT 262 true).run Tryz.prog w = .ok (.tuple #[.nilIface, .bool false]) w := run_typeAssert_lacksB Tryz.underlying262 (by kernel_rfl) (by kernel_rfl) v xT w
theorem e_noUnwrapS (v : Value) (xT : TypeId) (w : World) : (Instr.typeAssert (.iface 336 v) xT 259 true).run Tryz.prog w = .ok (.tuple #[.nilIface, .bool false]) w := run_typeAssert_lacksB Tryz.underlying259 (by kernel_rfl) (by kernel_rfl) v xT w
theorem e_noUnwrapsS (v : Value) (xT : TypeId) (w : World) : (Instr.typeAssert (.iface 336 v) xT 260 true).run Tryz.prog w = .ok (.tuple #[.nilIface, .bool false]) w := run_typeAssert_lacksB Tryz.underlying260 (by kernel_rfl) (by kernel_rfl) v xT w
theorem e_noIsF (v : Value) (xT : TypeId) (w : World) : (Instr.typeAssert (.iface 101 v) xT 262 true).run Tryz.prog w = .ok (.tuple #[.nilIface, .bool false]) w := run_typeAssert_lacksB Tryz.underlying262 (by kernel_rfl) (by kernel_rfl) v xT w
theorem e_hasUnwrapF (v : Value) (xT : TypeId) (w : World) : (Instr.typeAssert (.iface 101 v) xT 259 true).run Tryz.prog w = .ok (.tuple #[.iface 101 v, .bool true]) w := run_typeAssert_hasB Tryz.underlying259 (by kernel_rfl) v xT w
theorem e_methodUnwrap (v : Value) (w : World) : (Go.method 477 101 v "Unwrap").run Tryz.prog w = .ok (276, v) w := by kernel_rfl

/-! ### errors.Is -/
theorem is_same (a : Addr) (w : World) :
    Calls Tryz.prog 94 #[sentV a, sentV a] w fun e w' => e = .returned (.bool true) ∧ w' = w := by
  unfold sentV
  obtain ⟨i, hi, hcmp⟩ := Option.map_eq_some_iff.1 e_comp
  obtain ⟨j, hj, hjs⟩ := Option.map_eq_some_iff.1 e_size
  have hTypeOf := @run_callFunc_extern Tryz.prog 137 _ ReflectliteType.typeOf Tryz.func137 (by kernel_rfl) (by kernel_rfl) (by kernel_rfl) (by kernel_rfl)
  have hComp := @run_callFunc_extern Tryz.prog 283 _ compExt Tryz.func283 (by kernel_rfl) (by kernel_rfl) (by kernel_rfl) (by kernel_rfl)
  have tT := e_typeOfS
  have cT := e_compS
  have mR := e_methodComparable
  have heq := run_eql_iface_ptr_same (P := Tryz.prog) w a Tryz.underlying29 Tryz.underlying336 hi hcmp hj
  go_enter Tryz.func94, Tryz.ntmps94
  go_wp2
  refine wp_loop_rounds 1 ?_
  rw [rounds_succ]
  go_wp2
  go_ret
  exact ⟨rfl, rfl⟩

/-- errors.Is(x, y), two different pointers to errors.errorString. -/
theorem is_other (a b : Addr) (w : World) (hne : a ≠ b) (ha : ∃ c t, w.heap[a.block]? = some (.cells c t (0, 0))) (hb : ∃ c t, w.heap[b.block]? = some (.cells c t (0, 0))) :
    Calls Tryz.prog 94 #[sentV a, sentV b] w fun e w' => e = .returned (.bool false) ∧ w' = w := by
  unfold sentV
  obtain ⟨ca, ta, ha⟩ := ha
  obtain ⟨cb, tb, hb⟩ := hb
  obtain ⟨i, hi, hcmp⟩ := Option.map_eq_some_iff.1 e_comp
  obtain ⟨j, hj, hjs⟩ := Option.map_eq_some_iff.1 e_size
  have hTypeOf := @run_callFunc_extern Tryz.prog 137 _ ReflectliteType.typeOf Tryz.func137 (by kernel_rfl) (by kernel_rfl) (by kernel_rfl) (by kernel_rfl)
  have hComp := @run_callFunc_extern Tryz.prog 283 _ compExt Tryz.func283 (by kernel_rfl) (by kernel_rfl) (by kernel_rfl) (by kernel_rfl)
  have tT := e_typeOfS
  have cT := e_compS
  have mR := e_methodComparable
  have nE := e_noIsS
  have uE := e_noUnwrapS
  have vE := e_noUnwrapsS
  have heq := run_eql_iface_ptr_other (P := Tryz.prog) w Tryz.underlying29 Tryz.underlying336 hi hcmp hj (by rw [hjs]; decide) hne ha hb
  go_enter Tryz.func94, Tryz.ntmps94
  go_wp2
  refine wp_loop_rounds 1 ?_
  rw [rounds_succ]
  go_wp2
  go_ret
  exact ⟨rfl, rfl⟩

/-- errors.Is(f, x), f an api.Fault that holds x itself. -/
theorem is_fault_same (pb : Nat) (b : Addr) (w : World) (h1 : w.cell? ⟨pb, 1, none⟩ = some (sentV b)) :
    Calls Tryz.prog 94 #[faultV ⟨pb, 0, none⟩, sentV b] w fun e w' => e = .returned (.bool true) ∧ w' = w := by
  unfold sentV at *
  unfold faultV
  obtain ⟨i, hi, hcmp⟩ := Option.map_eq_some_iff.1 e_comp
  obtain ⟨j, hj, hjs⟩ := Option.map_eq_some_iff.1 e_size
  have hTypeOf := @run_callFunc_extern Tryz.prog 137 _ ReflectliteType.typeOf Tryz.func137 (by kernel_rfl) (by kernel_rfl) (by kernel_rfl) (by kernel_rfl)
  have hComp := @run_callFunc_extern Tryz.prog 283 _ compExt Tryz.func283 (by kernel_rfl) (by kernel_rfl) (by kernel_rfl) (by kernel_rfl)
  have tT := e_typeOfS
  have cT := e_compS
  have mR := e_methodComparable
  have nW := e_noIsF
  have uW := e_hasUnwrapF
  have mU := e_methodUnwrap
  have heq := run_eql_iface_ptr_same (P := Tryz.prog) w b Tryz.underlying29 Tryz.underlying336 hi hcmp hj
  have hty := run_eql_iface_types (P := Tryz.prog) 101 336 (.pointer (some ⟨pb, 0, none⟩)) (.pointer (some b)) Tryz.underlying29 (by decide) w
  go_enter Tryz.func94, Tryz.ntmps94
  go_wp2
  refine wp_loop_rounds 2 ?_
  rw [rounds_succ]
  go_wp2
  rw [rounds_succ]
  go_wp2
  go_ret
  exact ⟨rfl, rfl⟩

/-- errors.Is(f, x), f an api.Fault that holds another sentinel. -/
theorem is_fault_other (pb : Nat) (b a : Addr) (w : World) (h1 : w.cell? ⟨pb, 1, none⟩ = some (sentV a)) (hne : a ≠ b) (ha : ∃ c t, w.heap[a.block]? = some (.cells c t (0, 0))) (hb : ∃ c t, w.heap[b.block]? = some (.cells c t (0, 0))) :
    Calls Tryz.prog 94 #[faultV ⟨pb, 0, none⟩, sentV b] w fun e w' => e = .returned (.bool false) ∧ w' = w := by
  unfold sentV at *
  unfold faultV
  obtain ⟨ca, ta, ha⟩ := ha
  obtain ⟨cb, tb, hb⟩ := hb
  obtain ⟨i, hi, hcmp⟩ := Option.map_eq_some_iff.1 e_comp
  obtain ⟨j, hj, hjs⟩ := Option.map_eq_some_iff.1 e_size
  have hTypeOf := @run_callFunc_extern Tryz.prog 137 _ ReflectliteType.typeOf Tryz.func137 (by kernel_rfl) (by kernel_rfl) (by kernel_rfl) (by kernel_rfl)
  have hComp := @run_callFunc_extern Tryz.prog 283 _ compExt Tryz.func283 (by kernel_rfl) (by kernel_rfl) (by kernel_rfl) (by kernel_rfl)
  have tT := e_typeOfS
  have cT := e_compS
  have mR := e_methodComparable
  have nE := e_noIsS
  have uE := e_noUnwrapS
  have vE := e_noUnwrapsS
  have nW := e_noIsF
  have uW := e_hasUnwrapF
  have mU := e_methodUnwrap
  have heq := run_eql_iface_ptr_other (P := Tryz.prog) w Tryz.underlying29 Tryz.underlying336 hi hcmp hj (by rw [hjs]; decide) hne ha hb
  have hty := run_eql_iface_types (P := Tryz.prog) 101 336 (.pointer (some ⟨pb, 0, none⟩)) (.pointer (some b)) Tryz.underlying29 (by decide) w
  go_enter Tryz.func94, Tryz.ntmps94
  go_wp2
  refine wp_loop_rounds 2 ?_
  rw [rounds_succ]
  go_wp2
  rw [rounds_succ]
  go_wp2
  go_ret
  exact ⟨rfl, rfl⟩

/-! ### errors.As at '**api.Fault' -/
set_option maxHeartbeats 4000000 in
/-- A fault: it is handed over; four new blocks. -/
theorem as_fault (e t : Addr) (old : Value) (w : World) (hg : w.cell? ⟨11, 0, none⟩ = some (.iface 252 (.agg #[.pointer (some ⟨20, 29, none⟩)]))) (ht0 : w.cell? t = some old) (hf0 : w.frozen? t = false) :
    Calls Tryz.prog 93 #[faultV e, .iface 164 (.pointer (some t))] w fun ev w' => ev = .returned (.bool true) ∧ w' = ((((w.alloc (.cells #[.pointer (some t)] 164)).alloc (.cells #[.pointer (some ⟨20, 164, none⟩), .pointer (some ⟨w.heap.size, 0, none⟩), .int .u64 150] 214)).alloc (.cells #[.pointer (some ⟨20, 164, none⟩), .pointer (some ⟨w.heap.size, 0, none⟩), .int .u64 150] 214)).alloc (.cells #[.pointer (some e)] 101)).setCell t (.pointer (some e)) := by
  unfold faultV
  have h6 := @run_callFunc_extern Tryz.prog 133 _ (fun args => ReflectliteValue.unpack (args.getD 0 (.tuple #[]))) Tryz.func133 (by kernel_rfl) (by kernel_rfl) (by kernel_rfl) (by kernel_rfl)
  have h7 := @run_callFunc_extern Tryz.prog 134 _ (ReflectliteValue.methodAny (ReflectliteValue.valueError "reflectlite.Value.Type" 0) (fun t _ _ _ => ReflectliteType.toType t)) Tryz.func134 (by kernel_rfl) (by kernel_rfl) (by kernel_rfl) (by kernel_rfl)
  have h8 := @run_callFunc_extern Tryz.prog 135 _ (ReflectliteValue.method (ReflectliteValue.valueError "reflectlite.Value.IsNil" 0) ReflectliteValue.isNil) Tryz.func135 (by kernel_rfl) (by kernel_rfl) (by kernel_rfl) (by kernel_rfl)
  have h27 := @run_callFunc_extern Tryz.prog 272 _ (ReflectliteType.abiMethod fun t => do pure (.int .u8 (← Rtype.kind t))) Tryz.func272 (by kernel_rfl) (by kernel_rfl) (by kernel_rfl) (by kernel_rfl)
  have h37 := @run_callFunc_extern Tryz.prog 284 _ (ReflectliteType.method ReflectliteType.elem) Tryz.func284 (by kernel_rfl) (by kernel_rfl) (by kernel_rfl) (by kernel_rfl)
  have h38 := @run_callFunc_extern Tryz.prog 285 _ (ReflectliteType.relation "Implements" ReflectliteType.implements_) Tryz.func285 (by kernel_rfl) (by kernel_rfl) (by kernel_rfl) (by kernel_rfl)
  have h10 := @run_callFunc_extern Tryz.prog 137 _ ReflectliteType.typeOf Tryz.func137 (by kernel_rfl) (by kernel_rfl) (by kernel_rfl) (by kernel_rfl)
  have h35 := @run_callFunc_extern Tryz.prog 282 _ (ReflectliteType.relation "AssignableTo" ReflectliteType.assignableTo) Tryz.func282 (by kernel_rfl) (by kernel_rfl) (by kernel_rfl) (by kernel_rfl)
  have h11 := @run_callFunc_extern Tryz.prog 175 _ (ReflectliteValue.method (ReflectliteValue.valueError "reflectlite.Value.Elem" 0) ReflectliteValue.elem) Tryz.func175 (by kernel_rfl) (by kernel_rfl) (by kernel_rfl) (by kernel_rfl)
  have h12 := @run_callFunc_extern Tryz.prog 176 _ ReflectliteValue.set Tryz.func176 (by kernel_rfl) (by kernel_rfl) (by kernel_rfl) (by kernel_rfl)
  have tO := e_typeOfP
  have mA := e_methodAssignableTo
  have a25 := e_assignableP
  have v25 := e_valueOfP
  have f6 := e_valueOfPP
  have f7 := e_typePP
  have mK := e_methodKind
  have mE := e_methodElem
  have mI := e_methodImplements
  have k27 := e_kindPP
  have k25 := e_kindP
  have e27 := e_elemPP
  have i25 := e_implementsP
  have n8 := e_isNilPP ⟨w.heap.size, 0, none⟩ t ((w.alloc (.cells #[.pointer (some t)] 164)).alloc (.cells #[.pointer (some ⟨20, 164, none⟩), .pointer (some ⟨w.heap.size, 0, none⟩), .int .u64 150] 214)) (by simp)
  have hlt : 11 < w.heap.size := by
    rcases Nat.lt_or_ge 11 w.heap.size with h | h
    · exact h
    · simp [World.cell?, Array.getElem?_eq_none h] at hg
  have hg2 : ((w.alloc (.cells #[.pointer (some t)] 164)).alloc (.cells #[.pointer (some ⟨20, 164, none⟩), .pointer (some ⟨w.heap.size, 0, none⟩), .int .u64 150] 214)).cell? ⟨11, 0, none⟩ = some (.iface 252 (.agg #[.pointer (some ⟨20, 29, none⟩)])) := by
    rw [World.cell?_alloc_lt _ _ ⟨11, 0, none⟩ (by simp; omega), World.cell?_alloc_lt _ _ ⟨11, 0, none⟩ hlt]; exact hg
  have htl : t.block < w.heap.size := by
    rcases Nat.lt_or_ge t.block w.heap.size with h | h
    · exact h
    · simp [World.cell?, Array.getElem?_eq_none h] at ht0
  have el := e_elemVPP ⟨w.heap.size, 0, none⟩ t (((w.alloc (.cells #[.pointer (some t)] 164)).alloc (.cells #[.pointer (some ⟨20, 164, none⟩), .pointer (some ⟨w.heap.size, 0, none⟩), .int .u64 150] 214)).alloc (.cells #[.pointer (some ⟨20, 164, none⟩), .pointer (some ⟨w.heap.size, 0, none⟩), .int .u64 150] 214)) (by rw [World.cell?_alloc_lt _ _ ⟨w.heap.size, 0, none⟩ (by simp; omega)]; simp)
  have st := e_setP t ⟨w.heap.size + 1 + 1 + 1, 0, none⟩ e old ((((w.alloc (.cells #[.pointer (some t)] 164)).alloc (.cells #[.pointer (some ⟨20, 164, none⟩), .pointer (some ⟨w.heap.size, 0, none⟩), .int .u64 150] 214)).alloc (.cells #[.pointer (some ⟨20, 164, none⟩), .pointer (some ⟨w.heap.size, 0, none⟩), .int .u64 150] 214)).alloc (.cells #[.pointer (some e)] 101))
    (by rw [World.cell?_alloc_at _ _ _ _ (by simp)]; rfl)
    (by rw [World.cell?_alloc_lt _ _ t (by simp; omega), World.cell?_alloc_lt _ _ t (by simp; omega), World.cell?_alloc_lt _ _ t (by simp; omega), World.cell?_alloc_lt _ _ t htl]; exact ht0)
    (by rw [World.frozen?_alloc_old _ _ t (by simp; omega), World.frozen?_alloc_old _ _ t (by simp; omega), World.frozen?_alloc_old _ _ t (by simp; omega), World.frozen?_alloc_old _ _ t (Nat.ne_of_lt htl)]; exact hf0)
  go_enter Tryz.func93, Tryz.ntmps93
  go_wp2
  refine wp_loop_rounds 1 ?_
  rw [rounds_succ]
  go_wp2
  go_ret
  exact ⟨rfl, rfl⟩

set_option maxHeartbeats 4000000 in
/-- A sentinel: it is none. -/
theorem as_sent (e t : Addr) (old : Value) (w : World) (hg : w.cell? ⟨11, 0, none⟩ = some (.iface 252 (.agg #[.pointer (some ⟨20, 29, none⟩)]))) (ht0 : w.cell? t = some old) :
    Calls Tryz.prog 93 #[sentV e, .iface 164 (.pointer (some t))] w fun ev w' => ev = .returned (.bool false) ∧ Below w.heap.size w w' := by
  unfold sentV
  have h6 := @run_callFunc_extern Tryz.prog 133 _ (fun args => ReflectliteValue.unpack (args.getD 0 (.tuple #[]))) Tryz.func133 (by kernel_rfl) (by kernel_rfl) (by kernel_rfl) (by kernel_rfl)
  have h7 := @run_callFunc_extern Tryz.prog 134 _ (ReflectliteValue.methodAny (ReflectliteValue.valueError "reflectlite.Value.Type" 0) (fun t _ _ _ => ReflectliteType.toType t)) Tryz.func134 (by kernel_rfl) (by kernel_rfl) (by kernel_rfl) (by kernel_rfl)
  have h8 := @run_callFunc_extern Tryz.prog 135 _ (ReflectliteValue.method (ReflectliteValue.valueError "reflectlite.Value.IsNil" 0) ReflectliteValue.isNil) Tryz.func135 (by kernel_rfl) (by kernel_rfl) (by kernel_rfl) (by kernel_rfl)
  have h27 := @run_callFunc_extern Tryz.prog 272 _ (ReflectliteType.abiMethod fun t => do pure (.int .u8 (← Rtype.kind t))) Tryz.func272 (by kernel_rfl) (by kernel_rfl) (by kernel_rfl) (by kernel_rfl)
  have h37 := @run_callFunc_extern Tryz.prog 284 _ (ReflectliteType.method ReflectliteType.elem) Tryz.func284 (by kernel_rfl) (by kernel_rfl) (by kernel_rfl) (by kernel_rfl)
  have h38 := @run_callFunc_extern Tryz.prog 285 _ (ReflectliteType.relation "Implements" ReflectliteType.implements_) Tryz.func285 (by kernel_rfl) (by kernel_rfl) (by kernel_rfl) (by kernel_rfl)
  have h10 := @run_callFunc_extern Tryz.prog 137 _ ReflectliteType.typeOf Tryz.func137 (by kernel_rfl) (by kernel_rfl) (by kernel_rfl) (by kernel_rfl)
  have h35 := @run_callFunc_extern Tryz.prog 282 _ (ReflectliteType.relation "AssignableTo" ReflectliteType.assignableTo) Tryz.func282 (by kernel_rfl) (by kernel_rfl) (by kernel_rfl) (by kernel_rfl)
  have tO := e_typeOfS
  have mA := e_methodAssignableTo
  have a25 := e_assignableS
  have f6 := e_valueOfPP
  have f7 := e_typePP
  have mK := e_methodKind
  have mE := e_methodElem
  have mI := e_methodImplements
  have k27 := e_kindPP
  have k25 := e_kindP
  have e27 := e_elemPP
  have i25 := e_implementsP
  have nA := e_noAsS
  have nU := e_noUnwrapS
  have nV := e_noUnwrapsS
  have n8 := e_isNilPP ⟨w.heap.size, 0, none⟩ t ((w.alloc (.cells #[.pointer (some t)] 164)).alloc (.cells #[.pointer (some ⟨20, 164, none⟩), .pointer (some ⟨w.heap.size, 0, none⟩), .int .u64 150] 214)) (by simp)
  have hlt : 11 < w.heap.size := by
    rcases Nat.lt_or_ge 11 w.heap.size with h | h
    · exact h
    · simp [World.cell?, Array.getElem?_eq_none h] at hg
  have hg2 : ((w.alloc (.cells #[.pointer (some t)] 164)).alloc (.cells #[.pointer (some ⟨20, 164, none⟩), .pointer (some ⟨w.heap.size, 0, none⟩), .int .u64 150] 214)).cell? ⟨11, 0, none⟩ = some (.iface 252 (.agg #[.pointer (some ⟨20, 29, none⟩)])) := by
    rw [World.cell?_alloc_lt _ _ ⟨11, 0, none⟩ (by simp; omega), World.cell?_alloc_lt _ _ ⟨11, 0, none⟩ hlt]; exact hg
  go_enter Tryz.func93, Tryz.ntmps93
  go_wp2
  refine wp_loop_rounds 1 ?_
  rw [rounds_succ]
  go_wp2
  go_ret
  exact ⟨rfl, by go_grown⟩
end Go.Proofs.YtfkklcmepcocoaaGreatDoor
