/- errors.As and errors.Is by contracts, at what this program hands them: a sentinel of errors.New's make, or an api.Fault that holds one. -/
import Derived.Test.YtpbgonpmpjpljaaGreatDoorBaseX
import Derived.Test.YtpbgonpmpjpljaaGreatDoorChecked
import Derived.WalkKit
import Derived.LaidEql
import Derived.RowKitTokens
import Derived.Stop.Asserts
namespace Go.Proofs.YtpbgonpmpjpljaaGreatDoor
open Go.RowKit Go.Extern.Stop Go.Stop Go.Extern
set_option linter.unusedVariables false

/-- A sentinel: an interface value that holds a pointer to an errors.errorString. -/
abbrev sentV (a : Addr) : Value := .iface 274 (.pointer (some a))
/-- A fault: an interface value that holds a pointer to an api.Fault. -/
abbrev faultV (a : Addr) : Value := .iface 87 (.pointer (some a))

/-! ### closed facts on the model's entries for internal/reflectlite, at this program's types -/
theorem e_valueOfPP (t : Addr) (w : World) : (ReflectliteValue.unpack (.iface 104 (.pointer (some t)))).run Tryz.prog w
    = .ok (.agg #[.pointer (some ⟨18, 104, none⟩), .pointer (some ⟨w.heap.size, 0, none⟩), .int .u64 150]) (w.alloc (.cells #[.pointer (some t)] 104)) := by kernel_rfl
theorem e_typePP (a : Addr) (w : World) : (ReflectliteValue.methodAny (ReflectliteValue.valueError "reflectlite.Value.Type" 0) (fun t _ _ _ => ReflectliteType.toType t) #[.agg #[.pointer (some ⟨18, 104, none⟩), .pointer (some a), .int .u64 150]]).run Tryz.prog w
    = .ok (.iface 175 (.agg #[.pointer (some ⟨18, 104, none⟩)])) w := by kernel_rfl
theorem e_methodKind (h : Value) (w : World) : (Go.method 404 175 (.agg #[h]) "Kind").run Tryz.prog w = .ok (202, h) w := by kernel_rfl
theorem e_kindPP (w : World) : ((ReflectliteType.abiMethod fun t => (fun a : Nat => Value.int IntKind.u8 (a : Int)) <$> Rtype.kind t) #[.pointer (some ⟨18, 104, none⟩)]).run Tryz.prog w = .ok (.int .u8 22) w := by kernel_rfl
theorem e_kindP (w : World) : ((ReflectliteType.abiMethod fun t => (fun a : Nat => Value.int IntKind.u8 (a : Int)) <$> Rtype.kind t) #[.pointer (some ⟨18, 87, none⟩)]).run Tryz.prog w = .ok (.int .u8 22) w := by kernel_rfl
theorem rlm (z : Sem Value) (f : TypeId → Addr → Nat → Nat → Sem Value) (v : Value) :
    ReflectliteValue.method z f #[v] = (do match ← ReflectliteValue.parts v with | none => z | some (t, a, fl) => f t a fl (fl % 32)) := rfl
theorem e_partsPP (a : Addr) (w : World) : (ReflectliteValue.parts (.agg #[.pointer (some ⟨18, 104, none⟩), .pointer (some a), .int .u64 150])).run Tryz.prog w = .ok (some (104, a, 150)) w := by kernel_rfl
theorem e_isNilPP (a p : Addr) (W : World) (ha : W.cell? a = some (.pointer (some p))) :
    (ReflectliteValue.method (ReflectliteValue.valueError "reflectlite.Value.IsNil" 0) ReflectliteValue.isNil #[.agg #[.pointer (some ⟨18, 104, none⟩), .pointer (some a), .int .u64 150]]).run Tryz.prog W = .ok (.bool false) W := by
  rw [rlm]
  simp only [Sem.run_bind, e_partsPP, Result.andThen]
  simp [ReflectliteValue.isNil, loadVar, isAgg, underlying, Tryz.underlying104, ha, Result.andThen]
theorem e_methodElem (h : Value) (w : World) : (Go.method 404 175 (.agg #[h]) "Elem").run Tryz.prog w = .ok (214, .agg #[h]) w := by kernel_rfl
theorem e_methodImplements (h : Value) (w : World) : (Go.method 404 175 (.agg #[h]) "Implements").run Tryz.prog w = .ok (215, .agg #[h]) w := by kernel_rfl
theorem e_methodAssignableTo (h : Value) (w : World) : (Go.method 404 175 (.agg #[h]) "AssignableTo").run Tryz.prog w = .ok (212, .agg #[h]) w := by kernel_rfl
theorem e_methodComparable (v : Value) (w : World) : (Go.method 404 175 v "Comparable").run Tryz.prog w = .ok (213, v) w := by kernel_rfl
theorem e_elemPP (w : World) : (ReflectliteType.method ReflectliteType.elem #[.agg #[.pointer (some ⟨18, 104, none⟩)]]).run Tryz.prog w = .ok (.iface 175 (.agg #[.pointer (some ⟨18, 87, none⟩)])) w := by kernel_rfl
theorem e_implementsP (w : World) : (ReflectliteType.relation "Implements" ReflectliteType.implements_ #[.agg #[.pointer (some ⟨18, 87, none⟩)], .iface 175 (.agg #[.pointer (some ⟨18, 34, none⟩)])]).run Tryz.prog w = .ok (.bool true) w := by kernel_rfl
theorem e_typeOfP (v : Value) (w : World) : (ReflectliteType.typeOf #[.iface 87 v]).run Tryz.prog w = .ok (.iface 175 (.agg #[.pointer (some ⟨18, 87, none⟩)])) w := by kernel_rfl
theorem e_typeOfS (v : Value) (w : World) : (ReflectliteType.typeOf #[.iface 274 v]).run Tryz.prog w = .ok (.iface 175 (.agg #[.pointer (some ⟨18, 274, none⟩)])) w := by kernel_rfl
theorem e_assignableP (w : World) : (ReflectliteType.relation "AssignableTo" ReflectliteType.assignableTo #[.agg #[.pointer (some ⟨18, 87, none⟩)], .iface 175 (.agg #[.pointer (some ⟨18, 87, none⟩)])]).run Tryz.prog w = .ok (.bool true) w := by kernel_rfl
theorem e_assignableS (w : World) : (ReflectliteType.relation "AssignableTo" ReflectliteType.assignableTo #[.agg #[.pointer (some ⟨18, 274, none⟩)], .iface 175 (.agg #[.pointer (some ⟨18, 87, none⟩)])]).run Tryz.prog w = .ok (.bool false) w := by kernel_rfl
theorem e_valueOfP (e : Addr) (w : World) : (ReflectliteValue.unpack (.iface 87 (.pointer (some e)))).run Tryz.prog w
    = .ok (.agg #[.pointer (some ⟨18, 87, none⟩), .pointer (some ⟨w.heap.size, 0, none⟩), .int .u64 150]) (w.alloc (.cells #[.pointer (some e)] 87)) := by kernel_rfl
theorem e_elemOfPP (w : World) : (Rtype.elem? 104).run Tryz.prog w = .ok (some 87) w := by kernel_rfl
theorem e_mkP (p : Addr) (w : World) : (ReflectliteValue.mk 87 p ReflectliteValue.flagAddr).run Tryz.prog w = .ok (.agg #[.pointer (some ⟨18, 87, none⟩), .pointer (some p), .int .u64 406]) w := by kernel_rfl
theorem e_elemVPP (a p : Addr) (W : World) (ha : W.cell? a = some (.pointer (some p))) :
    (ReflectliteValue.method (ReflectliteValue.valueError "reflectlite.Value.Elem" 0) ReflectliteValue.elem #[.agg #[.pointer (some ⟨18, 104, none⟩), .pointer (some a), .int .u64 150]]).run Tryz.prog W
      = .ok (.agg #[.pointer (some ⟨18, 87, none⟩), .pointer (some p), .int .u64 406]) W := by
  rw [rlm]
  simp only [Sem.run_bind, e_partsPP, Result.andThen]
  simp [ReflectliteValue.elem, loadVar, isAgg, underlying, Tryz.underlying104, ha, Result.andThen, e_elemOfPP, e_mkP]
theorem rls (v x : Value) : ReflectliteValue.set #[v, x] = (do
    let (some (dst, a, fl), some (src, b, _)) := (← ReflectliteValue.parts v, ← ReflectliteValue.parts x)
      | unsupported (.noEntry "extern/(internal/reflectlite.Value).Set.zeroValue")
    if fl / ReflectliteValue.flagAddr % 2 == 0 then unsupported (.noEntry "extern/(internal/reflectlite.Value).Set.unaddressable")
    let val ← loadVar src b
    if ← Rtype.directlyAssignable dst src then storeVar dst a val
    else if ← Rtype.implements dst src then
      if (← Rtype.kind src) == 20 then
        match val with
        | .nilIface => unsupported (.noEntry "extern/reflectlite: a nil value of one interface type handed on as a value of another")
        | _ => storeVar dst a val
      else storeVar dst a (.iface src val)
    else panicString ("reflectlite.Set: value of type " ++ (← Rtype.spelt src) ++ " is not assignable to type " ++ (← Rtype.spelt dst))
    pure (.tuple #[])) := rfl
theorem e_partsPa (a : Addr) (w : World) : (ReflectliteValue.parts (.agg #[.pointer (some ⟨18, 87, none⟩), .pointer (some a), .int .u64 406])).run Tryz.prog w = .ok (some (87, a, 406)) w := by kernel_rfl
theorem e_partsP (a : Addr) (w : World) : (ReflectliteValue.parts (.agg #[.pointer (some ⟨18, 87, none⟩), .pointer (some a), .int .u64 150])).run Tryz.prog w = .ok (some (87, a, 150)) w := by kernel_rfl
theorem e_directP (w : World) : (Rtype.directlyAssignable 87 87).run Tryz.prog w = .ok true w := by kernel_rfl
theorem e_setP (ta b e : Addr) (old : Value) (W : World) (hb : W.cell? b = some (.pointer (some e))) (ht : W.cell? ta = some old) (hf : W.frozen? ta = false) :
    (ReflectliteValue.set #[.agg #[.pointer (some ⟨18, 87, none⟩), .pointer (some ta), .int .u64 406], .agg #[.pointer (some ⟨18, 87, none⟩), .pointer (some b), .int .u64 150]]).run Tryz.prog W
      = .ok (.tuple #[]) (W.setCell ta (.pointer (some e))) := by
  rw [rls]
  simp only [Sem.run_bind, e_partsPa, e_partsP, Result.andThen]
  simp [ReflectliteValue.flagAddr, loadVar, isAgg, underlying, Tryz.underlying87, hb, Result.andThen, e_directP, storeVar, Value.cells, storeCells, Addr.add]
  rw [run_store Tryz.prog W ta _ _ (by rfl)]
  simp [ht, hf]
def compExt : Array Value → Sem Value := ReflectliteType.method fun t => do Rtype.noPackHeld "Comparable" t; pure (.bool (← typeInfo t).comparable)
theorem e_compS (w : World) : (compExt #[.agg #[.pointer (some ⟨18, 274, none⟩)]]).run Tryz.prog w = .ok (.bool true) w := by kernel_rfl
theorem e_comp : (Tryz.prog.info? 274).map (·.comparable) = some true := by kernel_rfl
theorem e_size : (Tryz.prog.info? 292).map (·.size) = some 1 := by kernel_rfl

/-! ### what the assertions in errors.as and errors.is find -/
theorem e_noAsS (v : Value) (xT : TypeId) (w : World) : (Instr.typeAssert (.iface 274 v) xT 179 true).run Tryz.prog w = .ok (.tuple #[.nilIface, .bool false]) w := run_typeAssert_lacksB Tryz.underlying179 (by kernel_rfl) (by kernel_rfl) v xT w
theorem e_noIsS (v : Value) (xT : TypeId) (w : World) : (Instr.typeAssert (.iface 274 v) xT 186 true).run Tryz.prog w = .ok (.tuple #[.nilIface, .bool false]) w := run_typeAssert_lacksB Tryz.underlying186 (by kernel_rfl) (by kernel_rfl) v xT w
theorem e_noUnwrapS (v : Value) (xT : TypeId) (w : World) : (Instr.typeAssert (.iface 274 v) xT 182 true).run Tryz.prog w = .ok (.tuple #[.nilIface, .bool false]) w := run_typeAssert_lacksB Tryz.underlying182 (by kernel_rfl) (by kernel_rfl) v xT w
theorem e_noUnwrapsS (v : Value) (xT : TypeId) (w : World) : (Instr.typeAssert (.iface 274 v) xT 184 true).run Tryz.prog w = .ok (.tuple #[.nilIface, .bool false]) w := run_typeAssert_lacksB Tryz.underlying184 (by kernel_rfl) (by kernel_rfl) v xT w
theorem e_noIsF (v : Value) (xT : TypeId) (w : World) : (Instr.typeAssert (.iface 87 v) xT 186 true).run Tryz.prog w = .ok (.tuple #[.nilIface, .bool false]) w := run_typeAssert_lacksB Tryz.underlying186 (by kernel_rfl) (by kernel_rfl) v xT w
theorem e_hasUnwrapF (v : Value) (xT : TypeId) (w : World) : (Instr.typeAssert (.iface 87 v) xT 182 true).run Tryz.prog w = .ok (.tuple #[.iface 87 v, .bool true]) w := run_typeAssert_hasB Tryz.underlying182 (by kernel_rfl) v xT w
theorem e_methodUnwrap (v : Value) (w : World) : (Go.method 404 87 v "Unwrap").run Tryz.prog w = .ok (206, v) w := by kernel_rfl

/-! ### errors.Is -/
theorem is_same (a : Addr) (w : World) :
    Calls Tryz.prog 53 #[sentV a, sentV a] w fun e w' => e = .returned (.bool true) ∧ w' = w := by
  unfold sentV
  obtain ⟨i, hi, hcmp⟩ := Option.map_eq_some_iff.1 e_comp
  obtain ⟨j, hj, hjs⟩ := Option.map_eq_some_iff.1 e_size
  have hTypeOf := @run_callFunc_extern Tryz.prog 83 _ ReflectliteType.typeOf Tryz.func83 (by kernel_rfl) (by kernel_rfl) (by kernel_rfl) (by kernel_rfl)
  have hComp := @run_callFunc_extern Tryz.prog 213 _ compExt Tryz.func213 (by kernel_rfl) (by kernel_rfl) (by kernel_rfl) (by kernel_rfl)
  have tT := e_typeOfS
  have cT := e_compS
  have mR := e_methodComparable
  have heq := run_eql_iface_ptr_same (P := Tryz.prog) w a Tryz.underlying34 Tryz.underlying274 hi hcmp hj
  go_enter Tryz.func53, Tryz.ntmps53
  go_wp2
  refine wp_loop_rounds 1 ?_
  rw [rounds_succ]
  go_wp2
  go_ret
  exact ⟨rfl, rfl⟩

/-- errors.Is(x, y), two different pointers to errors.errorString. -/
theorem is_other (a b : Addr) (w : World) (hne : a ≠ b) (ha : ∃ c t, w.heap[a.block]? = some (.cells c t (0, 0))) (hb : ∃ c t, w.heap[b.block]? = some (.cells c t (0, 0))) :
    Calls Tryz.prog 53 #[sentV a, sentV b] w fun e w' => e = .returned (.bool false) ∧ w' = w := by
  unfold sentV
  obtain ⟨ca, ta, ha⟩ := ha
  obtain ⟨cb, tb, hb⟩ := hb
  obtain ⟨i, hi, hcmp⟩ := Option.map_eq_some_iff.1 e_comp
  obtain ⟨j, hj, hjs⟩ := Option.map_eq_some_iff.1 e_size
  have hTypeOf := @run_callFunc_extern Tryz.prog 83 _ ReflectliteType.typeOf Tryz.func83 (by kernel_rfl) (by kernel_rfl) (by kernel_rfl) (by kernel_rfl)
  have hComp := @run_callFunc_extern Tryz.prog 213 _ compExt Tryz.func213 (by kernel_rfl) (by kernel_rfl) (by kernel_rfl) (by kernel_rfl)
  have tT := e_typeOfS
  have cT := e_compS
  have mR := e_methodComparable
  have nE := e_noIsS
  have uE := e_noUnwrapS
  have vE := e_noUnwrapsS
  have heq := run_eql_iface_ptr_other (P := Tryz.prog) w Tryz.underlying34 Tryz.underlying274 hi hcmp hj (by rw [hjs]; decide) hne ha hb
  go_enter Tryz.func53, Tryz.ntmps53
  go_wp2
  refine wp_loop_rounds 1 ?_
  rw [rounds_succ]
  go_wp2
  go_ret
  exact ⟨rfl, rfl⟩

/-- errors.Is(f, x), f an api.Fault that holds x itself. -/
theorem is_fault_same (pb : Nat) (b : Addr) (w : World) (h1 : w.cell? ⟨pb, 1, none⟩ = some (sentV b)) :
    Calls Tryz.prog 53 #[faultV ⟨pb, 0, none⟩, sentV b] w fun e w' => e = .returned (.bool true) ∧ w' = w := by
  unfold sentV at *
  unfold faultV
  obtain ⟨i, hi, hcmp⟩ := Option.map_eq_some_iff.1 e_comp
  obtain ⟨j, hj, hjs⟩ := Option.map_eq_some_iff.1 e_size
  have hTypeOf := @run_callFunc_extern Tryz.prog 83 _ ReflectliteType.typeOf Tryz.func83 (by kernel_rfl) (by kernel_rfl) (by kernel_rfl) (by kernel_rfl)
  have hComp := @run_callFunc_extern Tryz.prog 213 _ compExt Tryz.func213 (by kernel_rfl) (by kernel_rfl) (by kernel_rfl) (by kernel_rfl)
  have tT := e_typeOfS
  have cT := e_compS
  have mR := e_methodComparable
  have nW := e_noIsF
  have uW := e_hasUnwrapF
  have mU := e_methodUnwrap
  have heq := run_eql_iface_ptr_same (P := Tryz.prog) w b Tryz.underlying34 Tryz.underlying274 hi hcmp hj
  have hty := run_eql_iface_types (P := Tryz.prog) 87 274 (.pointer (some ⟨pb, 0, none⟩)) (.pointer (some b)) Tryz.underlying34 (by decide) w
  go_enter Tryz.func53, Tryz.ntmps53
  go_wp2
  refine wp_loop_rounds 2 ?_
  rw [rounds_succ]
  go_wp2
  rw [rounds_succ]
  go_wp2
  go_ret
  exact ⟨rfl, rfl⟩

/-- errors.Is(f, x), f an api.Fault that holds another sentinel. -/
theorem is_fault_other (pb : Nat) (b a : Addr) (w : World) (h1 : w.cell? ⟨pb, 1, none⟩ = some (sentV a)) (hne : a ≠ b) (ha : ∃ c t, w.heap[a.block]? = some (.cells c t (0, 0))) (hb : ∃ c t, w.heap[b.block]? = some (.cells c t (0, 0))) :
    Calls Tryz.prog 53 #[faultV ⟨pb, 0, none⟩, sentV b] w fun e w' => e = .returned (.bool false) ∧ w' = w := by
  unfold sentV at *
  unfold faultV
  obtain ⟨ca, ta, ha⟩ := ha
  obtain ⟨cb, tb, hb⟩ := hb
  obtain ⟨i, hi, hcmp⟩ := Option.map_eq_some_iff.1 e_comp
  obtain ⟨j, hj, hjs⟩ := Option.map_eq_some_iff.1 e_size
  have hTypeOf := @run_callFunc_extern Tryz.prog 83 _ ReflectliteType.typeOf Tryz.func83 (by kernel_rfl) (by kernel_rfl) (by kernel_rfl) (by kernel_rfl)
  have hComp := @run_callFunc_extern Tryz.prog 213 _ compExt Tryz.func213 (by kernel_rfl) (by kernel_rfl) (by kernel_rfl) (by kernel_rfl)
  have tT := e_typeOfS
  have cT := e_compS
  have mR := e_methodComparable
  have nE := e_noIsS
  have uE := e_noUnwrapS
  have vE := e_noUnwrapsS
  have nW := e_noIsF
  have uW := e_hasUnwrapF
  have mU := e_methodUnwrap
  have heq := run_eql_iface_ptr_other (P := Tryz.prog) w Tryz.underlying34 Tryz.underlying274 hi hcmp hj (by rw [hjs]; decide) hne ha hb
  have hty := run_eql_iface_types (P := Tryz.prog) 87 274 (.pointer (some ⟨pb, 0, none⟩)) (.pointer (some b)) Tryz.underlying34 (by decide) w
  go_enter Tryz.func53, Tryz.ntmps53
  go_wp2
  refine wp_loop_rounds 2 ?_
  rw [rounds_succ]
  go_wp2
  rw [rounds_succ]
  go_wp2
  go_ret
  exact ⟨rfl, rfl⟩

/-! ### errors.As at '**api.Fault' -/
set_option maxHeartbeats 4000000 in
/-- A fault: it is handed over; four new blocks. -/
theorem as_fault (e t : Addr) (old : Value) (w : World) (hg : w.cell? ⟨11, 0, none⟩ = some (.iface 175 (.agg #[.pointer (some ⟨18, 34, none⟩)]))) (ht0 : w.cell? t = some old) (hf0 : w.frozen? t = false) :
    Calls Tryz.prog 52 #[faultV e, .iface 104 (.pointer (some t))] w fun ev w' => ev = .returned (.bool true) ∧ w' = ((((w.alloc (.cells #[.pointer (some t)] 104)).alloc (.cells #[.pointer (some ⟨18, 104, none⟩), .pointer (some ⟨w.heap.size, 0, none⟩), .int .u64 150] 140)).alloc (.cells #[.pointer (some ⟨18, 104, none⟩), .pointer (some ⟨w.heap.size, 0, none⟩), .int .u64 150] 140)).alloc (.cells #[.pointer (some e)] 87)).setCell t (.pointer (some e)) := by
  unfold faultV
  have h6 := @run_callFunc_extern Tryz.prog 79 _ (fun args => ReflectliteValue.unpack (args.getD 0 (.tuple #[]))) Tryz.func79 (by kernel_rfl) (by kernel_rfl) (by kernel_rfl) (by kernel_rfl)
  have h7 := @run_callFunc_extern Tryz.prog 80 _ (ReflectliteValue.methodAny (ReflectliteValue.valueError "reflectlite.Value.Type" 0) (fun t _ _ _ => ReflectliteType.toType t)) Tryz.func80 (by kernel_rfl) (by kernel_rfl) (by kernel_rfl) (by kernel_rfl)
  have h8 := @run_callFunc_extern Tryz.prog 81 _ (ReflectliteValue.method (ReflectliteValue.valueError "reflectlite.Value.IsNil" 0) ReflectliteValue.isNil) Tryz.func81 (by kernel_rfl) (by kernel_rfl) (by kernel_rfl) (by kernel_rfl)
  have h27 := @run_callFunc_extern Tryz.prog 202 _ (ReflectliteType.abiMethod fun t => do pure (.int .u8 (← Rtype.kind t))) Tryz.func202 (by kernel_rfl) (by kernel_rfl) (by kernel_rfl) (by kernel_rfl)
  have h37 := @run_callFunc_extern Tryz.prog 214 _ (ReflectliteType.method ReflectliteType.elem) Tryz.func214 (by kernel_rfl) (by kernel_rfl) (by kernel_rfl) (by kernel_rfl)
  have h38 := @run_callFunc_extern Tryz.prog 215 _ (ReflectliteType.relation "Implements" ReflectliteType.implements_) Tryz.func215 (by kernel_rfl) (by kernel_rfl) (by kernel_rfl) (by kernel_rfl)
  have h10 := @run_callFunc_extern Tryz.prog 83 _ ReflectliteType.typeOf Tryz.func83 (by kernel_rfl) (by kernel_rfl) (by kernel_rfl) (by kernel_rfl)
  have h35 := @run_callFunc_extern Tryz.prog 212 _ (ReflectliteType.relation "AssignableTo" ReflectliteType.assignableTo) Tryz.func212 (by kernel_rfl) (by kernel_rfl) (by kernel_rfl) (by kernel_rfl)
  have h11 := @run_callFunc_extern Tryz.prog 111 _ (ReflectliteValue.method (ReflectliteValue.valueError "reflectlite.Value.Elem" 0) ReflectliteValue.elem) Tryz.func111 (by kernel_rfl) (by kernel_rfl) (by kernel_rfl) (by kernel_rfl)
  have h12 := @run_callFunc_extern Tryz.prog 112 _ ReflectliteValue.set Tryz.func112 (by kernel_rfl) (by kernel_rfl) (by kernel_rfl) (by kernel_rfl)
  have tO := e_typeOfP
  have mA := e_methodAssignableTo
  have a25 := e_assignableP
  have v25 := e_valueOfP
  have f6 := e_valueOfPP
  have f7 := e_typePP
  have mK := e_methodKind
  have mE := e_methodElem
  have mI := e_methodImplements
  have k27 := e_kindPP
  have k25 := e_kindP
  have e27 := e_elemPP
  have i25 := e_implementsP
  have n8 := e_isNilPP ⟨w.heap.size, 0, none⟩ t ((w.alloc (.cells #[.pointer (some t)] 104)).alloc (.cells #[.pointer (some ⟨18, 104, none⟩), .pointer (some ⟨w.heap.size, 0, none⟩), .int .u64 150] 140)) (by simp)
  have hlt : 11 < w.heap.size := by
    rcases Nat.lt_or_ge 11 w.heap.size with h | h
    · exact h
    · simp [World.cell?, Array.getElem?_eq_none h] at hg
  have hg2 : ((w.alloc (.cells #[.pointer (some t)] 104)).alloc (.cells #[.pointer (some ⟨18, 104, none⟩), .pointer (some ⟨w.heap.size, 0, none⟩), .int .u64 150] 140)).cell? ⟨11, 0, none⟩ = some (.iface 175 (.agg #[.pointer (some ⟨18, 34, none⟩)])) := by
    rw [World.cell?_alloc_lt _ _ ⟨11, 0, none⟩ (by simp; omega), World.cell?_alloc_lt _ _ ⟨11, 0, none⟩ hlt]; exact hg
  have htl : t.block < w.heap.size := by
    rcases Nat.lt_or_ge t.block w.heap.size with h | h
    · exact h
    · simp [World.cell?, Array.getElem?_eq_none h] at ht0
  have el := e_elemVPP ⟨w.heap.size, 0, none⟩ t (((w.alloc (.cells #[.pointer (some t)] 104)).alloc (.cells #[.pointer (some ⟨18, 104, none⟩), .pointer (some ⟨w.heap.size, 0, none⟩), .int .u64 150] 140)).alloc (.cells #[.pointer (some ⟨18, 104, none⟩), .pointer (some ⟨w.heap.size, 0, none⟩), .int .u64 150] 140)) (by rw [World.cell?_alloc_lt _ _ ⟨w.heap.size, 0, none⟩ (by simp; omega)]; simp)
  have st := e_setP t ⟨w.heap.size + 1 + 1 + 1, 0, none⟩ e old ((((w.alloc (.cells #[.pointer (some t)] 104)).alloc (.cells #[.pointer (some ⟨18, 104, none⟩), .pointer (some ⟨w.heap.size, 0, none⟩), .int .u64 150] 140)).alloc (.cells #[.pointer (some ⟨18, 104, none⟩), .pointer (some ⟨w.heap.size, 0, none⟩), .int .u64 150] 140)).alloc (.cells #[.pointer (some e)] 87))
    (by rw [World.cell?_alloc_at _ _ _ _ (by simp)]; rfl)
    (by rw [World.cell?_alloc_lt _ _ t (by simp; omega), World.cell?_alloc_lt _ _ t (by simp; omega), World.cell?_alloc_lt _ _ t (by simp; omega), World.cell?_alloc_lt _ _ t htl]; exact ht0)
    (by rw [World.frozen?_alloc_old _ _ t (by simp; omega), World.frozen?_alloc_old _ _ t (by simp; omega), World.frozen?_alloc_old _ _ t (by simp; omega), World.frozen?_alloc_old _ _ t (Nat.ne_of_lt htl)]; exact hf0)
  go_enter Tryz.func52, Tryz.ntmps52
  go_wp2
  refine wp_loop_rounds 1 ?_
  rw [rounds_succ]
  go_wp2
  go_ret
  exact ⟨rfl, rfl⟩

set_option maxHeartbeats 4000000 in
/-- A sentinel: it is none. -/
theorem as_sent (e t : Addr) (old : Value) (w : World) (hg : w.cell? ⟨11, 0, none⟩ = some (.iface 175 (.agg #[.pointer (some ⟨18, 34, none⟩)]))) (ht0 : w.cell? t = some old) :
    Calls Tryz.prog 52 #[sentV e, .iface 104 (.pointer (some t))] w fun ev w' => ev = .returned (.bool false) ∧ Below w.heap.size w w' := by
  unfold sentV
  have h6 := @run_callFunc_extern Tryz.prog 79 _ (fun args => ReflectliteValue.unpack (args.getD 0 (.tuple #[]))) Tryz.func79 (by kernel_rfl) (by kernel_rfl) (by kernel_rfl) (by kernel_rfl)
  have h7 := @run_callFunc_extern Tryz.prog 80 _ (ReflectliteValue.methodAny (ReflectliteValue.valueError "reflectlite.Value.Type" 0) (fun t _ _ _ => ReflectliteType.toType t)) Tryz.func80 (by kernel_rfl) (by kernel_rfl) (by kernel_rfl) (by kernel_rfl)
  have h8 := @run_callFunc_extern Tryz.prog 81 _ (ReflectliteValue.method (ReflectliteValue.valueError "reflectlite.Value.IsNil" 0) ReflectliteValue.isNil) Tryz.func81 (by kernel_rfl) (by kernel_rfl) (by kernel_rfl) (by kernel_rfl)
  have h27 := @run_callFunc_extern Tryz.prog 202 _ (ReflectliteType.abiMethod fun t => do pure (.int .u8 (← Rtype.kind t))) Tryz.func202 (by kernel_rfl) (by kernel_rfl) (by kernel_rfl) (by kernel_rfl)
  have h37 := @run_callFunc_extern Tryz.prog 214 _ (ReflectliteType.method ReflectliteType.elem) Tryz.func214 (by kernel_rfl) (by kernel_rfl) (by kernel_rfl) (by kernel_rfl)
  have h38 := @run_callFunc_extern Tryz.prog 215 _ (ReflectliteType.relation "Implements" ReflectliteType.implements_) Tryz.func215 (by kernel_rfl) (by kernel_rfl) (by kernel_rfl) (by kernel_rfl)
  have h10 := @run_callFunc_extern Tryz.prog 83 _ ReflectliteType.typeOf Tryz.func83 (by kernel_rfl) (by kernel_rfl) (by kernel_rfl) (by kernel_rfl)
  have h35 := @run_callFunc_extern Tryz.prog 212 _ (ReflectliteType.relation "AssignableTo" ReflectliteType.assignableTo) Tryz.func212 (by kernel_rfl) (by kernel_rfl) (by kernel_rfl) (by kernel_rfl)
  have tO := e_typeOfS
  have mA := e_methodAssignableTo
  have a25 := e_assignableS
  have f6 := e_valueOfPP
  have f7 := e_typePP
  have mK := e_methodKind
  have mE := e_methodElem
  have mI := e_methodImplements
  have k27 := e_kindPP
  have k25 := e_kindP
  have e27 := e_elemPP
  have i25 := e_implementsP
  have nA := e_noAsS
  have nU := e_noUnwrapS
  have nV := e_noUnwrapsS
  have n8 := e_isNilPP ⟨w.heap.size, 0, none⟩ t ((w.alloc (.cells #[.pointer (some t)] 104)).alloc (.cells #[.pointer (some ⟨18, 104, none⟩), .pointer (some ⟨w.heap.size, 0, none⟩), .int .u64 150] 140)) (by simp)
  have hlt : 11 < w.heap.size := by
    rcases Nat.lt_or_ge 11 w.heap.size with h | h
    · exact h
    · simp [World.cell?, Array.getElem?_eq_none h] at hg
  have hg2 : ((w.alloc (.cells #[.pointer (some t)] 104)).alloc (.cells #[.pointer (some ⟨18, 104, none⟩), .pointer (some ⟨w.heap.size, 0, none⟩), .int .u64 150] 140)).cell? ⟨11, 0, none⟩ = some (.iface 175 (.agg #[.pointer (some ⟨18, 34, none⟩)])) := by
    rw [World.cell?_alloc_lt _ _ ⟨11, 0, none⟩ (by simp; omega), World.cell?_alloc_lt _ _ ⟨11, 0, none⟩ hlt]; exact hg
  go_enter Tryz.func52, Tryz.ntmps52
  go_wp2
  refine wp_loop_rounds 1 ?_
  rw [rounds_succ]
  go_wp2
  go_ret
  exact ⟨rfl, by go_grown⟩
end Go.Proofs.YtpbgonpmpjpljaaGreatDoor

namespace Go.Proofs.YtpbgonpmpjpljaaGreatDoor
open Go.RowKit
set_option linter.unusedVariables false

def gErr (k : Nat) : Nat := [2, 1, 0, 3, 4, 5, 6, 7, 8, 9, 10].getD k 0
/-- The eleven sentinels and errors' own type, as the program's text lays them: all below block B. -/
structure Sents (es : Nat → Addr) (B : Nat) (w : World) : Prop where
  var : ∀ k, k < 11 → w.cell? ⟨gErr k, 0, none⟩ = some (sentV (es k))
  blk : ∀ k, k < 11 → ∃ c t, w.heap[(es k).block]? = some (.cells c t (0, 0))
  lt : ∀ k, k < 11 → (es k).block < B
  glt : ∀ k, k < 11 → gErr k < B
  inj : ∀ j k, j < 11 → k < 11 → es j = es k → j = k
  ety : w.cell? ⟨11, 0, none⟩ = some (.iface 175 (.agg #[.pointer (some ⟨18, 34, none⟩)]))
  elt : 11 < B
section
variable {es : Nat → Addr} {B : Nat} {w w' : World}
theorem Sents.below {C : Nat} (h : Sents es B w) (hb : Below C w w') (hC : B ≤ C) : Sents es B w' :=
  ⟨fun k hk => (hb.cell (p := ⟨gErr k, 0, none⟩) (Nat.lt_of_lt_of_le (h.glt k hk) hC)).trans (h.var k hk), fun k hk => by
    obtain ⟨c, t, e⟩ := h.blk k hk
    exact ⟨c, t, (hb.block _ (Nat.lt_of_lt_of_le (h.lt k hk) hC)).trans e⟩, h.lt, h.glt, h.inj, (hb.cell (p := ⟨11, 0, none⟩) (Nat.lt_of_lt_of_le h.elt hC)).trans h.ety, h.elt⟩
theorem Sents.alloc (h : Sents es B w) (hB : B ≤ w.heap.size) (o : Obj) : Sents es B (w.alloc o) := h.below (Below.alloc (Below.refl w.heap.size w) (Nat.le_refl _) o) hB
end

/-- The variables of the sentinels that chunks' own code names. -/
structure SV (es : Nat → Addr) (B : Nat) (w : World) : Prop where
  var : ∀ k, k ∈ [0, 1, 2, 4, 6, 7, 8] → w.cell? ⟨gErr k, 0, none⟩ = some (sentV (es k))
  glt : ∀ k, k ∈ [0, 1, 2, 4, 6, 7, 8] → gErr k < B
section
variable {es : Nat → Addr} {B : Nat} {w w' : World}
theorem SV.below {C : Nat} (h : SV es B w) (hb : Below C w w') (hC : B ≤ C) : SV es B w' :=
  ⟨fun k hk => (hb.cell (p := ⟨gErr k, 0, none⟩) (Nat.lt_of_lt_of_le (h.glt k hk) hC)).trans (h.var k hk), h.glt⟩
theorem SV.alloc (h : SV es B w) (hB : B ≤ w.heap.size) (o : Obj) : SV es B (w.alloc o) := h.below (Below.alloc (Below.refl w.heap.size w) (Nat.le_refl _) o) hB
theorem sv_lt {k : Nat} (hk : k ∈ [0, 1, 2, 4, 6, 7, 8]) : k < 11 := by simp at hk; omega
theorem Sents.v (h : Sents es B w) : SV es B w := ⟨fun k hk => h.var k (sv_lt hk), fun k hk => h.glt k (sv_lt hk)⟩
end

theorem sent_table {es : Nat → Addr} {k : Nat} (hk : k < 11) :
    (#[sentV (es 0), sentV (es 1), sentV (es 2), sentV (es 3), sentV (es 4), sentV (es 5), sentV (es 6), sentV (es 7), sentV (es 8), sentV (es 9), sentV (es 10)] : Array Value)[k]? = some (sentV (es k)) := by
  match k, hk with
  | 0, _ => rfl
  | 1, _ => rfl
  | 2, _ => rfl
  | 3, _ => rfl
  | 4, _ => rfl
  | 5, _ => rfl
  | 6, _ => rfl
  | 7, _ => rfl
  | 8, _ => rfl
  | 9, _ => rfl
  | 10, _ => rfl

theorem code_nil (w : World) : Calls Tryz.prog 30 #[.nilIface] w fun e w' => e = .returned (.tuple #[.int .i64 0, .int .i64 (-1)]) ∧ w' = w := by
  go_enter Tryz.func30, Tryz.ntmps30
  go_wp2
  go_ret2
  exact ⟨rfl, rfl⟩

/-- The number of an error of errors.New's make that is the K-th sentinel (11: none of them). -/
def numOf (K : Nat) : Int := if K < 11 then (K : Int) + 1 else -1

theorem as_fault' (e : Addr) (w0 : World) (hg : w0.cell? ⟨11, 0, none⟩ = some (.iface 175 (.agg #[.pointer (some ⟨18, 34, none⟩)]))) (hgl : 11 < w0.heap.size) :
    Calls Tryz.prog 52 #[faultV e, .iface 104 (.pointer (some ⟨w0.heap.size, 0, none⟩))] (w0.alloc (.cells #[.pointer none] 87)) fun ev w' => ev = .returned (.bool true) ∧ w'.cell? ⟨w0.heap.size, 0, none⟩ = some (.pointer (some e)) ∧ Below w0.heap.size w0 w' := by
  refine (as_fault e ⟨w0.heap.size, 0, none⟩ (.pointer none) _ (by rw [World.cell?_alloc_lt _ _ ⟨11, 0, none⟩ hgl]; exact hg) (by simp) (by simp)).mono ?_
  rintro ev w' ⟨rfl, rfl⟩
  refine ⟨rfl, ?_, ?_⟩
  · have hc : ∀ (W : World) (u v : Value), W.cell? ⟨w0.heap.size, 0, none⟩ = some u → (W.setCell ⟨w0.heap.size, 0, none⟩ v).cell? ⟨w0.heap.size, 0, none⟩ = some v := by
      intro W u v h
      exact World.cell?_setCell_same W _ _ h
    refine hc _ (.pointer none) _ ?_
    rw [World.cell?_alloc_lt _ _ ⟨w0.heap.size, 0, none⟩ (by simp; omega), World.cell?_alloc_lt _ _ ⟨w0.heap.size, 0, none⟩ (by simp; omega), World.cell?_alloc_lt _ _ ⟨w0.heap.size, 0, none⟩ (by simp; omega), World.cell?_alloc_lt _ _ ⟨w0.heap.size, 0, none⟩ (by simp)]
    simp
  · go_grown

set_option maxHeartbeats 4000000 in
/-- An error of errors.New's make. -/
theorem code_string {es : Nat → Addr} {B : Nat} (a : Addr) (K : Nat) (w : World) (hS : Sents es B w) (hB : B ≤ w.heap.size) (hK : K ≤ 11) (ha : ∃ c t, w.heap[a.block]? = some (.cells c t (0, 0)))
    (hne : ∀ j, j < K → j < 11 → a ≠ es j) (heq : K < 11 → a = es K) :
    Calls Tryz.prog 30 #[sentV a] w fun e w' => e = .returned (.tuple #[.int .i64 (numOf K), .int .i64 (-1)]) ∧ Below w.heap.size w w' := by
  have HS := Lib.hid hS; have Hne := Lib.hid hne; have Heq := Lib.hid heq; have Ha := Lib.hid ha
  clear hS hne heq ha
  go_enter Tryz.func30, Tryz.ntmps30
  go_wp2_with fail
  refine (as_sent a ⟨w.heap.size, 0, none⟩ (.pointer none) _ (HS.out.alloc hB _).ety (by simp)).mono ?_
  rintro e w1 ⟨rfl, hb1⟩
  have hb1' : Below w.heap.size w w1 := Below.call (Below.alloc (Below.refl _ _) (Nat.le_refl _) _) hb1 (by simp)
  have hs1 := HS.out.below hb1' hB
  have hz1 : w.heap.size ≤ w1.heap.size := hb1'.size
  have g0 : w1.cell? ⟨2, 0, none⟩ = some (sentV (es 0)) := hs1.var 0 (by decide)
  have g1 : w1.cell? ⟨1, 0, none⟩ = some (sentV (es 1)) := hs1.var 1 (by decide)
  have g2 : w1.cell? ⟨0, 0, none⟩ = some (sentV (es 2)) := hs1.var 2 (by decide)
  have g3 : w1.cell? ⟨3, 0, none⟩ = some (sentV (es 3)) := hs1.var 3 (by decide)
  have g4 : w1.cell? ⟨4, 0, none⟩ = some (sentV (es 4)) := hs1.var 4 (by decide)
  have g5 : w1.cell? ⟨5, 0, none⟩ = some (sentV (es 5)) := hs1.var 5 (by decide)
  have g6 : w1.cell? ⟨6, 0, none⟩ = some (sentV (es 6)) := hs1.var 6 (by decide)
  have g7 : w1.cell? ⟨7, 0, none⟩ = some (sentV (es 7)) := hs1.var 7 (by decide)
  have g8 : w1.cell? ⟨8, 0, none⟩ = some (sentV (es 8)) := hs1.var 8 (by decide)
  have g9 : w1.cell? ⟨9, 0, none⟩ = some (sentV (es 9)) := hs1.var 9 (by decide)
  have g10 : w1.cell? ⟨10, 0, none⟩ = some (sentV (es 10)) := hs1.var 10 (by decide)
  have Hb1 := Lib.hid hb1'; have Hs1 := Lib.hid hs1
  clear hb1 hb1' hs1
  go_wp2
  go_loopw [3, 29] (fun at_ i wr => ∃ k : Nat, k ≤ K ∧ at_ = .int .i64 (-1) ∧ i = .int .i64 k ∧ (∀ j, j < 11 → wr.cell? ⟨w1.heap.size, j, none⟩ = some (sentV (es j))) ∧ Sents es B wr ∧ (∃ c t, wr.heap[a.block]? = some (.cells c t (0, 0))) ∧ Below w.heap.size w wr) (fun _ i _ => 11 - (intOf i).toNat)
  case atStart =>
    refine ⟨0, Nat.zero_le _, rfl, rfl, fun j hj => ?_, Hs1.out.alloc (Nat.le_trans hB hz1) _, ?_, Below.alloc Hb1.out hz1 _⟩
    · rw [(Blk.new w1 _ _).cell]; exact sent_table hj
    · obtain ⟨c, t, h⟩ := Ha.out
      have hl : a.block < w.heap.size := (Array.getElem?_eq_some_iff.1 h).1
      exact ⟨c, t, ((Below.alloc Hb1.out hz1 _).block _ hl).trans h⟩
  case round =>
    obtain ⟨k, hk, rfl, rfl, htab, hsr, har, hbel⟩ := hrel
    have Hsr := Lib.hid hsr; have Har := Lib.hid har; have Hbel := Lib.hid hbel; have Htab := Lib.hid htab
    clear hsr har hbel htab
    by_cases hk11 : k < 11
    · have e0 := Htab.out k hk11
      by_cases hkK : k < K
      · go_wp2_with fail
        refine (is_other a (es k) _ (Hne.out k hkK hk11) Har.out (Hsr.out.blk k hk11)).mono ?_
        rintro e w' ⟨rfl, rfl⟩
        go_wp2
        go_roundw
        case rel => exact ⟨k + 1, by omega, rfl, by go_num, Htab.out, Hsr.out, Har.out, Hbel.out⟩
        case measure => simp [intOf]; omega
      · have hkk : k = K := by omega
        have hak : a = es k := by rw [hkk]; exact Heq.out (by omega)
        have hnum : numOf K = (k : Int) + 1 := by unfold numOf; rw [if_pos (by omega), hkk]
        clear hkk
        subst hak
        go_wp2_with fail
        refine (is_same (es k) _).mono ?_
        rintro e w' ⟨rfl, rfl⟩
        have Hnum := Lib.hid hnum
        clear hnum
        go_wp2
        go_ret2
        exact ⟨by rw [Hnum.out]; rfl, Hbel.out⟩
    · have hnum : numOf K = -1 := by unfold numOf; rw [if_neg (by omega)]
      have hk2 : k = 11 := by omega
      subst hk2
      have Hnum := Lib.hid hnum
      clear hnum
      go_wp2
      go_ret2
      exact ⟨by rw [Hnum.out]; rfl, Hbel.out⟩

set_option maxHeartbeats 4000000 in
/-- A fault that holds an error of errors.New's make. -/
theorem code_fault {es : Nat → Addr} {B : Nat} (pb : Nat) (t : Int) (a : Addr) (K : Nat) (w : World) (hS : Sents es B w) (hB : B ≤ w.heap.size) (hK : K ≤ 11) (ha : ∃ c t, w.heap[a.block]? = some (.cells c t (0, 0)))
    (hp : pb < w.heap.size) (hp0 : w.cell? ⟨pb, 0, none⟩ = some (.int .i64 t)) (hp1 : w.cell? ⟨pb, 1, none⟩ = some (sentV a)) (hne : ∀ j, j < K → j < 11 → a ≠ es j) (heq : K < 11 → a = es K) :
    Calls Tryz.prog 30 #[faultV ⟨pb, 0, none⟩] w fun e w' => e = .returned (.tuple #[.int .i64 (numOf K), .int .i64 t]) ∧ Below w.heap.size w w' := by
  have HS := Lib.hid hS; have Hne := Lib.hid hne; have Heq := Lib.hid heq; have Ha := Lib.hid ha; have Hp0 := Lib.hid hp0; have Hp1 := Lib.hid hp1
  clear hS hne heq ha hp0 hp1
  go_enter Tryz.func30, Tryz.ntmps30
  go_wp2_with fail
  refine (as_fault' ⟨pb, 0, none⟩ w HS.out.ety (Nat.lt_of_lt_of_le HS.out.elt hB)).mono ?_
  rintro e w1 ⟨rfl, hf1, hb1'⟩
  have hs1 := HS.out.below hb1' hB
  have hz1 : w.heap.size ≤ w1.heap.size := hb1'.size
  have q0 : w1.cell? ⟨pb, 0, none⟩ = some (.int .i64 t) := (hb1'.cell (p := ⟨pb, 0, none⟩) hp).trans Hp0.out
  have g0 : w1.cell? ⟨2, 0, none⟩ = some (sentV (es 0)) := hs1.var 0 (by decide)
  have g1 : w1.cell? ⟨1, 0, none⟩ = some (sentV (es 1)) := hs1.var 1 (by decide)
  have g2 : w1.cell? ⟨0, 0, none⟩ = some (sentV (es 2)) := hs1.var 2 (by decide)
  have g3 : w1.cell? ⟨3, 0, none⟩ = some (sentV (es 3)) := hs1.var 3 (by decide)
  have g4 : w1.cell? ⟨4, 0, none⟩ = some (sentV (es 4)) := hs1.var 4 (by decide)
  have g5 : w1.cell? ⟨5, 0, none⟩ = some (sentV (es 5)) := hs1.var 5 (by decide)
  have g6 : w1.cell? ⟨6, 0, none⟩ = some (sentV (es 6)) := hs1.var 6 (by decide)
  have g7 : w1.cell? ⟨7, 0, none⟩ = some (sentV (es 7)) := hs1.var 7 (by decide)
  have g8 : w1.cell? ⟨8, 0, none⟩ = some (sentV (es 8)) := hs1.var 8 (by decide)
  have g9 : w1.cell? ⟨9, 0, none⟩ = some (sentV (es 9)) := hs1.var 9 (by decide)
  have g10 : w1.cell? ⟨10, 0, none⟩ = some (sentV (es 10)) := hs1.var 10 (by decide)
  have Hb1 := Lib.hid hb1'; have Hs1 := Lib.hid hs1
  clear hb1' hs1
  go_wp2
  go_loopw [3, 29] (fun at_ i wr => ∃ k : Nat, k ≤ K ∧ at_ = .int .i64 t ∧ i = .int .i64 k ∧ (∀ j, j < 11 → wr.cell? ⟨w1.heap.size, j, none⟩ = some (sentV (es j))) ∧ Sents es B wr ∧ (∃ c t, wr.heap[a.block]? = some (.cells c t (0, 0))) ∧ Below w.heap.size w wr) (fun _ i _ => 11 - (intOf i).toNat)
  case atStart =>
    refine ⟨0, Nat.zero_le _, rfl, rfl, fun j hj => ?_, Hs1.out.alloc (Nat.le_trans hB hz1) _, ?_, Below.alloc Hb1.out hz1 _⟩
    · rw [(Blk.new w1 _ _).cell]; exact sent_table hj
    · obtain ⟨c, t, h⟩ := Ha.out
      have hl : a.block < w.heap.size := (Array.getElem?_eq_some_iff.1 h).1
      exact ⟨c, t, ((Below.alloc Hb1.out hz1 _).block _ hl).trans h⟩
  case round =>
    obtain ⟨k, hk, rfl, rfl, htab, hsr, har, hbel⟩ := hrel
    have r1 : wr.cell? ⟨pb, 1, none⟩ = some (sentV a) := (hbel.cell (p := ⟨pb, 1, none⟩) hp).trans Hp1.out
    have Hsr := Lib.hid hsr; have Har := Lib.hid har; have Hbel := Lib.hid hbel; have Htab := Lib.hid htab; have R1 := Lib.hid r1
    clear hsr har hbel htab r1
    by_cases hk11 : k < 11
    · have e0 := Htab.out k hk11
      by_cases hkK : k < K
      · go_wp2_with fail
        refine (is_fault_other pb (es k) a _ R1.out (Hne.out k hkK hk11) Har.out (Hsr.out.blk k hk11)).mono ?_
        rintro e w' ⟨rfl, rfl⟩
        go_wp2
        go_roundw
        case rel => exact ⟨k + 1, by omega, rfl, by go_num, Htab.out, Hsr.out, Har.out, Hbel.out⟩
        case measure => simp [intOf]; omega
      · have hkk : k = K := by omega
        have hak : a = es k := by rw [hkk]; exact Heq.out (by omega)
        have hnum : numOf K = (k : Int) + 1 := by unfold numOf; rw [if_pos (by omega), hkk]
        clear hkk
        subst hak
        go_wp2_with fail
        refine (is_fault_same pb (es k) _ R1.out).mono ?_
        rintro e w' ⟨rfl, rfl⟩
        have Hnum := Lib.hid hnum
        clear hnum
        go_wp2
        go_ret2
        exact ⟨by rw [Hnum.out]; rfl, Hbel.out⟩
    · have hnum : numOf K = -1 := by unfold numOf; rw [if_neg (by omega)]
      have hk2 : k = 11 := by omega
      subst hk2
      have Hnum := Lib.hid hnum
      clear hnum
      go_wp2
      go_ret2
      exact ⟨by rw [Hnum.out]; rfl, Hbel.out⟩

/-- The error v has the number n, and the place t (-1: none). -/
def ErrIs (es : Nat → Addr) (w : World) (v : Value) (n t : Int) : Prop :=
  (v = .nilIface ∧ n = 0 ∧ t = -1) ∨
  (∃ a K, v = sentV a ∧ n = numOf K ∧ t = -1 ∧ K ≤ 11 ∧ (∃ c t, w.heap[a.block]? = some (.cells c t (0, 0))) ∧ (∀ j, j < K → j < 11 → a ≠ es j) ∧ (K < 11 → a = es K)) ∨
  (∃ pb a K, v = faultV ⟨pb, 0, none⟩ ∧ n = numOf K ∧ K ≤ 11 ∧ (∃ c t, w.heap[a.block]? = some (.cells c t (0, 0))) ∧ pb < w.heap.size ∧ w.cell? ⟨pb, 0, none⟩ = some (.int .i64 t) ∧ w.cell? ⟨pb, 1, none⟩ = some (sentV a) ∧ (∀ j, j < K → j < 11 → a ≠ es j) ∧ (K < 11 → a = es K))
section
variable {es : Nat → Addr} {B : Nat} {w w' : World} {v : Value} {n t : Int}
theorem ErrIs.nil : ErrIs es w .nilIface 0 (-1) := .inl ⟨rfl, rfl, rfl⟩
theorem ErrIs.sent (hS : Sents es B w) {k : Nat} (hk : k < 11) : ErrIs es w (sentV (es k)) ((k : Int) + 1) (-1) :=
  .inr (.inl ⟨es k, k, rfl, by unfold numOf; rw [if_pos hk], rfl, by omega, hS.blk k hk, fun j hj hj' h => by have := hS.inj k j hk hj' h; omega, fun _ => rfl⟩)
theorem ErrIs.fault (hS : Sents es B w) {k : Nat} (hk : k < 11) {pb : Nat} (hp : pb < w.heap.size) (h0 : w.cell? ⟨pb, 0, none⟩ = some (.int .i64 t)) (h1 : w.cell? ⟨pb, 1, none⟩ = some (sentV (es k))) : ErrIs es w (faultV ⟨pb, 0, none⟩) ((k : Int) + 1) t :=
  .inr (.inr ⟨pb, es k, k, rfl, by unfold numOf; rw [if_pos hk], by omega, hS.blk k hk, hp, h0, h1, fun j hj hj' h => by have := hS.inj k j hk hj' h; omega, fun _ => rfl⟩)
theorem ErrIs.below {C : Nat} (h : ErrIs es w v n t) (hb : Below C w w') (hC : w.heap.size ≤ C) : ErrIs es w' v n t := by
  have blk : ∀ a : Addr, (∃ c t, w.heap[a.block]? = some (.cells c t (0, 0))) → ∃ c t, w'.heap[a.block]? = some (.cells c t (0, 0)) := by
    rintro a ⟨c, t, e⟩
    exact ⟨c, t, (hb.block _ (Nat.lt_of_lt_of_le (Array.getElem?_eq_some_iff.1 e).1 hC)).trans e⟩
  rcases h with h | ⟨a, K, h1, h2, h3, h4, h5, h6⟩ | ⟨pb, a, K, h1, h2, h3, h4, h5, h6, h7, h8⟩
  · exact .inl h
  · exact .inr (.inl ⟨a, K, h1, h2, h3, h4, blk a h5, h6⟩)
  · exact .inr (.inr ⟨pb, a, K, h1, h2, h3, blk a h4, Nat.lt_of_lt_of_le h5 hb.size, (hb.cell (p := ⟨pb, 0, none⟩) (Nat.lt_of_lt_of_le h5 hC)).trans h6, (hb.cell (p := ⟨pb, 1, none⟩) (Nat.lt_of_lt_of_le h5 hC)).trans h7, h8⟩)
end

theorem code_any {es : Nat → Addr} {B : Nat} (v : Value) (n t : Int) (w : World) (hS : Sents es B w) (hB : B ≤ w.heap.size) (hv : ErrIs es w v n t) :
    Calls Tryz.prog 30 #[v] w fun e w' => e = .returned (.tuple #[.int .i64 n, .int .i64 t]) ∧ Below w.heap.size w w' := by
  rcases hv with ⟨rfl, rfl, rfl⟩ | ⟨a, K, rfl, rfl, rfl, h4, h5, h6, h7⟩ | ⟨pb, a, K, rfl, rfl, h3, h4, h5, h6, h7, h8, h9⟩
  · refine (code_nil w).mono ?_
    rintro e w' ⟨rfl, rfl⟩
    exact ⟨rfl, Below.refl _ _⟩
  · exact code_string a K w hS hB h4 h5 h6 h7
  · exact code_fault pb t a K w hS hB h3 h4 h5 h6 h7 h8 h9

end Go.Proofs.YtpbgonpmpjpljaaGreatDoor
