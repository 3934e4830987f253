/- errors.As and errors.Is by contracts, at what this program hands them: a sentinel of errors.New's make, or an api.Fault that holds one. -/
import Derived.Test.YtfkklcmepcocoaaDoorBase
import Derived.Test.YtfkklcmepcocoaaDoorChecked
import Derived.WalkKit
import Derived.LaidEql
import Derived.RowKitTokens
import Derived.Stop.Asserts
namespace Go.Proofs.YtfkklcmepcocoaaDoor
open Go.RowKit Go.Extern.Stop Go.Stop Go.Extern
set_option linter.unusedVariables false

/-- A sentinel: an interface value that holds a pointer to an errors.errorString. -/
abbrev sentV (a : Addr) : Value := .iface 131 (.pointer (some a))
/-- A fault: an interface value that holds a pointer to an api.Fault. -/
abbrev faultV (a : Addr) : Value := .iface 76 (.pointer (some a))

/-! ### closed facts on the model's entries for internal/reflectlite, at this program's types -/
theorem e_kindP (w : World) : ((ReflectliteType.abiMethod fun t => (fun a : Nat => Value.int IntKind.u8 (a : Int)) <$> Rtype.kind t) #[.pointer (some ⟨15, 76, none⟩)]).run Tryd.prog w = .ok (.int .u8 22) w := by kernel_rfl
theorem rlm (z : Sem Value) (f : TypeId → Addr → Nat → Nat → Sem Value) (v : Value) :
    ReflectliteValue.method z f #[v] = (do match ← ReflectliteValue.parts v with | none => z | some (t, a, fl) => f t a fl (fl % 32)) := rfl
theorem e_valueOfP (e : Addr) (w : World) : (ReflectliteValue.unpack (.iface 76 (.pointer (some e)))).run Tryd.prog w
    = .ok (.agg #[.pointer (some ⟨15, 76, none⟩), .pointer (some ⟨w.heap.size, 0, none⟩), .int .u64 150]) (w.alloc (.cells #[.pointer (some e)] 76)) := by kernel_rfl
theorem e_mkP (p : Addr) (w : World) : (ReflectliteValue.mk 76 p ReflectliteValue.flagAddr).run Tryd.prog w = .ok (.agg #[.pointer (some ⟨15, 76, none⟩), .pointer (some p), .int .u64 406]) w := by kernel_rfl
theorem rls (v x : Value) : ReflectliteValue.set #[v, x] = (do
    let (some (dst, a, fl), some (src, b, _)) := (← ReflectliteValue.parts v, ← ReflectliteValue.parts x)
      | unsupported (.noEntry "extern/(internal/reflectlite.Value).Set.zeroValue")
    if fl / ReflectliteValue.flagAddr % 2 == 0 then unsupported (.noEntry "extern/(internal/reflectlite.Value).Set.unaddressable")
    let val ← loadVar src b
    if ← Rtype.directlyAssignable dst src then storeVar dst a val
    else if ← Rtype.implements dst src then
      if (← Rtype.kind src) == 20 then
        match val with
        | .nilIface => unsupported (.noEntry "extern/reflectlite: a nil value of one interface type handed on as a value of another")
        | _ => storeVar dst a val
      else storeVar dst a (.iface src val)
    else panicString ("reflectlite.Set: value of type " ++ (← Rtype.spelt src) ++ " is not assignable to type " ++ (← Rtype.spelt dst))
    pure (.tuple #[])) := rfl
theorem e_partsPa (a : Addr) (w : World) : (ReflectliteValue.parts (.agg #[.pointer (some ⟨15, 76, none⟩), .pointer (some a), .int .u64 406])).run Tryd.prog w = .ok (some (76, a, 406)) w := by kernel_rfl
theorem e_partsP (a : Addr) (w : World) : (ReflectliteValue.parts (.agg #[.pointer (some ⟨15, 76, none⟩), .pointer (some a), .int .u64 150])).run Tryd.prog w = .ok (some (76, a, 150)) w := by kernel_rfl
theorem e_directP (w : World) : (Rtype.directlyAssignable 76 76).run Tryd.prog w = .ok true w := by kernel_rfl
theorem e_setP (ta b e : Addr) (old : Value) (W : World) (hb : W.cell? b = some (.pointer (some e))) (ht : W.cell? ta = some old) (hf : W.frozen? ta = false) :
    (ReflectliteValue.set #[.agg #[.pointer (some ⟨15, 76, none⟩), .pointer (some ta), .int .u64 406], .agg #[.pointer (some ⟨15, 76, none⟩), .pointer (some b), .int .u64 150]]).run Tryd.prog W
      = .ok (.tuple #[]) (W.setCell ta (.pointer (some e))) := by
  rw [rls]
  simp only [Sem.run_bind, e_partsPa, e_partsP, Result.andThen]
  simp [ReflectliteValue.flagAddr, loadVar, isAgg, underlying, Tryd.underlying76, hb, Result.andThen, e_directP, storeVar, Value.cells, storeCells, Addr.add]
  rw [run_store Tryd.prog W ta _ _ (by rfl)]
  simp [ht, hf]
def compExt : Array Value → Sem Value := ReflectliteType.method fun t => do Rtype.noPackHeld "Comparable" t; pure (.bool (← typeInfo t).comparable)
theorem e_compS (w : World) : (compExt #[.agg #[.pointer (some ⟨15, 131, none⟩)]]).run Tryd.prog w = .ok (.bool true) w := by kernel_rfl
theorem e_comp : (Tryd.prog.info? 131).map (·.comparable) = some true := by kernel_rfl
theorem e_size : (Tryd.prog.info? 133).map (·.size) = some 1 := by kernel_rfl

/-! ### what the assertions in errors.as and errors.is find -/
/-! ### errors.Is -/
/-! ### errors.As at '**api.Fault' -/
end Go.Proofs.YtfkklcmepcocoaaDoor
