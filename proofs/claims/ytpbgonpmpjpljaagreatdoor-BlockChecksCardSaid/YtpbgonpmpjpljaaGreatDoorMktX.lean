/- strconv.FormatUint(v, 16) by its contract. -/
import Derived.Test.YtpbgonpmpjpljaaGreatDoorMbitsX
import Derived.Test.YtpbgonpmpjpljaaGreatDoorNumNX
import Derived.Test.YtpbgonpmpjpljaaGreatDoorMkcX
import Derived.Test.YtpbgonpmpjpljaaGreatDoorMkdX
import Derived.Test.YtpbgonpmpjpljaaGreatDoorNLaysX
import Derived.Test.YtpbgonpmpjpljaaGreatDoorBaseX
import Derived.Test.YtpbgonpmpjpljaaGreatDoorChecked
import Derived.Lib.Strings
import Derived.Lib.Walk
import Derived.Lib.ConvBytes
import Derived.Lib.AtoiAllMem
import Derived.Laws.Strings3
import Derived.Laws.Closers25
import Derived.Laws.Closers25b
import Derived.Lib.AtoiErrMem
import Derived.Lib.ParseIntBMem
import Derived.BigCall
import Derived.BigGuard
import Derived.Test.YtpbgonpmpjpljaaGreatDoorMksX
import Derived.Test.YtpbgonpmpjpljaaGreatDoorMkfX
import Derived.Sort.Grow
import Derived.Deep.RegionHeld3
namespace Go.Proofs.YtpbgonpmpjpljaaGreatDoor
open Go.RowKit
set_option linter.unusedVariables false

end Go.Proofs.YtpbgonpmpjpljaaGreatDoor

namespace Go.Proofs.YtpbgonpmpjpljaaGreatDoor
open Go.RowKit
set_option linter.unusedVariables false

end Go.Proofs.YtpbgonpmpjpljaaGreatDoor

namespace Go.Proofs.YtpbgonpmpjpljaaGreatDoor
open Go.RowKit
set_option linter.unusedVariables false

theorem e_p10 : Tryz.prog.globalNamed "internal/strconv.uint64pow10" = some 12 := by kernel_rfl
theorem tabIs_blk {w w' : World} {n : String} {g : Nat} {k : IntKind} {zs : List Int} (hg : Tryz.prog.globalNamed n = some g) (h : Lib.TabIs Tryz.prog w n k zs) (hb : w'.heap[g]? = w.heap[g]?) : Lib.TabIs Tryz.prog w' n k zs := by
  unfold Lib.TabIs World.var? at h ⊢
  rw [hg] at h ⊢
  simp only [Option.bind_some] at h ⊢
  rw [hb]
  exact h
theorem grow_below (w : World) (k : Nat) (os : Array Obj) : Below w.heap.size w (Sort.grow (w.drewN k) os) := by
  refine ⟨rfl, rfl, rfl, ?_, fun i hi => ?_⟩
  · show w.heap.size ≤ (w.heap ++ os).size
    rw [Array.size_append]; omega
  · show (w.heap ++ os)[i]? = w.heap[i]?
    exact Array.getElem?_append_left hi
/-- A number and no error, or an error. -/
def NumR (e : Ending) (k : IntKind) (P : Int → Prop) (ok : Option Int) : Prop :=
  ∃ v ev, e = .returned (.tuple #[.int k v, ev]) ∧ P v ∧ (∀ n, ok = some n → v = n ∧ ev = .nilIface) ∧ (ok = none → ∃ t p, ev = .iface t p)
theorem NumR.err {e : Ending} {k : IntKind} {P : Int → Prop} {ok : Option Int} {v : Int} {t : TypeId} {p : Value} (he : e = .returned (.tuple #[.int k v, .iface t p])) (hP : P v) (ho : ok = none) : NumR e k P ok :=
  ⟨v, _, he, hP, fun n hn => (by rw [ho] at hn; cases hn), fun _ => ⟨t, p, rfl⟩⟩
def i64B (v : Int) : Prop := -9223372036854775808 ≤ v ∧ v ≤ 9223372036854775807
def atoiO (s : List UInt8) : Option Int := match Lib.atoiAll s with | .ok v => some v | _ => none
end Go.Proofs.YtpbgonpmpjpljaaGreatDoor
