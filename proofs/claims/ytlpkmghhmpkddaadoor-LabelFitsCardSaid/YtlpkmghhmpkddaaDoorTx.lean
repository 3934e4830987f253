/- Texts as cells; blocks have one type each. -/
import Derived.Test.YtlpkmghhmpkddaaDoorTxt
import Derived.Test.YtlpkmghhmpkddaaDoorBetween
import Derived.Test.YtlpkmghhmpkddaaDoorLab
namespace Go.Proofs.YtlpkmghhmpkddaaDoor
open Go.RowKit
set_option linter.unusedVariables false

/-- Texts as cells. -/
def txC (l : List Bs) : List Value := l.map fun s => .string (B8 s)
theorem txC_len (l : List Bs) : (txC l).length = l.length := by unfold txC; rw [List.length_map]
theorem infoTx : (Tryd.prog.info? 9).map (fun i => (i.zero, i.size, i.bytes)) = some (some (.string ⟨#[]⟩), 1, 16) := by kernel_rfl
theorem txC_snoc (l : List Bs) (s : Bs) : txC (l ++ [s]) = txC l ++ [.string (B8 s)] := by unfold txC; rw [List.map_append]; rfl
theorem one_cell (W : World) (t : TypeId) (u : Value) : Rd (W.alloc (.cells #[u] t)) (W.alloc (.cells #[u] t)).heap.size 1 (some ⟨W.heap.size, 0, none⟩) 1 [u] := by
  refine ⟨rfl, fun _ => ⟨W.heap.size, 0, rfl, by simp, fun j v hv => ?_⟩⟩
  rw [Nat.zero_add, (Blk.new W t #[u]).cell j]
  simpa using hv

theorem own_typed {w : World} {base k : Nat} {e : TypeId} {size n : Nat} {v : Value} {xs : List Value} (h : w.ownsRow base e size v n xs) (hk : v.ownBlock = some k) : ∃ cs, Blk w k e cs := by
  rcases h.2 with ⟨rfl, _⟩ | ⟨g, cap, cur, rfl, _, hg, _⟩
  · cases hk
  · injection hk with hk
    have hk : g = k := hk
    rw [← hk]
    exact ⟨cur, hg⟩
theorem blk_type {w : World} {k : Nat} {t t' : TypeId} {cs cs' : Array Value} (h : Blk w k t cs) (h' : Blk w k t' cs') : t = t' := by
  have e := Option.some.inj (h.symm.trans h')
  injection e
theorem Fr.ofBelow {w w' : World} (h : Below w.heap.size w w') : Fr (fun _ => False) w w' := ⟨h.os, h.tape, h.output, h.size, fun k hk _ => h.block k hk⟩
end Go.Proofs.YtlpkmghhmpkddaaDoor
