/- A log's disk: what an append leaves, in plain Lean; how it lies in memory. -/
import Derived.Test.YtfkklcmepcocoaaDoorBufQ
import Derived.Test.YtfkklcmepcocoaaDoorWalRdNQ
namespace Go.Proofs.YtfkklcmepcocoaaDoor
open Go.RowKit
set_option linter.unusedVariables false

/-- A disk: its bytes; is its power off; how many bytes until power fails (-1: it does not). -/
structure Dk where
  b : Bs
  off : Bool
  cut : Int
/-- Bytes are written one by one; did all go? -/
def wrD (d : Dk) (s : Bs) : Dk × Bool :=
  if d.off = true then (d, false) else if 0 ≤ d.cut ∧ d.cut < s.length then (⟨d.b ++ s.take d.cut.toNat, true, 0⟩, false) else (⟨d.b ++ s, false, if d.cut < 0 then -1 else d.cut - s.length⟩, true)
theorem wrD_off {d : Dk} (h : d.off = true) (s : Bs) : wrD d s = (d, false) := if_pos h
theorem wrD_cut {d : Dk} (h : d.off = false) {s : Bs} (h0 : 0 ≤ d.cut) (h1 : d.cut < s.length) : wrD d s = (⟨d.b ++ s.take d.cut.toNat, true, 0⟩, false) := by
  unfold wrD; rw [if_neg (by rw [h]; decide), if_pos ⟨h0, h1⟩]
theorem wrD_all {d : Dk} (h : d.off = false) {s : Bs} (h1 : ¬ (0 ≤ d.cut ∧ d.cut < s.length)) : wrD d s = (⟨d.b ++ s, false, if d.cut < 0 then -1 else d.cut - s.length⟩, true) := by
  unfold wrD; rw [if_neg (by rw [h]; decide), if_neg h1]
/-- What is wrong with an append: its number, and its place. -/
def apF (d : Dk) (e : En) : Nat × Int :=
  if (rdF e.nm).1 ≠ 0 then rdF e.nm else if tickB e.tick = false then (2, -1) else if 65536 < d.b.length + (recL e).length then (7, -1) else if (wrD d (recL e)).2 = true then (0, -1) else (10, -1)
/-- What it leaves. -/
def apD (d : Dk) (e : En) : Dk :=
  if (rdF e.nm).1 ≠ 0 then d else if tickB e.tick = false then d else if 65536 < d.b.length + (recL e).length then d else (wrD d (recL e)).1
theorem wrD_len (d : Dk) (s : Bs) : (wrD d s).1.b.length ≤ d.b.length + s.length := by
  unfold wrD
  split
  · dsimp only; omega
  · split
    · dsimp only; rw [List.length_append, List.length_take]; omega
    · dsimp only; rw [List.length_append]; omega
theorem apD_len {d : Dk} (h : d.b.length ≤ 65536) (e : En) : (apD d e).b.length ≤ 65536 := by
  unfold apD
  split
  · exact h
  · split
    · exact h
    · split
      · exact h
      · have := wrD_len d (recL e); omega
/-- A cut that may be. -/
def CutOk (c : Int) : Prop := -1 ≤ c ∧ c < 9223372036854775808
theorem wrD_cutOk {d : Dk} (h : CutOk d.cut) (s : Bs) : CutOk (wrD d s).1.cut := by
  unfold CutOk at h ⊢
  unfold wrD
  split
  · exact h
  · split
    · dsimp only; omega
    · rename_i h1
      dsimp only
      split <;> omega
theorem apD_cutOk {d : Dk} (h : CutOk d.cut) (e : En) : CutOk (apD d e).cut := by
  unfold apD
  split
  · exact h
  · split
    · exact h
    · split
      · exact h
      · exact wrD_cutOk h _

def bytC (b : Bs) : List Value := b.map fun x : UInt8 => Value.int .u8 (x.toNat : Int)
theorem bytC_nats (b : Bs) : bytC b = (natsOf b).map fun x : Nat => Value.int .u8 (x : Int) := by unfold bytC natsOf; rw [List.map_map]; rfl
/-- A disk in memory: its block, its slice. -/
structure DiskAt (w : World) (q : Nat) (v : Value) (d : Dk) : Prop where
  hd : Blk w q 49 #[v, .bool d.off, .int .i64 d.cut]
  buf : Buf w v d.b.length (bytC d.b)
  ok : CutOk d.cut
/-- The blocks that a disk lies in. -/
def DkS (q : Nat) (v : Value) (k : Nat) : Prop := k = q ∨ v.ownBlock = some k
theorem DiskAt.ne {w : World} {q : Nat} {v : Value} {d : Dk} (h : DiskAt w q v d) : v.ownBlock ≠ some q := fun e => (h.buf.row q e).ne_blk h.hd (by decide) rfl
theorem DiskAt.S_lt {w : World} {q : Nat} {v : Value} {d : Dk} (h : DiskAt w q v d) : ∀ k, DkS q v k → k < w.heap.size := by
  rintro k (rfl | hk)
  · exact h.hd.lt
  · exact h.buf.lt k hk
theorem DiskAt.fr {S : Nat → Prop} {w w' : World} {q : Nat} {v : Value} {d : Dk} (h : DiskAt w q v d) (hf : Fr S w w') (hn : ∀ k, DkS q v k → ¬ S k) : DiskAt w' q v d :=
  ⟨hf.blk h.hd (hn q (.inl rfl)), h.buf.fr hf (fun k hk => hn k (.inr hk)), h.ok⟩
theorem Fr.ofB {B : Nat} {w w' : World} (h : Below B w w') (hB : w.heap.size ≤ B) : Fr (fun _ => False) w w' := ⟨h.os, h.tape, h.output, h.size, fun k hk _ => h.block k (Nat.lt_of_lt_of_le hk hB)⟩
theorem DiskAt.below {B : Nat} {w w' : World} {q : Nat} {v : Value} {d : Dk} (h : DiskAt w q v d) (hb : Below B w w') (hB : w.heap.size ≤ B) : DiskAt w' q v d := h.fr (Fr.ofB hb hB) (fun _ _ h => h)
/-- The disk has turned; nothing else that was there has. -/
structure DStep (w w' : World) (q : Nat) (v : Value) (v' : Value) (d' : Dk) : Prop where
  at_ : DiskAt w' q v' d'
  fr : Fr (DkS q v) w w'
  mv : ∀ k, v'.ownBlock = some k → v.ownBlock = some k ∨ w.heap.size ≤ k
theorem DStep.trans {w w1 w2 : World} {q : Nat} {v v1 v2 : Value} {d1 d2 : Dk} (h1 : DStep w w1 q v v1 d1) (h2 : DStep w1 w2 q v1 v2 d2) : DStep w w2 q v v2 d2 := by
  refine ⟨h2.at_, Fr.trans h1.fr h2.fr (fun i hi hk => ?_), fun k hk => ?_⟩
  · rcases hk with rfl | hk
    · exact .inl rfl
    · rcases h1.mv i hk with h | h
      · exact .inr h
      · omega
  · rcases h2.mv k hk with h | h
    · exact h1.mv k h
    · exact .inr (Nat.le_trans h1.fr.size h)
theorem DStep.ofBelow {B : Nat} {w w' : World} {q : Nat} {v : Value} {d : Dk} (h : DiskAt w q v d) (hb : Below B w w') (hB : w.heap.size ≤ B) : DStep w w' q v v d :=
  ⟨h.below hb hB, (Fr.ofB hb hB).mono (fun _ _ h => h.elim), fun k hk => .inl hk⟩
theorem DStep.before {B : Nat} {w w1 w' : World} {q : Nat} {v v' : Value} {d d' : Dk} (h0 : DiskAt w q v d) (hb : Below B w w1) (hB : w.heap.size ≤ B) (h : DStep w1 w' q v v' d') : DStep w w' q v v' d' := (DStep.ofBelow h0 hb hB).trans h
theorem DStep.behind {B : Nat} {w w1 w' : World} {q : Nat} {v v' : Value} {d' : Dk} (h : DStep w w1 q v v' d') (hb : Below B w1 w') (hB : w1.heap.size ≤ B) : DStep w w' q v v' d' := h.trans (DStep.ofBelow h.at_ hb hB)
/-- All that the disk lies in is the law's own. -/
def DkLo (B q : Nat) (v : Value) : Prop := ∀ k, DkS q v k → B ≤ k
theorem DStep.lo {B : Nat} {w w' : World} {q : Nat} {v v' : Value} {d' : Dk} (h : DStep w w' q v v' d') (hl : DkLo B q v) (hB : B ≤ w.heap.size) : DkLo B q v' := by
  rintro k (rfl | hk)
  · exact hl _ (.inl rfl)
  · rcases h.mv k hk with h | h
    · exact hl k (.inr h)
    · omega
theorem DStep.below {B : Nat} {w w' : World} {q : Nat} {v v' : Value} {d' : Dk} (h : DStep w w' q v v' d') (hl : DkLo B q v) (hB : B ≤ w.heap.size) : Below B w w' :=
  h.fr.below hB (fun k hk hs => by have := hl k hs; omega)
/-- A row of another type is as it was. -/
theorem DStep.own {w w' : World} {q : Nat} {v v' : Value} {d d' : Dk} (h0 : DiskAt w q v d) (h : DStep w w' q v v' d') {base : Nat} {e : TypeId} {size n : Nat} {x : Value} {xs : List Value} (ho : w.ownsRow base e size x n xs) (h1 : e ≠ 49) (h2 : e ≠ 5) : w'.ownsRow base e size x n xs := by
  refine h.fr.own ho (fun k hk hs => ?_)
  rcases hs with rfl | hs
  · exact own_ne_blk ho h0.hd h1 hk.symm
  · exact (h0.buf.row k hs).ne_own ho h2 hk
theorem DStep.blk {w w' : World} {q : Nat} {v v' : Value} {d d' : Dk} (h0 : DiskAt w q v d) (h : DStep w w' q v v' d') {g : Nat} {t : TypeId} {cs : Array Value} (ho : Blk w g t cs) (h1 : t ≠ 49) (h2 : t ≠ 5) : Blk w' g t cs := by
  refine h.fr.blk ho (fun hs => ?_)
  rcases hs with rfl | hs
  · exact Blk.ne_ ho h0.hd h1 rfl
  · exact (h0.buf.row g hs).ne_blk ho h2 rfl
end Go.Proofs.YtfkklcmepcocoaaDoor
