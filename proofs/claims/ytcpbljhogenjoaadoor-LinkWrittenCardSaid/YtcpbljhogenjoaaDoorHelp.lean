/- Plain: blocks of the heap, the tables of unicode/utf8. -/
import Derived.Test.YtcpbljhogenjoaaDoorBase
import Derived.Test.YtcpbljhogenjoaaDoorShelf
import Derived.WalkKit
import Derived.WalkSpells
import Derived.Shelf.Unicode.DecodeSlow
import Derived.Lib.Hide
import Derived.Laws.Rows
namespace Go.Proofs.YtcpbljhogenjoaaDoor
set_option linter.unusedVariables false
set_option linter.unusedSimpArgs false
open Go Go.RowKit Go.Shelf Go.Lib

/-- the tables of unicode/utf8 lie as its text lays them -/
abbrev Tabs (w : World) : Prop := Lib.Utf8Tabs 1 2 w

theorem Tabs.below {w w' : World} (h : Tabs w) (hb : Below w.heap.size w w') : Tabs w' := Utf8Tabs_below h hb

theorem below_block {B : Nat} {w w' : World} (h : Below B w w') {k : Nat} (hk : k < B) {o : Obj} (ho : w.heap[k]? = some o) : w'.heap[k]? = some o := (h.block k hk).trans ho

theorem blk_cell {w : World} {b : Nat} {cs : Array Value} {t : TypeId} {fr : Nat × Nat} (h : w.heap[b]? = some (.cells cs t fr)) (j : Nat) : w.cell? ⟨b, j, none⟩ = cs[j]? := by
  simp [World.cell?, h]

theorem blk_free {w : World} {b : Nat} {cs : Array Value} {t : TypeId} (h : w.heap[b]? = some (.cells cs t (0, 0))) (j : Nat) : w.frozen? ⟨b, j, none⟩ = false := by
  simp [World.frozen?, h]

theorem blk_lt {w : World} {b : Nat} {o : Obj} (h : w.heap[b]? = some o) : b < w.heap.size := (Array.getElem?_eq_some_iff.1 h).1

theorem blk_set {w : World} {b : Nat} {cs : Array Value} {t : TypeId} {fr : Nat × Nat} (h : w.heap[b]? = some (.cells cs t fr)) (j : Nat) (u : Value) :
    (w.setCell ⟨b, j, none⟩ u).heap[b]? = some (.cells (cs.setIfInBounds j u) t fr) := by
  simp [World.setCell, Array.getElem?_modify, h]

theorem blk_far {w : World} {b c : Nat} {o : Obj} (h : w.heap[b]? = some o) (j : Nat) (u : Value) (hne : c ≠ b) : (w.setCell ⟨c, j, none⟩ u).heap[b]? = some o := by
  rw [Go.RowKit.Below.heap_setCell _ _ _ _ (fun e => hne e.symm)]; exact h

theorem Tabs.le {B : Nat} {w w' : World} (h : Tabs w) (hb : Below B w w') (hB : w.heap.size ≤ B) : Tabs w' := h.below (hb.mono hB)

end Go.Proofs.YtcpbljhogenjoaaDoor
