/- A slice of bytes of the call's own, to which bytes are appended, and its text. -/
import Derived.Test.YtcpbljhogenjoaaDoorBase
import Derived.Test.YtcpbljhogenjoaaDoorProg
import Derived.WalkKit
import Derived.WalkSpells
import Derived.OwnWalk
import Derived.Laws.AppendOwn
import Derived.Laws.OwnMore
import Derived.Laws.IdiomStrings
import Derived.Handy
import Derived.Laws.Rows
namespace Go.Proofs.YtcpbljhogenjoaaDoor
set_option linter.unusedVariables false
set_option linter.unusedSimpArgs false
open Go Go.RowKit Go.Lib

theorem infoB : (Tryd.prog.info? 5).map (fun i => (i.zero, i.size, i.bytes)) = some (some (.int .u8 0), 1, 1) := by kernel_rfl

def byteVals (l : List UInt8) : List Value := l.map fun b => .int .u8 (b.toNat : Int)

/-- the slice v is the call's own (its block is B or above), not nil, and holds the bytes l -/
def Own (B : Nat) (v : Value) (l : List UInt8) (w : World) : Prop := w.ownsRow B 5 1 v l.length (byteVals l) ∧ ∃ g c, v = .slice (some ⟨g, 0, none⟩) l.length c

theorem Own.alloc {B : Nat} {v : Value} {l : List UInt8} {w : World} (h : Own B v l w) (o : Obj) : Own B v l (w.alloc o) := ⟨h.1.alloc o, h.2⟩

theorem Own.block {B : Nat} {v : Value} {l : List UInt8} {w : World} (h : Own B v l w) : ∃ g cap cur, v = .slice (some ⟨g, 0, none⟩) l.length cap ∧ B ≤ g ∧ w.heap[g]? = some (.cells cur 5 (0, 0)) ∧ l.length ≤ cap ∧ cap ≤ maxLen ∧ cur.size = cap ∧ cur.toList.take l.length = byteVals l := by
  obtain ⟨⟨h1, h2⟩, g, c, hv⟩ := h
  rcases h2 with ⟨h3, _⟩ | ⟨g', cap, cur, hv', hg, hh, hn, hm, hs, ht⟩
  · rw [hv] at h3; cases h3
  · exact ⟨g', cap, cur, hv', hg, hh, hn, hm, by omega, by simpa using ht⟩

theorem Own.cell {B : Nat} {g c : Nat} {l : List UInt8} {w : World} (h : Own B (.slice (some ⟨g, 0, none⟩) l.length c) l w) (j : Nat) (hj : j < l.length) : w.cell? ⟨g, j, none⟩ = some (.int .u8 (l[j].toNat : Int)) := by
  obtain ⟨g', cap, cur, hv, hg, hh, hn, hm, hs, ht⟩ := h.block
  cases hv
  have e : cur.toList[j]? = (byteVals l)[j]? := by rw [← ht, List.getElem?_take, if_pos hj]
  simp only [World.cell?, hh]
  have : cur[j]? = some (.int .u8 (l[j].toNat : Int)) := by
    rw [← Array.getElem?_toList, e]; simp [byteVals, hj]
  simpa using this

/-- an own slice stays so where only blocks of others are written -/
theorem Own.below {B : Nat} {v : Value} {l : List UInt8} {w w' : World} (h : Own B v l w) (hb : Below w.heap.size w w') : Own B v l w' := by
  obtain ⟨⟨h1, h2⟩, h3⟩ := h
  refine ⟨⟨h1, ?_⟩, h3⟩
  rcases h2 with h2 | ⟨g, cap, cur, hv, hg, hh, r⟩
  · exact Or.inl h2
  · exact Or.inr ⟨g, cap, cur, hv, hg, (hb.block g ((Array.getElem?_eq_some_iff.1 hh).1)).trans hh, r⟩

theorem text_of {B : Nat} {g c : Nat} {l : List UInt8} {w : World} (h : Own B (.slice (some ⟨g, 0, none⟩) l.length c) l w) :
    (convert 38 9 (.slice (some ⟨g, 0, none⟩) l.length c)).run Tryd.prog w = .ok (.string ⟨l.toArray⟩) w :=
  run_convert_bytes_back w 38 9 5 ⟨g, 0, none⟩ c l Tryd.underlying38 Tryd.underlying5 Tryd.underlying9 (fun j hj => by
    have hc := h.cell j hj
    simp only [Addr.add]
    split
    · next e => have : j = 0 := by simpa using e
                subst this; exact hc
    · simpa using hc)

theorem Own.new (B : Nat) (w : World) (hB : B ≤ w.heap.size) : Own B (.slice (some ⟨w.heap.size, 0, none⟩) 0 0) [] (w.alloc (.cells #[] 5)) :=
  ⟨⟨rfl, Or.inr ⟨w.heap.size, 0, #[], rfl, hB, by rw [show (w.alloc (.cells #[] 5)).heap[w.heap.size]? = some (.cells #[] 5) from heap_alloc_new w _], Nat.le_refl _, by unfold maxLen; omega, rfl, rfl⟩⟩, _, _, rfl⟩

theorem byteVals_one (l : List UInt8) (c : UInt8) : byteVals l ++ [Value.int .u8 (c.toNat : Int)] = byteVals (l ++ [c]) := by simp [byteVals]

/-- append(v, c): one byte more -/
theorem append_byte {ops : Array Oper} {rest : List Oper} {o : Oper} {a : Act} {Q : Exit → Act → World → Prop} (hgd : o.guard = none) (s x : Operand)
    (ho : o.op = .call { callee := .builtin .append, args := #[s, x], argTypes := #[38, 38] })
    (B : Nat) (v : Value) (l : List UInt8) (c : UInt8) (W w : World) (hW : W = w.alloc (.cells #[.int .u8 (c.toNat : Int)] 5)) (hs : a.eval s = v) (hown : Own B v l w) (hx : a.eval x = .slice (some ⟨w.heap.size, 0, none⟩) 1 1)
    (hl : l.length ≤ 1000000) (hB : B ≤ w.heap.size)
    (h : ∀ v' w', Own B v' (l ++ [c]) w' → Below B w w' → W.grownBy w' v.ownBlock → wpList Tryd.prog ops Q rest (a.put o.dst v') w') : wpList Tryd.prog ops Q (o :: rest) a W := by
  subst hW
  obtain ⟨i0, hi, hz0, hz1, hz2⟩ := info_parts infoB
  have hblk := hown.block
  refine wpList_append_own _ hgd s x 38 ho B 5 i0 (.int .u8 0) 1 1 Tryd.underlying38 hi hz0 hz1 hz2 rfl (by decide) v l.length (byteVals l) hs (hown.1.alloc _) ⟨w.heap.size, 0, none⟩ 1 1 [.int .u8 (c.toNat : Int)] hx rfl ?_ ?_ (by unfold maxLen; omega) (by omega) (by simp; omega) ?_
  · intro j u hj
    rcases j with _ | j
    · simp only [List.getElem?_cons_zero, Option.some.injEq] at hj; subst hj
      show (w.alloc _).cell? ((⟨w.heap.size, 0, none⟩ : Addr).add 0) = _
      simp [Addr.add]
    · simp at hj
  · intro u hu; simp at hu; subst hu; rfl
  · intro v' w' h1 h2 h3
    obtain ⟨g, cap, cur, hv, hg, hh, -⟩ := hblk
    refine h v' w' ⟨?_, ?_⟩ ?_ h2
    · rw [byteVals_one] at h1; simpa using h1
    · rcases h1.2 with ⟨h4, h5⟩ | ⟨g', cap', cur', hv', -⟩
      · omega
      · exact ⟨g', cap', by rw [hv']; simp⟩
    · refine ((Below.refl B w).alloc hB _).grown h2 (by simp; omega) ?_
      intro k hk
      rw [hv] at hk
      simp [Value.ownBlock] at hk
      omega

theorem own_slice {g n c : Nat} : (Value.slice (some ⟨g, 0, none⟩) n c).ownBlock = some g := rfl

/-- two own slices whose first bytes differ lie in two blocks -/
theorem Own.apart {B : Nat} {v1 v2 : Value} {a b : UInt8} {l1 l2 : List UInt8} {w : World} (h1 : Own B v1 (a :: l1) w) (h2 : Own B v2 (b :: l2) w) (hab : a ≠ b) : v1.ownBlock ≠ v2.ownBlock := by
  obtain ⟨g1, c1, cur1, rfl, _, k1, m1, _, z1, t1⟩ := h1.block
  obtain ⟨g2, c2, cur2, rfl, _, k2, m2, _, z2, t2⟩ := h2.block
  rw [own_slice, own_slice]
  intro e
  obtain rfl : g1 = g2 := Option.some.inj e
  rw [k1] at k2
  cases k2
  have e1 := congrArg (·[0]?) t1
  have e2 := congrArg (·[0]?) t2
  simp [byteVals, List.getElem?_take] at e1 e2
  rw [e1] at e2
  simp at e2
  exact hab (UInt8.toNat_inj.1 (by omega))

theorem Own.apart0 {B : Nat} {v1 : Value} {g : Nat} {a : UInt8} {l1 : List UInt8} {w : World} (h1 : Own B v1 (a :: l1) w) (h2 : Own B (.slice (some ⟨g, 0, none⟩) 0 0) [] w) : v1.ownBlock ≠ some g := by
  obtain ⟨g1, c1, cur1, rfl, _, k1, m1, _, z1, t1⟩ := h1.block
  obtain ⟨g2, c2, cur2, e2, _, k2, m2, _, z2, t2⟩ := h2.block
  cases e2
  rw [own_slice]
  intro e
  obtain rfl : g1 = g := Option.some.inj e
  rw [k1] at k2
  cases k2
  simp at m1; omega

/-- an own slice is kept while another one grows -/
theorem Own.kept {B : Nat} {v1 v2 : Value} {l : List UInt8} {w w' : World} {o : Obj} (h : Own B v2 l w) (hg : (w.alloc o).grownBy w' v1.ownBlock) (hne : v1.ownBlock ≠ v2.ownBlock) : Own B v2 l w' := by
  obtain ⟨g2, c2, cur2, rfl, hB, k2, m2, x2, z2, t2⟩ := h.block
  have hlt := (Array.getElem?_eq_some_iff.1 k2).1
  refine ⟨⟨by simp [byteVals], Or.inr ⟨g2, c2, cur2, rfl, hB, ?_, m2, x2, by omega, by simpa using t2⟩⟩, g2, c2, rfl⟩
  rw [hg.block g2 (by simp; omega) (fun e => hne (by rw [own_slice]; exact e.symm)), Go.RowKit.Below.heap_alloc _ _ _ hlt]
  exact k2

end Go.Proofs.YtcpbljhogenjoaaDoor
