/- Walks: class.within, Blank, Plain, Mark. -/
import Derived.Test.YtcpbljhogenjoaaDoorClassDef
import Derived.Test.YtcpbljhogenjoaaDoorShelf
import Derived.WalkKit
import Derived.WalkSpells
import Derived.Shelf.Unicode.DecodeSlow
import Derived.Lib.Hide
namespace Go.Proofs.YtcpbljhogenjoaaDoor
set_option linter.unusedVariables false
set_option linter.unusedSimpArgs false
open Go Go.RowKit Go.Shelf Go.Lib


theorem within_drop (r : Int) (zs : List (Int × Int)) (k : Nat) (hk : k < zs.length) : withinB r (zs.drop k) = ((decide (zs[k].1 ≤ r) && decide (r ≤ zs[k].2)) || withinB r (zs.drop (k + 1))) := by
  unfold withinB; rw [List.drop_eq_getElem_cons hk, List.any_cons]

theorem within_calls (r : Int) (b : Nat) (zs : List (Int × Int)) (c : Nat) (w : World) (hn : zs.length ≤ 1000) (hb : b < w.heap.size)
    (h0 : ∀ j, j < zs.length → w.cell? ⟨b, j * 2, none⟩ = some (.int .i64 (zs.getD j (0, 0)).1))
    (h1 : ∀ j, j < zs.length → w.cell? ⟨b, j * 2 + 1, none⟩ = some (.int .i64 (zs.getD j (0, 0)).2)) :
    Calls Tryd.prog 46 #[.int .i64 r, .slice (some ⟨b, 0, none⟩) zs.length c] w fun e w' => e = .returned (.bool (withinB r zs)) ∧ Below w.heap.size w w' := by
  have H0 := Lib.hid h0
  have H1 := Lib.hid h1
  clear h0 h1
  go_enter Tryd.func46, Tryd.ntmps46
  go_wp2
  go_loopw [9] (fun i wr => ∃ k : Nat, k ≤ zs.length ∧ i = .int .i64 k ∧ Hid (withinB r zs = withinB r (zs.drop k)) ∧ Below w.heap.size w wr) (fun i _ => zs.length - (RowKit.intOf i).toNat)
  case atStart => exact ⟨0, Nat.zero_le _, rfl, rfl, Below.refl _ _⟩
  case round =>
    obtain ⟨k, hk, rfl, hw, hbel⟩ := hrel
    by_cases hlt : k < zs.length
    · have c0 := (hbel.cell (p := ⟨b, k * 2, none⟩) hb).trans (H0.out k hlt)
      have c1 := (hbel.cell (p := ⟨b, k * 2 + 1, none⟩) hb).trans (H1.out k hlt)
      have hd := Lib.hid (within_drop r zs k hlt)
      go_wp2
      · go_ret
        refine ⟨?_, by repeat (first | exact hbel | apply Below.alloc | (have := hbel.size; simp; omega))⟩
        rw [hw.out, hd.out]; simp [*]
      all_goals
        go_roundw
        case rel => exact ⟨k + 1, by omega, by go_num, (by show _ = _; rw [hw.out, hd.out]; simp [*]; try omega), by repeat (first | exact hbel | apply Below.alloc | (have := hbel.size; simp; omega))⟩
        case measure => simp [RowKit.intOf] <;> omega
    · go_wp2
      go_ret
      refine ⟨?_, hbel⟩
      rw [hw.out, List.drop_eq_nil_of_le (by omega)]; rfl

def spanCells : List (Int × Int) → List Value
  | [] => []
  | p :: r => .int .i64 p.1 :: .int .i64 p.2 :: spanCells r

theorem spanCells_at : ∀ (zs : List (Int × Int)) (j : Nat) (h : j < zs.length), (spanCells zs)[j * 2]? = some (.int .i64 zs[j].1) ∧ (spanCells zs)[j * 2 + 1]? = some (.int .i64 zs[j].2)
  | [], j, h => absurd h (by simp)
  | p :: r, 0, _ => ⟨rfl, rfl⟩
  | p :: r, j + 1, h => by
    have := spanCells_at r j (by simpa using h)
    rw [show (j + 1) * 2 = j * 2 + 1 + 1 from by omega]
    exact this

theorem cell_new_list (w : World) (cs : List Value) (t : TypeId) (j : Nat) (v : Value) (h : cs[j]? = some v) : (w.alloc (.cells cs.toArray t)).cell? ⟨w.heap.size, j, none⟩ = some v := by
  rw [World.cell?_alloc_new]; simpa using h

theorem within_new (r : Int) (zs : List (Int × Int)) (c : Nat) (t : TypeId) (w : World) (hn : zs.length ≤ 1000) :
    Calls Tryd.prog 46 #[.int .i64 r, .slice (some ⟨w.heap.size, 0, none⟩) zs.length c] (w.alloc (.cells (spanCells zs).toArray t)) fun e w' => e = .returned (.bool (withinB r zs)) ∧ Below w.heap.size w w' := by
  refine (within_calls r w.heap.size zs c _ hn (by simp) (fun j hj => cell_new_list w _ t _ _ ?_) (fun j hj => cell_new_list w _ t _ _ ?_)).mono fun e w' ⟨he, hb⟩ => ⟨he, ((Below.refl _ _).alloc (Nat.le_refl _) _).trans (hb.mono (by simp))⟩
  · rw [(spanCells_at zs j hj).1]; simp [hj]
  · rw [(spanCells_at zs j hj).2]; simp [hj]


theorem Blank_calls (r : Int) (w : World) :
    Calls Tryd.prog 27 #[.int .i64 r] w fun e w' => e = .returned (.bool (blankB r)) ∧ Below w.heap.size w w' := by
  go_enter Tryd.func27, Tryd.ntmps27
  go_wp2_with fail
  refine (within_new r blankL 9 72 w (by decide)).mono ?_
  rintro e w1 ⟨rfl, hb⟩
  go_wp2
  go_ret
  exact ⟨rfl, hb⟩

theorem Plain_calls (r : Int) (h0 : 0 ≤ r) (h1 : r ≤ 255) (w : World) :
    Calls Tryd.prog 20 #[.int .u8 r] w fun e w' => e = .returned (.bool (plainB r)) ∧ Below w.heap.size w w' := by
  go_enter Tryd.func20, Tryd.ntmps20
  go_wp2_with fail
  refine (within_new r plainL 4 72 w (by decide)).mono ?_
  rintro e w1 ⟨rfl, hb⟩
  go_wp2
  go_ret
  exact ⟨rfl, hb⟩

end Go.Proofs.YtcpbljhogenjoaaDoor
