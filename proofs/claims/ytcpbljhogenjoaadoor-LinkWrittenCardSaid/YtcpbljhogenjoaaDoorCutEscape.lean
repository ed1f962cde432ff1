/- Walks: cutLeft of package escape. -/
import Derived.Test.YtcpbljhogenjoaaDoorBase
import Derived.Test.YtcpbljhogenjoaaDoorProg
import Derived.WalkKit
import Derived.WalkSpells
import Derived.Lib.OthersKept
namespace Go.Proofs.YtcpbljhogenjoaaDoor
set_option linter.unusedVariables false
set_option linter.unusedSimpArgs false
open Go Go.RowKit Go.Lib


theorem escapeCutLeft_calls (s set : ByteArray) (w : World) (hs : s.size ≤ 1000000) (ht : set.size ≤ 1000000) (hA : Ascii set.data.toList) :
    Calls Tryd.prog 57 #[.string s, .string set] w fun e w' => e = .returned (.string (cutL s set)) ∧ Below w.heap.size w w' := by
  have HA := Lib.hid hA
  clear hA
  go_enter Tryd.func57, Tryd.ntmps57
  go_wp2
  go_loopw [7] (fun _ wr => ∃ pos : Nat, pos ≤ s.size ∧ Hid (lead s set = pos + leadN s set pos) ∧ Hid (wr.heap[w.heap.size]? = some (.stringIter s pos)) ∧ Below w.heap.size w wr) (fun _ wr => s.size - wr.iterPos w.heap.size)
  case atStart => exact ⟨0, Nat.zero_le _, (by show _ = _; unfold lead; omega), World.iter_heap w s 0, (Below.refl _ _).alloc (Nat.le_refl _) _⟩
  case round =>
    obtain ⟨wo, rfl⟩ : ∃ wo : World, wo = wr := ⟨_, rfl⟩
    obtain ⟨pos, hpos, hl, hit, hb⟩ := hrel
    have hm := Lib.hid (iterPos_of' hit.out)
    by_cases hp : pos < s.size
    · have hnx : ∀ ty, (Instr.next (.pointer (some ⟨w.heap.size, 0, none⟩)) true ty).run Tryd.prog wo = _ := fun ty => run_next_any_at wo w.heap.size s pos ty hit.out hp
      go_wp2
      have h1 := Lib.hid (iterAt_heap wo w.heap.size s pos (pos + (Utf8.decode s pos).2) hit.out)
      have h2 := below_iterAt hb (Nat.le_refl _) s (pos + (Utf8.decode s pos).2)
      have hsz := h2.size
      clear hit hb hnx
      generalize (wo.iterAt w.heap.size s (pos + (Utf8.decode s pos).2)) = W1 at *
      have hy := fun hr => Lib.hid (leadN_yes s set HA.out pos hp hr)
      have hn := fun hr => Lib.hid (leadN_no s set HA.out pos hp hr)
      generalize Utf8.decode s pos = q at *
      go_loopw [7] (fun v wr2 => ∃ j : Nat, j ≤ set.size ∧ v = .bool (hasRune (set.data.toList.take j) q.1) ∧ Hid (wr2.heap[W1.heap.size]? = some (.stringIter set j)) ∧ Below W1.heap.size W1 wr2) (fun _ wr2 => set.size - wr2.iterPos W1.heap.size)
      case atStart => exact ⟨0, Nat.zero_le _, rfl, World.iter_heap W1 set 0, (Below.refl _ _).alloc (Nat.le_refl _) _⟩
      case round =>
        obtain ⟨j, hj, rfl, hit2, hb2⟩ := hrel
        by_cases hp2 : j < set.size
        · have hasc : (set[j]).toNat < 128 := HA.out _ (List.getElem_mem (l := set.data.toList) (n := j) (by simpa using hp2))
          have hnx : ∀ ty, (Instr.next (.pointer (some ⟨W1.heap.size, 0, none⟩)) true ty).run Tryd.prog wr = _ := fun ty => run_next_ascii_at wr W1.heap.size set j ty hit2.out hp2 hasc
          have hst := Lib.hid (hasRune_take set.data.toList q.1 j (by simpa using hp2))
          have he : (((q.1 : Nat) : Int) == ((set[j].toNat : Nat) : Int)) = (set[j].toNat == q.1) := by rw [Bool.eq_iff_iff]; simp; omega
          have hrel' : ∀ v : Bool, v = hasRune (set.data.toList.take (j + 1)) q.1 → (∃ j_1, j_1 ≤ set.size ∧ Value.bool v = .bool (hasRune (set.data.toList.take j_1) q.1) ∧ Hid ((wr.iterAt W1.heap.size set (j + 1)).heap[W1.heap.size]? = some (.stringIter set j_1)) ∧ Below W1.heap.size W1 (wr.iterAt W1.heap.size set (j + 1))) :=
            fun v hv => ⟨j + 1, by omega, by rw [hv], iterAt_heap wr W1.heap.size set j (j + 1) hit2.out, below_iterAt hb2 (Nat.le_refl _) set (j + 1)⟩
          have hme : set.size - (wr.iterAt W1.heap.size set (j + 1)).iterPos W1.heap.size < set.size - wr.iterPos W1.heap.size := by
            rw [iterPos_of' hit2.out, iterPos_of' (iterAt_heap wr W1.heap.size set j (j + 1) hit2.out)]; omega
          have He := Lib.hid he
          have Hrel := Lib.hid hrel'
          have Hme := Lib.hid hme
          clear he hrel' hme
          cases hc : hasRune (set.data.toList.take j) q.1
          all_goals
            go_wp2
            exact ⟨Hrel.out _ (by rw [hst.out, hc]; first | exact He.out | rfl), Hme.out⟩
        · have hnx : ∀ ty, (Instr.next (.pointer (some ⟨W1.heap.size, 0, none⟩)) true ty).run Tryd.prog wr = _ := fun ty => run_next_end_at wr W1.heap.size set j ty hit2.out hp2
          have ej : hasRune (set.data.toList.take j) q.1 = hasRune set.data.toList q.1 := by rw [List.take_of_length_le (by simp; omega)]
          rw [ej]
          clear ej hit2
          have hw := h2.trans (hb2.mono hsz)
          have hit3 : Hid (wr.heap[w.heap.size]? = some (.stringIter s (pos + q.2))) := (hb2.block _ (iter_lt h1.out)).trans h1.out
          clear h1 h2 hsz hb2
          cases hc : hasRune set.data.toList q.1 with
          | true =>
            have hy := hy hc
            clear hn
            go_wp2
            refine ⟨⟨pos + q.2, ?_, ?_, hit3, hw⟩, ?_⟩
            · rw [hy.out.1]; omega
            · show _ = _
              rw [hl.out, hy.out.2, hy.out.1]; omega
            · rw [hm.out, iterPos_of' hit3.out, hy.out.1]; omega
          | false =>
            have hn := hn hc
            clear hy
            go_wp2
            go_ret
            exact ⟨ret_str (by unfold cutL; rw [hl.out, hn.out]; rfl), hw⟩
    · have hnx : ∀ ty, (Instr.next (.pointer (some ⟨w.heap.size, 0, none⟩)) true ty).run Tryd.prog wo = _ := fun ty => run_next_end_at wo w.heap.size s pos ty hit.out hp
      go_wp2
      go_ret
      exact ⟨ret_str (by unfold cutL; rw [extract_end]; rw [hl.out]; omega), hb⟩

end Go.Proofs.YtcpbljhogenjoaaDoor
