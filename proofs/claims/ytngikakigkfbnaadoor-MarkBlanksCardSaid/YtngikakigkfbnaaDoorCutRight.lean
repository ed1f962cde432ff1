/- Walk: cutRight of package mark. -/
import Derived.Test.YtngikakigkfbnaaDoorMarkA
import Derived.Test.YtngikakigkfbnaaDoorHelp
import Derived.Lib.SpaceU
import Derived.Lib.OthersKept
namespace Go.Proofs.YtngikakigkfbnaaDoor
set_option linter.unusedVariables false
set_option linter.unusedSimpArgs false
open Go Go.RowKit Go.Lib

theorem last_far (l : List UInt8) (hl : l ≠ []) (h : 128 ≤ (l.getD (l.length - 1) 0).toNat) : 128 ≤ (Lib.decodeLastL l).1 := by
  unfold Lib.decodeLastL
  rw [if_neg hl, if_neg (by omega)]
  simp only []
  split
  · next he =>
    have hlen : 0 < l.length := by cases l <;> simp_all
    generalize Lib.lastStart l = p at *
    have hw : 1 ≤ (Lib.decodeL (l.drop p)).2 := Lib.width_pos _ _
    have hp : p < l.length := by omega
    have hs : (ByteArray.mk (l.drop p).toArray).size = l.length - p := by rw [Lib.size_eq]; simp
    by_cases ha : ((ByteArray.mk (l.drop p).toArray)[0]'(by omega)).toNat < 128
    · have e := decode_ascii (ByteArray.mk (l.drop p).toArray) 0 (by omega) ha
      have e2 : (Lib.decodeL (l.drop p)).2 = 1 := by unfold Lib.decodeL; rw [e]
      have hpe : p = l.length - 1 := by omega
      have hb : ((ByteArray.mk (l.drop p).toArray)[0]'(by omega)) = l.getD (l.length - 1) 0 := by
        rw [← get!_of_lt (by omega), ← Lib.getD_get!']
        simp [List.getD_eq_getElem?_getD, List.getElem?_drop, hpe]
      rw [hb] at ha; omega
    · exact (decode_high _ 0 (by omega) (by omega)).1
  · show 128 ≤ 65533; omega

theorem last_near (l : List UInt8) (hl : l ≠ []) (h : (l.getD (l.length - 1) 0).toNat < 128) : Lib.decodeLastL l = ((l.getD (l.length - 1) 0).toNat, 1) := by
  unfold Lib.decodeLastL
  rw [if_neg hl, if_pos h]

/-- what a round of cutRight does -/
theorem cutRight_step (t set : ByteArray) (hA : Ascii set.data.toList) (h0 : 0 < t.size) :
    (hasRune set.data.toList (Lib.decodeLastL t.data.toList).1 = true → (Lib.decodeLastL t.data.toList).2 = 1 ∧ trimR (t.extract 0 (t.size - 1)) set = trimR t set) ∧
    (hasRune set.data.toList (Lib.decodeLastL t.data.toList).1 = false → trimR t set = t) := by
  have hl : t.data.toList ≠ [] := by
    intro e; have h2 : t.size = 0 := by rw [Lib.size_eq, e]; rfl
    omega
  have hsz := Lib.size_eq t
  have hsn := snoc_of hl
  have hex : (t.extract 0 (t.size - 1)).data.toList = t.data.toList.take (t.data.toList.length - 1) := by rw [Lib.extract_data, hsz]; simp
  by_cases ha : (t.data.toList.getD (t.data.toList.length - 1) 0).toNat < 128
  · rw [last_near _ hl ha]
    constructor
    · intro h
      refine ⟨rfl, ?_⟩
      unfold trimR
      rw [hex]
      conv => rhs; rw [hsn]
      rw [trimRight_yes _ _ _ (by rw [contains_hasRune]; exact h)]
    · intro h
      unfold trimR
      conv => lhs; rw [hsn]
      rw [trimRight_no _ _ _ (by rw [contains_hasRune]; exact h), ← hsn, Lib.mk_data]
  · have hf := last_far _ hl (by omega)
    have hn := hasRune_far _ hA _ hf
    refine ⟨(fun h => by rw [hn] at h; cases h), fun _ => ?_⟩
    unfold trimR
    conv => lhs; rw [hsn]
    rw [trimRight_no _ _ _ (by rw [contains_hasRune]; exact hasRune_far _ hA _ (by omega)), ← hsn, Lib.mk_data]

def strSize : Value → Nat
  | .string t => t.size
  | _ => 0

theorem markCutRight_calls (s set : ByteArray) (w : World) (hs : s.size ≤ 1000000) (ht : set.size ≤ 1000000) (hA : Ascii set.data.toList) (hT : Tabs w) :
    Calls Tryd.prog 22 #[.string s, .string set] w fun e w' => e = .returned (.string (trimR s set)) ∧ Below w.heap.size w w' := by
  have HA := Lib.hid hA
  have HT := Lib.hid hT
  clear hA hT
  go_enter Tryd.func22, Tryd.ntmps22
  go_wp2
  go_loopw [0, 7] (fun v _ wr => ∃ t : ByteArray, v = .string t ∧ t.size ≤ s.size ∧ Hid (trimR t set = trimR s set) ∧ Below w.heap.size w wr) (fun v _ _ => strSize v)
  case atStart => exact ⟨s, rfl, Nat.le_refl _, rfl, Below.refl _ _⟩
  case round =>
    obtain ⟨t, rfl, hts, htr, hb⟩ := hrel
    by_cases hp : 0 < t.size
    · have hp1 : decide ((0 : Int) < (t.size : Int)) = true := by simp; omega
      have hdec := Tryd.utf8_DecodeLastRuneInString t wr (by omega) (Tabs.below HT.out hb)
      have hstep := Lib.hid (cutRight_step t set HA.out hp)
      generalize Lib.decodeLastL t.data.toList = q at *
      go_wp2_with fail
      refine hdec.mono ?_
      rintro e W1 ⟨rfl, hb1⟩
      have h2 := hb.trans (hb1.mono hb.size)
      have hsz := h2.size
      clear hdec
      go_wp2
      go_loopw [7] (fun v wr2 => ∃ j : Nat, j ≤ set.size ∧ v = .bool (hasRune (set.data.toList.take j) q.1) ∧ Hid (wr2.heap[W1.heap.size]? = some (.stringIter set j)) ∧ Below W1.heap.size W1 wr2) (fun _ wr2 => set.size - wr2.iterPos W1.heap.size)
      case atStart => exact ⟨0, Nat.zero_le _, rfl, World.iter_heap W1 set 0, (Below.refl _ _).alloc (Nat.le_refl _) _⟩
      case round =>
        obtain ⟨j, hj, rfl, hit2, hb2⟩ := hrel
        by_cases hp2 : j < set.size
        · have hasc : (set[j]).toNat < 128 := HA.out _ (List.getElem_mem (l := set.data.toList) (n := j) (by simpa using hp2))
          have hnx : ∀ ty, (Instr.next (.pointer (some ⟨W1.heap.size, 0, none⟩)) true ty).run Tryd.prog wr = _ := fun ty => run_next_ascii_at wr W1.heap.size set j ty hit2.out hp2 hasc
          have hst := Lib.hid (hasRune_take set.data.toList q.1 j (by simpa using hp2))
          have he : (((q.1 : Nat) : Int) == ((set[j].toNat : Nat) : Int)) = (set[j].toNat == q.1) := by rw [Bool.eq_iff_iff]; simp; omega
          have hrel' : ∀ v : Bool, v = hasRune (set.data.toList.take (j + 1)) q.1 → (∃ j_1, j_1 ≤ set.size ∧ Value.bool v = .bool (hasRune (set.data.toList.take j_1) q.1) ∧ Hid ((wr.iterAt W1.heap.size set (j + 1)).heap[W1.heap.size]? = some (.stringIter set j_1)) ∧ Below W1.heap.size W1 (wr.iterAt W1.heap.size set (j + 1))) :=
            fun v hv => ⟨j + 1, by omega, by rw [hv], iterAt_heap wr W1.heap.size set j (j + 1) hit2.out, below_iterAt hb2 (Nat.le_refl _) set (j + 1)⟩
          have hme : set.size - (wr.iterAt W1.heap.size set (j + 1)).iterPos W1.heap.size < set.size - wr.iterPos W1.heap.size := by
            rw [iterPos_of' hit2.out, iterPos_of' (iterAt_heap wr W1.heap.size set j (j + 1) hit2.out)]; omega
          have He := Lib.hid he
          have Hrel := Lib.hid hrel'
          have Hme := Lib.hid hme
          clear he hrel' hme
          cases hc : hasRune (set.data.toList.take j) q.1
          all_goals
            go_wp2
            exact ⟨Hrel.out _ (by rw [hst.out, hc]; first | exact He.out | rfl), Hme.out⟩
        · have hnx : ∀ ty, (Instr.next (.pointer (some ⟨W1.heap.size, 0, none⟩)) true ty).run Tryd.prog wr = _ := fun ty => run_next_end_at wr W1.heap.size set j ty hit2.out hp2
          have ej : hasRune (set.data.toList.take j) q.1 = hasRune set.data.toList q.1 := by rw [List.take_of_length_le (by simp; omega)]
          rw [ej]
          clear ej hit2
          have hw := h2.trans (hb2.mono hsz)
          clear hb1 h2 hsz hb2
          cases hc : hasRune set.data.toList q.1 with
          | true =>
            obtain ⟨hq2, htr2⟩ := hstep.out.1 hc
            have Htr2 := Lib.hid htr2
            obtain ⟨c, n⟩ := q
            obtain rfl : n = 1 := hq2
            clear hstep htr2
            go_wp2
            have hse : (t.extract 0 (t.size - 1)).size = t.size - 1 := by rw [ByteArray.size_extract]; omega
            exact ⟨⟨_, rfl, by omega, Htr2.out.trans htr.out, hw⟩, by show (t.extract 0 (t.size - 1)).size < t.size; omega⟩
          | false =>
            have hn := Lib.hid (hstep.out.2 hc)
            clear hstep
            go_wp2
            go_ret
            exact ⟨ret_str (by rw [← htr.out, hn.out]), hw⟩
    · have hp1 : decide ((0 : Int) < (t.size : Int)) = false := decide_eq_false (by omega)
      have hE := Lib.hid (trimR_empty t set (by omega))
      go_wp2
      go_ret
      exact ⟨ret_str (by rw [← htr.out, hE.out]), hb⟩

end Go.Proofs.YtngikakigkfbnaaDoor
