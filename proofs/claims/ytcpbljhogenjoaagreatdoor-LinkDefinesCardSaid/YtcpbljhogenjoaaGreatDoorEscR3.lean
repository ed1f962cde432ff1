/- Walks: the reference's table of entities. -/
import Derived.Test.YtcpbljhogenjoaaGreatDoorEscDef
import Derived.Test.YtcpbljhogenjoaaGreatDoorEntMap
import Derived.Test.YtcpbljhogenjoaaGreatDoorLinkB
import Derived.BigQuiet
import Derived.Deep.QuietTactic
import Derived.Deep.DeepCutAuto
import Derived.Deep.WholeRow
import Derived.Laws.Tables
import Derived.Deep.CutBlock
import Derived.WalkSmall
namespace Go.Proofs.YtcpbljhogenjoaaGreatDoor
set_option linter.unusedVariables false
set_option linter.unusedSimpArgs false
open Go Go.RowKit Go.Shelf Go.Lib

def namesA : Array Value := (entL.map fun p => Value.string ⟨p.1.toArray⟩).toArray
def noNames : Array Value := Array.replicate 53 (Value.string ⟨#[]⟩)
def numsA : Array Value := (entL.map fun p => Value.int .i64 (p.2 : Int)).toArray
def noNums : Array Value := Array.replicate 53 (Value.int .i64 0)

theorem infoNames : (Tryz.prog.info? 93).map (fun i => (i.zero, i.size)) = some (some (.agg noNames), 53) := by kernel_rfl
theorem infoNums : (Tryz.prog.info? 94).map (fun i => (i.zero, i.size)) = some (some (.agg noNums), 53) := by kernel_rfl

theorem build_row {t : TypeId} {cs : Array Value} {ops : Array Oper} {rest : List Oper} {o : Oper} {a : Act} {w : World} {Q : Exit → Act → World → Prop} (hg : o.guard = none) (parts : Array (Nat × Operand)) (ho : o.op = .build t parts)
    (hf : Tryz.prog.built t (parts.map fun (i, x) => (i, a.eval x)).toList = some cs)
    (h : wpList Tryz.prog ops Q rest (a.put o.dst (.agg cs)) w) : wpList Tryz.prog ops Q (o :: rest) a w :=
  wpList_build hg _ parts ho (by rw [hf]; rfl) (by rw [hf]; exact h)

theorem alloc_row {t : TypeId} {cs : Array Value} (n : Nat) (hi : (Tryz.prog.info? t).map (fun i => (i.zero, i.size)) = some (some (.agg cs), n)) {ops : Array Oper} {rest : List Oper} {o : Oper} {a : Act} {w : World} {Q : Exit → Act → World → Prop} (hg : o.guard = none) (ho : o.op = .alloc t)
    (h : wpList Tryz.prog ops Q rest (a.put o.dst (.pointer (some ⟨w.heap.size, 0, none⟩))) (w.alloc (.cells cs t))) : wpList Tryz.prog ops Q (o :: rest) a w := by
  refine wpList_plain hg fun K hK => ?_
  unfold Oper.wp execOp
  have hz := (zero_of_info hi).1
  simp only [ho, Instr.alloc, Sem.run_bind, hz, Result.andThen_ok]
  exact hK _ _ h

theorem store_row {t : TypeId} {cs ds : Array Value} (n : Nat) (hi : (Tryz.prog.info? t).map (fun i => (i.zero, i.size)) = some (some (.agg ds), n)) (hc : cs.size = n) (hd : ds.size = n) (hne : cs.all (·.oneCell') = true) {ops : Array Oper} {rest : List Oper} {o : Oper} {a : Act} {w : World} {Q : Exit → Act → World → Prop} (hg : o.guard = none) (x y : Operand) (ho : o.op = .store t x y)
    (hx : a.eval x = .pointer (some ⟨w.heap.size, 0, none⟩)) (hy : a.eval y = .agg cs)
    (h : wpList Tryz.prog ops Q rest (a.put o.dst undef) (w.alloc (.cells cs t))) : wpList Tryz.prog ops Q (o :: rest) a (w.alloc (.cells ds t)) := by
  refine wpList_store_row hg t x y ho w.heap.size cs hx hy t ds (heap_alloc_last w _) ?_ (by rw [hc, hd]) hne ?_
  · rw [(zero_of_info hi).2, hc]
  · rw [World.setRow_alloc_new]; exact h

theorem names_at (j : Nat) (h : j < entL.length) : namesA[j]? = some (Value.string ⟨entL[j].1.toArray⟩) := by
  unfold namesA
  simp [h]
theorem nums_at (j : Nat) (h : j < entL.length) : numsA[j]? = some (Value.int .i64 (entL[j].2 : Int)) := by
  unfold numsA
  simp [h]

theorem entP_of (name : ByteArray) (k : Nat) (hk : k < entL.length) (h : entNum name.data.toList = ((entL.drop k).find? fun p => p.1 == name.data.toList).map (·.2)) (he : (entL[k].1 == name.data.toList) = true) : entP name = (((entL[k].2 : Nat) : Int), true) := by
  unfold entP
  rw [h, List.drop_eq_getElem_cons hk, List.find?_cons, he]; rfl
theorem ent_drop (name : ByteArray) (k : Nat) (hk : k < entL.length) (h : entNum name.data.toList = ((entL.drop k).find? fun p => p.1 == name.data.toList).map (·.2)) (he : (entL[k].1 == name.data.toList) = false) : entNum name.data.toList = ((entL.drop (k + 1)).find? fun p => p.1 == name.data.toList).map (·.2) := by
  rw [h, List.drop_eq_getElem_cons hk, List.find?_cons, he]

theorem ret_ib' {a : Int} {c : Bool} {p : Int × Bool} (h : p = (a, c)) : Ending.returned (.tuple #[.int .i64 a, .bool c]) = .returned (.tuple #[.int .i64 p.1, .bool p.2]) := by rw [h]

set_option maxHeartbeats 4000000 in
set_option maxRecDepth 100000 in
theorem r3Entity_calls (name : ByteArray) (w : World) :
    Calls Tryz.prog 73 #[.string name] w fun e w' => e = .returned (.tuple #[.int .i64 (entP name).1, .bool (entP name).2]) ∧ Below w.heap.size w w' := by
  go_enter Tryz.func73, Tryz.ntmps73
  go_upto_region 1 with (fail)
  refine wp_region_lit ?_
  refine build_row rfl (cs := namesA) _ rfl (by kernel_rfl) ?_
  refine alloc_row 53 infoNames rfl rfl ?_
  refine store_row 53 infoNames (by kernel_rfl) (by kernel_rfl) (by kernel_rfl) rfl _ _ rfl rfl rfl ?_
  have K1 := heap_alloc_last w (.cells namesA 93)
  have B1 := (Below.refl w.heap.size w).alloc (Nat.le_refl _) (.cells namesA 93)
  have z1 : (w.alloc (.cells namesA 93)).heap.size = w.heap.size + 1 := by simp
  generalize (w.alloc (.cells namesA 93)) = W1 at *
  go_upto_region 2 with (fail)
  refine wp_region_lit ?_
  refine build_row rfl (cs := numsA) _ rfl (by kernel_rfl) ?_
  refine alloc_row 53 infoNums rfl rfl ?_
  refine store_row 53 infoNums (by kernel_rfl) (by kernel_rfl) (by kernel_rfl) rfl _ _ rfl rfl rfl ?_
  have K2 := heap_alloc_last W1 (.cells numsA 94)
  have B2 := (Below.refl W1.heap.size W1).alloc (Nat.le_refl _) (.cells numsA 94)
  have K1' := below_block B2 (blk_lt K1) K1
  have B := B1.trans (B2.mono (by omega))
  generalize (W1.alloc (.cells numsA 94)) = W2 at *
  rw [z1] at K2
  have HK1 := Lib.hid K1'
  have HK2 := Lib.hid K2
  have HB := Lib.hid B
  clear K1 K1' K2 B B1 B2
  go_wp2_with fail
  go_loopw [6] (fun i wr => ∃ k : Nat, k ≤ 53 ∧ i = .int .i64 k ∧ Hid (entNum name.data.toList = ((entL.drop k).find? fun p => p.1 == name.data.toList).map (·.2)) ∧ wr = W2) (fun i _ => 53 - (RowKit.intOf i).toNat)
  case atStart => exact ⟨0, Nat.zero_le _, rfl, rfl, rfl⟩
  case round =>
    obtain ⟨k, hk, rfl, he, rfl⟩ := hrel
    by_cases hlt : k < 53
    · have hkl : k < entL.length := hlt
      have c1 := blk_cell HK1.out k
      rw [names_at k hkl] at c1
      have c2 := blk_cell HK2.out k
      rw [nums_at k hkl] at c2
      have hci : ((⟨entL[k].1.toArray⟩ : ByteArray).toList == name.toList) = (entL[k].1 == name.data.toList) := by
        rw [ByteArray.toList_eq, ByteArray.toList_eq]
      have hof := Lib.hid (entP_of name k hkl he.out)
      have hdr := Lib.hid (ent_drop name k hkl he.out)
      generalize (⟨entL[k].1.toArray⟩ : ByteArray) = sW at *
      generalize (entL[k].2 : Int) = V at *
      generalize (entL[k].1 == name.data.toList) = q at *
      cases q with
      | true =>
        have hr : Hid (entP name = (V, true)) := hof.out rfl
        clear hof hdr he
        go_wp2_with fail
        go_ret2
        exact ⟨ret_ib' hr.out, HB.out⟩
      | false =>
        have hr := Lib.hid (hdr.out rfl)
        clear hof hdr he
        go_wp2_with fail
        go_round
        case measure => simp [RowKit.intOf] <;> omega
        case rel => exact ⟨k + 1, by omega, by go_num, hr, trivial⟩
    · obtain rfl : k = 53 := by omega
      have hr : Hid (entP name = (0, false)) := by
        show _ = _
        unfold entP
        rw [he.out, List.drop_of_length_le (by decide)]; rfl
      clear he
      go_wp2_with fail
      go_ret2
      exact ⟨ret_ib' hr.out, HB.out⟩

end Go.Proofs.YtcpbljhogenjoaaGreatDoor
