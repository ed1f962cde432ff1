/- Walk: the reference's Block. -/
import Derived.Test.YtjaidphlphncjaaDoorTagKindPlain
import Derived.Test.YtjaidphlphncjaaDoorTagSmall
import Derived.BigQuiet
import Derived.Deep.QuietTactic
import Derived.Deep.LoopGhost
import Derived.Deep.DeepCutAuto
import Derived.Deep.WholeRow
import Derived.Laws.Tables
import Derived.Deep.CutBlock
import Derived.WalkSmall
namespace Go.Proofs.YtjaidphlphncjaaDoor
set_option linter.unusedVariables false
set_option linter.unusedSimpArgs false
open Go Go.RowKit Go.Lib

def wordsA : Array Value := (wordsL.map fun l => Value.string ⟨l.toArray⟩).toArray
def emptyA : Array Value := Array.replicate 52 (Value.string ⟨#[]⟩)

theorem infoWords : (Tryd.prog.info? 61).map (fun i => (i.zero, i.size)) = some (some (.agg emptyA), 52) := by kernel_rfl

theorem build_words {ops : Array Oper} {rest : List Oper} {o : Oper} {a : Act} {w : World} {Q : Exit → Act → World → Prop} (hg : o.guard = none) (parts : Array (Nat × Operand)) (ho : o.op = .build 61 parts)
    (hf : Tryd.prog.built 61 (parts.map fun (i, x) => (i, a.eval x)).toList = some wordsA)
    (h : wpList Tryd.prog ops Q rest (a.put o.dst (.agg wordsA)) w) : wpList Tryd.prog ops Q (o :: rest) a w :=
  wpList_build hg _ parts ho (by rw [hf]; rfl) (by rw [hf]; exact h)

theorem alloc_words {ops : Array Oper} {rest : List Oper} {o : Oper} {a : Act} {w : World} {Q : Exit → Act → World → Prop} (hg : o.guard = none) (ho : o.op = .alloc 61)
    (h : wpList Tryd.prog ops Q rest (a.put o.dst (.pointer (some ⟨w.heap.size, 0, none⟩))) (w.alloc (.cells emptyA 61))) : wpList Tryd.prog ops Q (o :: rest) a w := by
  refine wpList_plain hg fun K hK => ?_
  unfold Oper.wp execOp
  have hz := (zero_of_info infoWords).1
  simp only [ho, Instr.alloc, Sem.run_bind, hz, Result.andThen_ok]
  exact hK _ _ h

theorem store_words {ops : Array Oper} {rest : List Oper} {o : Oper} {a : Act} {w : World} {Q : Exit → Act → World → Prop} (hg : o.guard = none) (x y : Operand) (ho : o.op = .store 61 x y)
    (hx : a.eval x = .pointer (some ⟨w.heap.size, 0, none⟩)) (hy : a.eval y = .agg wordsA)
    (h : wpList Tryd.prog ops Q rest (a.put o.dst undef) (w.alloc (.cells wordsA 61))) : wpList Tryd.prog ops Q (o :: rest) a (w.alloc (.cells emptyA 61)) := by
  refine wpList_store_row hg 61 x y ho w.heap.size wordsA hx hy 61 emptyA (heap_alloc_last w _) ?_ rfl (by kernel_rfl) ?_
  · rw [(zero_of_info infoWords).2]; rfl
  · rw [World.setRow_alloc_new]; exact h

theorem Own.of_heap {B : Nat} {v : Value} {l : List UInt8} {w w' : World} (h : Own B v l w) (he : w'.heap = w.heap) : Own B v l w' := by
  obtain ⟨⟨h1, h2⟩, h3⟩ := h
  refine ⟨⟨h1, ?_⟩, h3⟩
  rw [he]; exact h2

theorem words_at (j : Nat) (h : j < wordsL.length) : wordsA[j]? = some (Value.string ⟨wordsL[j].toArray⟩) := by
  unfold wordsA
  simp [h]

theorem words_step (t : ByteArray) (j : Nat) (h : j < wordsL.length) (hr : refBlockF t = (decide (t.size < 20) && (wordsL.drop j).contains (t.data.toList.map lowU))) :
    refBlockF t = ((wordsL[j] == (t.data.toList.take 20).map lowU) && decide (t.size < 20) || (decide (t.size < 20) && (wordsL.drop (j + 1)).contains (t.data.toList.map lowU))) := by
  rw [hr, List.drop_eq_getElem_cons h, List.contains_cons]
  by_cases hs : t.size < 20
  · rw [List.take_of_length_le (by rw [lst_size]; omega), decide_eq_true hs]
    have : (t.data.toList.map lowU == wordsL[j]) = (wordsL[j] == t.data.toList.map lowU) := by
      rw [Bool.eq_iff_iff, beq_iff_eq, beq_iff_eq]; exact ⟨fun e => e.symm, fun e => e.symm⟩
    rw [this]; simp
  · rw [decide_eq_false hs]; simp

set_option maxHeartbeats 4000000 in
set_option maxRecDepth 100000 in
theorem refBlock_calls (t : ByteArray) (w : World) (hs : t.size ≤ 1000000) :
    Calls Tryd.prog 37 #[.string t] w fun e w' => e = .returned (.bool (refBlockF t)) ∧ Below w.heap.size w w' := by
  go_enter Tryd.func37, Tryd.ntmps37
  go_upto_region 1 with (fail)
  refine wp_region_lit ?_
  refine build_words rfl _ rfl (by kernel_rfl) ?_
  refine alloc_words rfl rfl ?_
  refine store_words rfl _ _ rfl rfl rfl ?_
  have hb1 : Hid ((w.alloc (.cells wordsA 61)).heap[w.heap.size]? = some (.cells wordsA 61)) := heap_alloc_last w _
  have hB1 := (Below.refl w.heap.size w).alloc (Nat.le_refl _) (.cells wordsA 61)
  have hz1 : Hid (w.heap.size + 1 = (w.alloc (.cells wordsA 61)).heap.size) := by show _ = _; simp
  have HB1 := Lib.hid hB1
  clear hB1
  generalize (w.alloc (.cells wordsA 61)) = W1 at *
  generalize hwb : w.heap.size = b at *
  have HWB := Lib.hid hwb
  clear hwb
  have hB2 : Below (b + 1) W1 W1 := Below.refl _ _
  have z1 : b + 1 ≤ W1.heap.size := by have := hz1.out; omega
  clear hz1
  go_upto_region 3 with (fail)
  have hO := Own.new (b + 1) W1 z1
  have hW2 := hB2.alloc z1 (.cells #[] 5)
  generalize (W1.alloc (.cells #[] 5)) = W2 at *
  generalize Value.slice (some { block := W1.heap.size, off := 0 }) 0 0 = v0 at *
  go_upto_block 0 with (fail)
  go_cut [4] (fun v wx => Aside (Own (b + 1) v ((t.data.toList.take 20).map lowU) wx) ∧ Below (b + 1) W1 wx)
  case first =>
    go_wp2_with fail
    go_loopg [4, 5] 20 (fun gk v i wr => ∃ k : Nat, Aside (gk + k = 20) ∧ k ≤ t.size ∧ k ≤ 20 ∧ i = .int .i64 k ∧ Aside (Own (b + 1) v ((t.data.toList.take k).map lowU) wr) ∧ Below (b + 1) W1 wr)
    case atStart => exact ⟨0, rfl, Nat.zero_le _, Nat.zero_le _, rfl, hO, hW2⟩
    case round =>
      obtain ⟨k, hgk, hk, hk2, rfl, hOw, hL⟩ := hrel
      clear hO hW2 hB2
      have zL := hL.size
      by_cases hlt : k < t.size
      · by_cases hlt2 : k < 20
        · have HR := Lib.hid (take_map_snoc lowU t k hlt)
          have hll : ((t.data.toList.take k).map lowU).length ≤ 1000000 := by rw [List.length_map, List.length_take, lst_size]; omega
          have d2 : decide ((k : Int) < 20) = true := decide_eq_true (by omega)
          by_cases h1 : 65 ≤ (t[k].toNat : Int)
          · by_cases h2 : (t[k].toNat : Int) ≤ 90
            · have hy := low_yes _ h1 h2
              have ez := IntWalk.u8_in ((t[k].toNat : Int) + 32) (by omega)
              go_wp2_with (at_builtin; refine append_byte rfl (.tmp 31) (.tmp 33) rfl (b + 1) _ _ (lowU t[k]) _ wr (by rw [← hy]) rfl hOw.out rfl hll (by omega) ?_; intro v' w' hO' hB' _)
              go_roundg (20 - (k + 1))
              case measure => have := hgk.out; omega
              case rel => exact ⟨k + 1, by show _ = _; omega, by omega, by omega, by go_num, by rw [← HR.out]; exact hO', hL.trans hB'⟩
            · have hy := low_no2 _ h2
              go_wp2_with (at_builtin; refine append_byte rfl (.tmp 31) (.tmp 33) rfl (b + 1) _ _ (lowU t[k]) _ wr (by rw [hy]) rfl hOw.out rfl hll (by omega) ?_; intro v' w' hO' hB' _)
              go_roundg (20 - (k + 1))
              case measure => have := hgk.out; omega
              case rel => exact ⟨k + 1, by show _ = _; omega, by omega, by omega, by go_num, by rw [← HR.out]; exact hO', hL.trans hB'⟩
          · have hy := low_no1 _ h1
            go_wp2_with (at_builtin; refine append_byte rfl (.tmp 31) (.tmp 33) rfl (b + 1) _ _ (lowU t[k]) _ wr (by rw [hy]) rfl hOw.out rfl hll (by omega) ?_; intro v' w' hO' hB' _)
            go_roundg (20 - (k + 1))
            case measure => have := hgk.out; omega
            case rel => exact ⟨k + 1, by show _ = _; omega, by omega, by omega, by go_num, by rw [← HR.out]; exact hO', hL.trans hB'⟩
        · have d2 : decide ((k : Int) < 20) = false := decide_eq_false (by omega)
          obtain rfl : k = 20 := by omega
          go_wp2_with fail
          go_meet
          exact ⟨hOw, hL⟩
      · have hE : t.data.toList.take k = t.data.toList.take 20 := by rw [List.take_of_length_le (by rw [lst_size]; omega), List.take_of_length_le (by rw [lst_size]; omega)]
        have hO3 := Lib.hid hOw.out
        rw [hE] at hO3
        clear hE hOw
        go_wp2_with fail
        go_meet
        exact ⟨hO3, hL⟩
  case rest =>
    obtain ⟨hOw, hL⟩ := hcut
    clear hO hW2 hB2
    go_wp2_with fail
    have hL0 := hL
    go_loopg [7] 52 (fun gk i wr => ∃ j : Nat, Aside (gk + j = 52) ∧ j ≤ 52 ∧ i = .int .i64 j ∧ Hid (refBlockF t = (decide (t.size < 20) && (wordsL.drop j).contains (t.data.toList.map lowU))) ∧ Aside (wr.heap = wc.heap) ∧ Below (b + 1) W1 wr)
    case atStart => exact ⟨0, rfl, Nat.zero_le _, rfl, rfl, rfl, hL0⟩
    case round =>
      obtain ⟨j, hgj, hj, rfl, hr, hhe, hL⟩ := hrel
      clear hL0
      by_cases hlt : j < 52
      · have hjl : j < wordsL.length := hlt
        have hst := Lib.hid (words_step t j hjl hr.out)
        obtain ⟨g, c, hv⟩ := hOw.out.2
        have hO3 := hOw.out.of_heap hhe.out
        have htx : ∀ n, (convert 27 9 u4).run Tryd.prog (wr.drewN n) = .ok (.string ⟨((t.data.toList.take 20).map lowU).toArray⟩) (wr.drewN n) := by
          intro n
          have h4 := hO3.of_heap (w' := wr.drewN n) (by simp)
          rw [hv] at h4
          have := text_of h4
          rw [← hv] at this
          exact this
        have hbk : wr.heap[b]? = some (.cells wordsA 61) := (hL.block b (by omega)).trans hb1.out
        have hce := blk_cell hbk j
        rw [words_at j hjl] at hce
        have hci : ((⟨wordsL[j].toArray⟩ : ByteArray).toList == (⟨((t.data.toList.take 20).map lowU).toArray⟩ : ByteArray).toList) = (wordsL[j] == (t.data.toList.take 20).map lowU) := by
          rw [ByteArray.toList_eq, ByteArray.toList_eq]
        generalize (⟨wordsL[j].toArray⟩ : ByteArray) = sW at *
        generalize (⟨((t.data.toList.take 20).map lowU).toArray⟩ : ByteArray) = sL at *
        generalize (wordsL[j] == (t.data.toList.take 20).map lowU) = q at *
        clear hbk hO3 hv hjl
        by_cases hs20 : t.size < 20
        · have d4 : decide ((t.size : Int) < 20) = true := decide_eq_true (by omega)
          have HS := Lib.hid (decide_eq_true hs20)
          clear hs20
          cases q with
          | true =>
            have hrr : Hid (refBlockF t = true) := by show _ = _; rw [hst.out, HS.out]; rfl
            clear hst hr
            go_upto_region 13 with (fail)
            go_quiet (fail)
            go_wp2_with fail
            go_ret
            exact ⟨ret_bool hrr.out.symm, HWB.out ▸ HB1.out.trans ((below_drewN hL _).mono (Nat.le_succ b))⟩
          | false =>
            have hrr : Hid (refBlockF t = (decide (t.size < 20) && (wordsL.drop (j + 1)).contains (t.data.toList.map lowU))) := by show _ = _; rw [hst.out]; simp
            clear hst hr
            go_upto_region 13 with (fail)
            go_quiet (fail)
            go_wp2_with fail
            go_roundg (52 - (j + 1))
            case measure => have := hgj.out; omega
            case rel => exact ⟨j + 1, by show _ = _; omega, by omega, by go_num, hrr, (by show _ = _; simp; exact hhe.out), below_drewN hL _⟩
        · have d4 : decide ((t.size : Int) < 20) = false := decide_eq_false (by omega)
          have hrr : Hid (refBlockF t = (decide (t.size < 20) && (wordsL.drop (j + 1)).contains (t.data.toList.map lowU))) := by show _ = _; rw [hst.out, decide_eq_false hs20]; simp
          clear hst hr hs20
          cases q with
          | true =>
            go_upto_region 13 with (fail)
            go_quiet (fail)
            go_wp2_with fail
            go_roundg (52 - (j + 1))
            case measure => have := hgj.out; omega
            case rel => exact ⟨j + 1, by show _ = _; omega, by omega, by go_num, hrr, (by show _ = _; simp; exact hhe.out), below_drewN hL _⟩
          | false =>
            go_upto_region 13 with (fail)
            go_quiet (fail)
            go_wp2_with fail
            go_roundg (52 - (j + 1))
            case measure => have := hgj.out; omega
            case rel => exact ⟨j + 1, by show _ = _; omega, by omega, by go_num, hrr, (by show _ = _; simp; exact hhe.out), below_drewN hL _⟩
      · obtain rfl : j = 52 := by omega
        have hrr : Hid (refBlockF t = false) := by
          show _ = _; rw [hr.out, List.drop_of_length_le (by decide)]; simp
        clear hr
        go_wp2_with fail
        go_ret
        exact ⟨ret_bool hrr.out.symm, HWB.out ▸ HB1.out.trans (hL.mono (Nat.le_succ b))⟩

end Go.Proofs.YtjaidphlphncjaaDoor
