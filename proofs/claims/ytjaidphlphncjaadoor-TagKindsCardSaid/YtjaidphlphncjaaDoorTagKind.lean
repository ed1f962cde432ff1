/- Walks: tag's name, verbatim; class.Block. -/
import Derived.Test.YtjaidphlphncjaaDoorTagEnds
import Derived.Lib.Fold
import Derived.Lib.MapLaws
import Derived.Laws.Concat
namespace Go.Proofs.YtjaidphlphncjaaDoor
set_option linter.unusedVariables false
set_option linter.unusedSimpArgs false
open Go Go.RowKit Go.Lib

set_option maxHeartbeats 1000000 in
theorem name_calls (s : ByteArray) (w : World) (hs : s.size ≤ 1000000) :
    Calls Tryd.prog 29 #[.string s] w fun e w' => e = .returned (.tuple #[.string (s.extract 0 (lead s wordT)), .string (cutL s wordT)]) ∧ Below w.heap.size w w' := by
  go_enter Tryd.func29, Tryd.ntmps29
  go_wp2_with fail
  have hB := (Below.refl w.heap.size w).alloc (Nat.le_refl _) (Obj.cells #[Value.string s] 40)
  have R : Rdr s w.heap.size (w.alloc (Obj.cells #[Value.string s] 40)) := heap_alloc_new w _
  generalize w.alloc (Obj.cells #[Value.string s] 40) = W at *
  refine (eat_calls s wordT w.heap.size W R hs (by decide) word_ascii).mono ?_
  rintro e w2 ⟨rfl, R2, O⟩
  have hB2 := hB.trans O.below
  have c2 := R2.cell
  clear R hB O R2
  obtain ⟨u, hu⟩ : ∃ u, cutL s wordT = u := ⟨_, rfl⟩
  rw [hu] at c2
  have HU := Lib.hid hu
  clear hu
  go_wp2_with fail
  go_quiet (fail)
  go_wp2_with fail
  go_ret2
  exact ⟨by rw [HU.out]; rfl, below_drewN hB2 _⟩

theorem verbatim_ascii : ∀ l ∈ [[112, 114, 101], [115, 99, 114, 105, 112, 116], [115, 116, 121, 108, 101], [116, 101, 120, 116, 97, 114, 101, 97]], ∀ c ∈ (l : List UInt8), c.toNat < 128 := by decide

def sameF (p : List UInt8) (t : ByteArray) : Bool := Lib.equalFold p t.data.toList && decide (p.length = t.size)
def verbF (t : ByteArray) : Bool := sameF [112, 114, 101] t || (sameF [115, 99, 114, 105, 112, 116] t || (sameF [115, 116, 121, 108, 101] t || sameF [116, 101, 120, 116, 97, 114, 101, 97] t))

theorem low_ascii (l : List UInt8) (h : ∀ c ∈ l, c.toNat < 128) : ∀ (j : Nat) b, l[j]? = some b → b.toNat < 128 := fun j b hb => h b (List.mem_of_getElem? hb)

set_option maxHeartbeats 4000000 in
set_option maxRecDepth 100000 in
theorem verbatim_calls (t : ByteArray) (w : World) (ht : t.size ≤ 1000000) (hA : ∀ c ∈ t.data.toList, c.toNat < 128) :
    Calls Tryd.prog 30 #[.string t] w fun e w' => e = .returned (.bool (verbF t)) ∧ Below w.heap.size w w' := by
  have hv : Hid (verbF t = (sameF [112, 114, 101] t || (sameF [115, 99, 114, 105, 112, 116] t || (sameF [115, 116, 121, 108, 101] t || sameF [116, 101, 120, 116, 97, 114, 101, 97] t)))) := rfl
  have HA := Lib.hid (low_ascii _ hA)
  clear hA
  go_enter Tryd.func30, Tryd.ntmps30
  go_wp2_with fail
  refine wp_loop_rounds 6 ?_
  rw [rounds_succ]
  go_wp2_with fail
  have hB := (Below.refl w.heap.size w).alloc (Nat.le_refl _) (Obj.cells #[Value.string { data := #[112, 114, 101] }, Value.string { data := #[115, 99, 114, 105, 112, 116] }, Value.string { data := #[115, 116, 121, 108, 101] }, Value.string { data := #[116, 101, 120, 116, 97, 114, 101, 97] }] 9)
  have K := heap_alloc_new w (Obj.cells #[Value.string { data := #[112, 114, 101] }, Value.string { data := #[115, 99, 114, 105, 112, 116] }, Value.string { data := #[115, 116, 121, 108, 101] }, Value.string { data := #[116, 101, 120, 116, 97, 114, 101, 97] }] 9)
  generalize w.alloc (Obj.cells #[Value.string { data := #[112, 114, 101] }, Value.string { data := #[115, 99, 114, 105, 112, 116] }, Value.string { data := #[115, 116, 121, 108, 101] }, Value.string { data := #[116, 101, 120, 116, 97, 114, 101, 97] }] 9) = v0 at *
  have k1 := blk_cell K 1
  have k2 := blk_cell K 2
  have k3 := blk_cell K 3
  have kz := blk_lt K
  simp at k1 k2 k3
  clear K
  have hs0 : Hid (sameF [112, 114, 101] t = (Lib.equalFold [112, 114, 101] t.data.toList && decide (3 = t.size))) := rfl
  refine (Tryd.strings_EqualFold ⟨#[112, 114, 101]⟩ t _ (by decide) (low_ascii _ (by decide)) HA.out).mono ?_
  rintro e x0 ⟨rfl, rfl⟩
  rw [show (ByteArray.mk #[112, 114, 101]).data.toList = [112, 114, 101] from rfl]
  cases h0 : Lib.equalFold [112, 114, 101] t.data.toList with
  | true =>
    by_cases g0 : 3 = t.size
    · have d0 : ((3 : Int) == (t.size : Int)) = true := beq_iff_eq.2 (by omega)
      have r0 : Hid (sameF [112, 114, 101] t = true) := by show _ = _; rw [hs0.out, h0, decide_eq_true g0]; rfl
      clear g0
      go_wp2_with fail
      go_ret
      exact ⟨ret_bool (by rw [hv.out]; simp [r0.out]), hB⟩
    · have d0 : ((3 : Int) == (t.size : Int)) = false := beq_eq_false_iff_ne.2 (by omega)
      have r0 : Hid (sameF [112, 114, 101] t = false) := by show _ = _; rw [hs0.out, h0, decide_eq_false g0]; rfl
      clear g0 h0
      go_wp2_with fail
      have hs1 : Hid (sameF [115, 99, 114, 105, 112, 116] t = (Lib.equalFold [115, 99, 114, 105, 112, 116] t.data.toList && decide (6 = t.size))) := rfl
      rw [rounds_succ]
      go_wp2_with fail
      refine (Tryd.strings_EqualFold ⟨#[115, 99, 114, 105, 112, 116]⟩ t _ (by decide) (low_ascii _ (by decide)) HA.out).mono ?_
      rintro e x1 ⟨rfl, rfl⟩
      rw [show (ByteArray.mk #[115, 99, 114, 105, 112, 116]).data.toList = [115, 99, 114, 105, 112, 116] from rfl]
      cases h1 : Lib.equalFold [115, 99, 114, 105, 112, 116] t.data.toList with
      | true =>
        by_cases g1 : 6 = t.size
        · have d1 : ((6 : Int) == (t.size : Int)) = true := beq_iff_eq.2 (by omega)
          have r1 : Hid (sameF [115, 99, 114, 105, 112, 116] t = true) := by show _ = _; rw [hs1.out, h1, decide_eq_true g1]; rfl
          clear g1
          go_wp2_with fail
          go_ret
          exact ⟨ret_bool (by rw [hv.out]; simp [r0.out, r1.out]), hB⟩
        · have d1 : ((6 : Int) == (t.size : Int)) = false := beq_eq_false_iff_ne.2 (by omega)
          have r1 : Hid (sameF [115, 99, 114, 105, 112, 116] t = false) := by show _ = _; rw [hs1.out, h1, decide_eq_false g1]; rfl
          clear g1 h1
          go_wp2_with fail
          have hs2 : Hid (sameF [115, 116, 121, 108, 101] t = (Lib.equalFold [115, 116, 121, 108, 101] t.data.toList && decide (5 = t.size))) := rfl
          rw [rounds_succ]
          go_wp2_with fail
          refine (Tryd.strings_EqualFold ⟨#[115, 116, 121, 108, 101]⟩ t _ (by decide) (low_ascii _ (by decide)) HA.out).mono ?_
          rintro e x2 ⟨rfl, rfl⟩
          rw [show (ByteArray.mk #[115, 116, 121, 108, 101]).data.toList = [115, 116, 121, 108, 101] from rfl]
          cases h2 : Lib.equalFold [115, 116, 121, 108, 101] t.data.toList with
          | true =>
            by_cases g2 : 5 = t.size
            · have d2 : ((5 : Int) == (t.size : Int)) = true := beq_iff_eq.2 (by omega)
              have r2 : Hid (sameF [115, 116, 121, 108, 101] t = true) := by show _ = _; rw [hs2.out, h2, decide_eq_true g2]; rfl
              clear g2
              go_wp2_with fail
              go_ret
              exact ⟨ret_bool (by rw [hv.out]; simp [r0.out, r1.out, r2.out]), hB⟩
            · have d2 : ((5 : Int) == (t.size : Int)) = false := beq_eq_false_iff_ne.2 (by omega)
              have r2 : Hid (sameF [115, 116, 121, 108, 101] t = false) := by show _ = _; rw [hs2.out, h2, decide_eq_false g2]; rfl
              clear g2 h2
              go_wp2_with fail
              have hs3 : Hid (sameF [116, 101, 120, 116, 97, 114, 101, 97] t = (Lib.equalFold [116, 101, 120, 116, 97, 114, 101, 97] t.data.toList && decide (8 = t.size))) := rfl
              rw [rounds_succ]
              go_wp2_with fail
              refine (Tryd.strings_EqualFold ⟨#[116, 101, 120, 116, 97, 114, 101, 97]⟩ t _ (by decide) (low_ascii _ (by decide)) HA.out).mono ?_
              rintro e x3 ⟨rfl, rfl⟩
              rw [show (ByteArray.mk #[116, 101, 120, 116, 97, 114, 101, 97]).data.toList = [116, 101, 120, 116, 97, 114, 101, 97] from rfl]
              cases h3 : Lib.equalFold [116, 101, 120, 116, 97, 114, 101, 97] t.data.toList with
              | true =>
                by_cases g3 : 8 = t.size
                · have d3 : ((8 : Int) == (t.size : Int)) = true := beq_iff_eq.2 (by omega)
                  have r3 : Hid (sameF [116, 101, 120, 116, 97, 114, 101, 97] t = true) := by show _ = _; rw [hs3.out, h3, decide_eq_true g3]; rfl
                  clear g3
                  go_wp2_with fail
                  go_ret
                  exact ⟨ret_bool (by rw [hv.out]; simp [r0.out, r1.out, r2.out, r3.out]), hB⟩
                · have d3 : ((8 : Int) == (t.size : Int)) = false := beq_eq_false_iff_ne.2 (by omega)
                  have r3 : Hid (sameF [116, 101, 120, 116, 97, 114, 101, 97] t = false) := by show _ = _; rw [hs3.out, h3, decide_eq_false g3]; rfl
                  clear g3 h3
                  go_wp2_with fail
                  rw [rounds_succ]
                  go_wp2_with fail
                  go_ret
                  exact ⟨ret_bool (by rw [hv.out]; simp [r0.out, r1.out, r2.out, r3.out]), hB⟩
              | false =>
                have r3 : Hid (sameF [116, 101, 120, 116, 97, 114, 101, 97] t = false) := by show _ = _; rw [hs3.out, h3]; rfl
                clear h3
                go_wp2_with fail
                rw [rounds_succ]
                go_wp2_with fail
                go_ret
                exact ⟨ret_bool (by rw [hv.out]; simp [r0.out, r1.out, r2.out, r3.out]), hB⟩
          | false =>
            have r2 : Hid (sameF [115, 116, 121, 108, 101] t = false) := by show _ = _; rw [hs2.out, h2]; rfl
            clear h2
            go_wp2_with fail
            have hs3 : Hid (sameF [116, 101, 120, 116, 97, 114, 101, 97] t = (Lib.equalFold [116, 101, 120, 116, 97, 114, 101, 97] t.data.toList && decide (8 = t.size))) := rfl
            rw [rounds_succ]
            go_wp2_with fail
            refine (Tryd.strings_EqualFold ⟨#[116, 101, 120, 116, 97, 114, 101, 97]⟩ t _ (by decide) (low_ascii _ (by decide)) HA.out).mono ?_
            rintro e x3 ⟨rfl, rfl⟩
            rw [show (ByteArray.mk #[116, 101, 120, 116, 97, 114, 101, 97]).data.toList = [116, 101, 120, 116, 97, 114, 101, 97] from rfl]
            cases h3 : Lib.equalFold [116, 101, 120, 116, 97, 114, 101, 97] t.data.toList with
            | true =>
              by_cases g3 : 8 = t.size
              · have d3 : ((8 : Int) == (t.size : Int)) = true := beq_iff_eq.2 (by omega)
                have r3 : Hid (sameF [116, 101, 120, 116, 97, 114, 101, 97] t = true) := by show _ = _; rw [hs3.out, h3, decide_eq_true g3]; rfl
                clear g3
                go_wp2_with fail
                go_ret
                exact ⟨ret_bool (by rw [hv.out]; simp [r0.out, r1.out, r2.out, r3.out]), hB⟩
              · have d3 : ((8 : Int) == (t.size : Int)) = false := beq_eq_false_iff_ne.2 (by omega)
                have r3 : Hid (sameF [116, 101, 120, 116, 97, 114, 101, 97] t = false) := by show _ = _; rw [hs3.out, h3, decide_eq_false g3]; rfl
                clear g3 h3
                go_wp2_with fail
                rw [rounds_succ]
                go_wp2_with fail
                go_ret
                exact ⟨ret_bool (by rw [hv.out]; simp [r0.out, r1.out, r2.out, r3.out]), hB⟩
            | false =>
              have r3 : Hid (sameF [116, 101, 120, 116, 97, 114, 101, 97] t = false) := by show _ = _; rw [hs3.out, h3]; rfl
              clear h3
              go_wp2_with fail
              rw [rounds_succ]
              go_wp2_with fail
              go_ret
              exact ⟨ret_bool (by rw [hv.out]; simp [r0.out, r1.out, r2.out, r3.out]), hB⟩
      | false =>
        have r1 : Hid (sameF [115, 99, 114, 105, 112, 116] t = false) := by show _ = _; rw [hs1.out, h1]; rfl
        clear h1
        go_wp2_with fail
        have hs2 : Hid (sameF [115, 116, 121, 108, 101] t = (Lib.equalFold [115, 116, 121, 108, 101] t.data.toList && decide (5 = t.size))) := rfl
        rw [rounds_succ]
        go_wp2_with fail
        refine (Tryd.strings_EqualFold ⟨#[115, 116, 121, 108, 101]⟩ t _ (by decide) (low_ascii _ (by decide)) HA.out).mono ?_
        rintro e x2 ⟨rfl, rfl⟩
        rw [show (ByteArray.mk #[115, 116, 121, 108, 101]).data.toList = [115, 116, 121, 108, 101] from rfl]
        cases h2 : Lib.equalFold [115, 116, 121, 108, 101] t.data.toList with
        | true =>
          by_cases g2 : 5 = t.size
          · have d2 : ((5 : Int) == (t.size : Int)) = true := beq_iff_eq.2 (by omega)
            have r2 : Hid (sameF [115, 116, 121, 108, 101] t = true) := by show _ = _; rw [hs2.out, h2, decide_eq_true g2]; rfl
            clear g2
            go_wp2_with fail
            go_ret
            exact ⟨ret_bool (by rw [hv.out]; simp [r0.out, r1.out, r2.out]), hB⟩
          · have d2 : ((5 : Int) == (t.size : Int)) = false := beq_eq_false_iff_ne.2 (by omega)
            have r2 : Hid (sameF [115, 116, 121, 108, 101] t = false) := by show _ = _; rw [hs2.out, h2, decide_eq_false g2]; rfl
            clear g2 h2
            go_wp2_with fail
            have hs3 : Hid (sameF [116, 101, 120, 116, 97, 114, 101, 97] t = (Lib.equalFold [116, 101, 120, 116, 97, 114, 101, 97] t.data.toList && decide (8 = t.size))) := rfl
            rw [rounds_succ]
            go_wp2_with fail
            refine (Tryd.strings_EqualFold ⟨#[116, 101, 120, 116, 97, 114, 101, 97]⟩ t _ (by decide) (low_ascii _ (by decide)) HA.out).mono ?_
            rintro e x3 ⟨rfl, rfl⟩
            rw [show (ByteArray.mk #[116, 101, 120, 116, 97, 114, 101, 97]).data.toList = [116, 101, 120, 116, 97, 114, 101, 97] from rfl]
            cases h3 : Lib.equalFold [116, 101, 120, 116, 97, 114, 101, 97] t.data.toList with
            | true =>
              by_cases g3 : 8 = t.size
              · have d3 : ((8 : Int) == (t.size : Int)) = true := beq_iff_eq.2 (by omega)
                have r3 : Hid (sameF [116, 101, 120, 116, 97, 114, 101, 97] t = true) := by show _ = _; rw [hs3.out, h3, decide_eq_true g3]; rfl
                clear g3
                go_wp2_with fail
                go_ret
                exact ⟨ret_bool (by rw [hv.out]; simp [r0.out, r1.out, r2.out, r3.out]), hB⟩
              · have d3 : ((8 : Int) == (t.size : Int)) = false := beq_eq_false_iff_ne.2 (by omega)
                have r3 : Hid (sameF [116, 101, 120, 116, 97, 114, 101, 97] t = false) := by show _ = _; rw [hs3.out, h3, decide_eq_false g3]; rfl
                clear g3 h3
                go_wp2_with fail
                rw [rounds_succ]
                go_wp2_with fail
                go_ret
                exact ⟨ret_bool (by rw [hv.out]; simp [r0.out, r1.out, r2.out, r3.out]), hB⟩
            | false =>
              have r3 : Hid (sameF [116, 101, 120, 116, 97, 114, 101, 97] t = false) := by show _ = _; rw [hs3.out, h3]; rfl
              clear h3
              go_wp2_with fail
              rw [rounds_succ]
              go_wp2_with fail
              go_ret
              exact ⟨ret_bool (by rw [hv.out]; simp [r0.out, r1.out, r2.out, r3.out]), hB⟩
        | false =>
          have r2 : Hid (sameF [115, 116, 121, 108, 101] t = false) := by show _ = _; rw [hs2.out, h2]; rfl
          clear h2
          go_wp2_with fail
          have hs3 : Hid (sameF [116, 101, 120, 116, 97, 114, 101, 97] t = (Lib.equalFold [116, 101, 120, 116, 97, 114, 101, 97] t.data.toList && decide (8 = t.size))) := rfl
          rw [rounds_succ]
          go_wp2_with fail
          refine (Tryd.strings_EqualFold ⟨#[116, 101, 120, 116, 97, 114, 101, 97]⟩ t _ (by decide) (low_ascii _ (by decide)) HA.out).mono ?_
          rintro e x3 ⟨rfl, rfl⟩
          rw [show (ByteArray.mk #[116, 101, 120, 116, 97, 114, 101, 97]).data.toList = [116, 101, 120, 116, 97, 114, 101, 97] from rfl]
          cases h3 : Lib.equalFold [116, 101, 120, 116, 97, 114, 101, 97] t.data.toList with
          | true =>
            by_cases g3 : 8 = t.size
            · have d3 : ((8 : Int) == (t.size : Int)) = true := beq_iff_eq.2 (by omega)
              have r3 : Hid (sameF [116, 101, 120, 116, 97, 114, 101, 97] t = true) := by show _ = _; rw [hs3.out, h3, decide_eq_true g3]; rfl
              clear g3
              go_wp2_with fail
              go_ret
              exact ⟨ret_bool (by rw [hv.out]; simp [r0.out, r1.out, r2.out, r3.out]), hB⟩
            · have d3 : ((8 : Int) == (t.size : Int)) = false := beq_eq_false_iff_ne.2 (by omega)
              have r3 : Hid (sameF [116, 101, 120, 116, 97, 114, 101, 97] t = false) := by show _ = _; rw [hs3.out, h3, decide_eq_false g3]; rfl
              clear g3 h3
              go_wp2_with fail
              rw [rounds_succ]
              go_wp2_with fail
              go_ret
              exact ⟨ret_bool (by rw [hv.out]; simp [r0.out, r1.out, r2.out, r3.out]), hB⟩
          | false =>
            have r3 : Hid (sameF [116, 101, 120, 116, 97, 114, 101, 97] t = false) := by show _ = _; rw [hs3.out, h3]; rfl
            clear h3
            go_wp2_with fail
            rw [rounds_succ]
            go_wp2_with fail
            go_ret
            exact ⟨ret_bool (by rw [hv.out]; simp [r0.out, r1.out, r2.out, r3.out]), hB⟩
  | false =>
    have r0 : Hid (sameF [112, 114, 101] t = false) := by show _ = _; rw [hs0.out, h0]; rfl
    clear h0
    go_wp2_with fail
    have hs1 : Hid (sameF [115, 99, 114, 105, 112, 116] t = (Lib.equalFold [115, 99, 114, 105, 112, 116] t.data.toList && decide (6 = t.size))) := rfl
    rw [rounds_succ]
    go_wp2_with fail
    refine (Tryd.strings_EqualFold ⟨#[115, 99, 114, 105, 112, 116]⟩ t _ (by decide) (low_ascii _ (by decide)) HA.out).mono ?_
    rintro e x1 ⟨rfl, rfl⟩
    rw [show (ByteArray.mk #[115, 99, 114, 105, 112, 116]).data.toList = [115, 99, 114, 105, 112, 116] from rfl]
    cases h1 : Lib.equalFold [115, 99, 114, 105, 112, 116] t.data.toList with
    | true =>
      by_cases g1 : 6 = t.size
      · have d1 : ((6 : Int) == (t.size : Int)) = true := beq_iff_eq.2 (by omega)
        have r1 : Hid (sameF [115, 99, 114, 105, 112, 116] t = true) := by show _ = _; rw [hs1.out, h1, decide_eq_true g1]; rfl
        clear g1
        go_wp2_with fail
        go_ret
        exact ⟨ret_bool (by rw [hv.out]; simp [r0.out, r1.out]), hB⟩
      · have d1 : ((6 : Int) == (t.size : Int)) = false := beq_eq_false_iff_ne.2 (by omega)
        have r1 : Hid (sameF [115, 99, 114, 105, 112, 116] t = false) := by show _ = _; rw [hs1.out, h1, decide_eq_false g1]; rfl
        clear g1 h1
        go_wp2_with fail
        have hs2 : Hid (sameF [115, 116, 121, 108, 101] t = (Lib.equalFold [115, 116, 121, 108, 101] t.data.toList && decide (5 = t.size))) := rfl
        rw [rounds_succ]
        go_wp2_with fail
        refine (Tryd.strings_EqualFold ⟨#[115, 116, 121, 108, 101]⟩ t _ (by decide) (low_ascii _ (by decide)) HA.out).mono ?_
        rintro e x2 ⟨rfl, rfl⟩
        rw [show (ByteArray.mk #[115, 116, 121, 108, 101]).data.toList = [115, 116, 121, 108, 101] from rfl]
        cases h2 : Lib.equalFold [115, 116, 121, 108, 101] t.data.toList with
        | true =>
          by_cases g2 : 5 = t.size
          · have d2 : ((5 : Int) == (t.size : Int)) = true := beq_iff_eq.2 (by omega)
            have r2 : Hid (sameF [115, 116, 121, 108, 101] t = true) := by show _ = _; rw [hs2.out, h2, decide_eq_true g2]; rfl
            clear g2
            go_wp2_with fail
            go_ret
            exact ⟨ret_bool (by rw [hv.out]; simp [r0.out, r1.out, r2.out]), hB⟩
          · have d2 : ((5 : Int) == (t.size : Int)) = false := beq_eq_false_iff_ne.2 (by omega)
            have r2 : Hid (sameF [115, 116, 121, 108, 101] t = false) := by show _ = _; rw [hs2.out, h2, decide_eq_false g2]; rfl
            clear g2 h2
            go_wp2_with fail
            have hs3 : Hid (sameF [116, 101, 120, 116, 97, 114, 101, 97] t = (Lib.equalFold [116, 101, 120, 116, 97, 114, 101, 97] t.data.toList && decide (8 = t.size))) := rfl
            rw [rounds_succ]
            go_wp2_with fail
            refine (Tryd.strings_EqualFold ⟨#[116, 101, 120, 116, 97, 114, 101, 97]⟩ t _ (by decide) (low_ascii _ (by decide)) HA.out).mono ?_
            rintro e x3 ⟨rfl, rfl⟩
            rw [show (ByteArray.mk #[116, 101, 120, 116, 97, 114, 101, 97]).data.toList = [116, 101, 120, 116, 97, 114, 101, 97] from rfl]
            cases h3 : Lib.equalFold [116, 101, 120, 116, 97, 114, 101, 97] t.data.toList with
            | true =>
              by_cases g3 : 8 = t.size
              · have d3 : ((8 : Int) == (t.size : Int)) = true := beq_iff_eq.2 (by omega)
                have r3 : Hid (sameF [116, 101, 120, 116, 97, 114, 101, 97] t = true) := by show _ = _; rw [hs3.out, h3, decide_eq_true g3]; rfl
                clear g3
                go_wp2_with fail
                go_ret
                exact ⟨ret_bool (by rw [hv.out]; simp [r0.out, r1.out, r2.out, r3.out]), hB⟩
              · have d3 : ((8 : Int) == (t.size : Int)) = false := beq_eq_false_iff_ne.2 (by omega)
                have r3 : Hid (sameF [116, 101, 120, 116, 97, 114, 101, 97] t = false) := by show _ = _; rw [hs3.out, h3, decide_eq_false g3]; rfl
                clear g3 h3
                go_wp2_with fail
                rw [rounds_succ]
                go_wp2_with fail
                go_ret
                exact ⟨ret_bool (by rw [hv.out]; simp [r0.out, r1.out, r2.out, r3.out]), hB⟩
            | false =>
              have r3 : Hid (sameF [116, 101, 120, 116, 97, 114, 101, 97] t = false) := by show _ = _; rw [hs3.out, h3]; rfl
              clear h3
              go_wp2_with fail
              rw [rounds_succ]
              go_wp2_with fail
              go_ret
              exact ⟨ret_bool (by rw [hv.out]; simp [r0.out, r1.out, r2.out, r3.out]), hB⟩
        | false =>
          have r2 : Hid (sameF [115, 116, 121, 108, 101] t = false) := by show _ = _; rw [hs2.out, h2]; rfl
          clear h2
          go_wp2_with fail
          have hs3 : Hid (sameF [116, 101, 120, 116, 97, 114, 101, 97] t = (Lib.equalFold [116, 101, 120, 116, 97, 114, 101, 97] t.data.toList && decide (8 = t.size))) := rfl
          rw [rounds_succ]
          go_wp2_with fail
          refine (Tryd.strings_EqualFold ⟨#[116, 101, 120, 116, 97, 114, 101, 97]⟩ t _ (by decide) (low_ascii _ (by decide)) HA.out).mono ?_
          rintro e x3 ⟨rfl, rfl⟩
          rw [show (ByteArray.mk #[116, 101, 120, 116, 97, 114, 101, 97]).data.toList = [116, 101, 120, 116, 97, 114, 101, 97] from rfl]
          cases h3 : Lib.equalFold [116, 101, 120, 116, 97, 114, 101, 97] t.data.toList with
          | true =>
            by_cases g3 : 8 = t.size
            · have d3 : ((8 : Int) == (t.size : Int)) = true := beq_iff_eq.2 (by omega)
              have r3 : Hid (sameF [116, 101, 120, 116, 97, 114, 101, 97] t = true) := by show _ = _; rw [hs3.out, h3, decide_eq_true g3]; rfl
              clear g3
              go_wp2_with fail
              go_ret
              exact ⟨ret_bool (by rw [hv.out]; simp [r0.out, r1.out, r2.out, r3.out]), hB⟩
            · have d3 : ((8 : Int) == (t.size : Int)) = false := beq_eq_false_iff_ne.2 (by omega)
              have r3 : Hid (sameF [116, 101, 120, 116, 97, 114, 101, 97] t = false) := by show _ = _; rw [hs3.out, h3, decide_eq_false g3]; rfl
              clear g3 h3
              go_wp2_with fail
              rw [rounds_succ]
              go_wp2_with fail
              go_ret
              exact ⟨ret_bool (by rw [hv.out]; simp [r0.out, r1.out, r2.out, r3.out]), hB⟩
          | false =>
            have r3 : Hid (sameF [116, 101, 120, 116, 97, 114, 101, 97] t = false) := by show _ = _; rw [hs3.out, h3]; rfl
            clear h3
            go_wp2_with fail
            rw [rounds_succ]
            go_wp2_with fail
            go_ret
            exact ⟨ret_bool (by rw [hv.out]; simp [r0.out, r1.out, r2.out, r3.out]), hB⟩
    | false =>
      have r1 : Hid (sameF [115, 99, 114, 105, 112, 116] t = false) := by show _ = _; rw [hs1.out, h1]; rfl
      clear h1
      go_wp2_with fail
      have hs2 : Hid (sameF [115, 116, 121, 108, 101] t = (Lib.equalFold [115, 116, 121, 108, 101] t.data.toList && decide (5 = t.size))) := rfl
      rw [rounds_succ]
      go_wp2_with fail
      refine (Tryd.strings_EqualFold ⟨#[115, 116, 121, 108, 101]⟩ t _ (by decide) (low_ascii _ (by decide)) HA.out).mono ?_
      rintro e x2 ⟨rfl, rfl⟩
      rw [show (ByteArray.mk #[115, 116, 121, 108, 101]).data.toList = [115, 116, 121, 108, 101] from rfl]
      cases h2 : Lib.equalFold [115, 116, 121, 108, 101] t.data.toList with
      | true =>
        by_cases g2 : 5 = t.size
        · have d2 : ((5 : Int) == (t.size : Int)) = true := beq_iff_eq.2 (by omega)
          have r2 : Hid (sameF [115, 116, 121, 108, 101] t = true) := by show _ = _; rw [hs2.out, h2, decide_eq_true g2]; rfl
          clear g2
          go_wp2_with fail
          go_ret
          exact ⟨ret_bool (by rw [hv.out]; simp [r0.out, r1.out, r2.out]), hB⟩
        · have d2 : ((5 : Int) == (t.size : Int)) = false := beq_eq_false_iff_ne.2 (by omega)
          have r2 : Hid (sameF [115, 116, 121, 108, 101] t = false) := by show _ = _; rw [hs2.out, h2, decide_eq_false g2]; rfl
          clear g2 h2
          go_wp2_with fail
          have hs3 : Hid (sameF [116, 101, 120, 116, 97, 114, 101, 97] t = (Lib.equalFold [116, 101, 120, 116, 97, 114, 101, 97] t.data.toList && decide (8 = t.size))) := rfl
          rw [rounds_succ]
          go_wp2_with fail
          refine (Tryd.strings_EqualFold ⟨#[116, 101, 120, 116, 97, 114, 101, 97]⟩ t _ (by decide) (low_ascii _ (by decide)) HA.out).mono ?_
          rintro e x3 ⟨rfl, rfl⟩
          rw [show (ByteArray.mk #[116, 101, 120, 116, 97, 114, 101, 97]).data.toList = [116, 101, 120, 116, 97, 114, 101, 97] from rfl]
          cases h3 : Lib.equalFold [116, 101, 120, 116, 97, 114, 101, 97] t.data.toList with
          | true =>
            by_cases g3 : 8 = t.size
            · have d3 : ((8 : Int) == (t.size : Int)) = true := beq_iff_eq.2 (by omega)
              have r3 : Hid (sameF [116, 101, 120, 116, 97, 114, 101, 97] t = true) := by show _ = _; rw [hs3.out, h3, decide_eq_true g3]; rfl
              clear g3
              go_wp2_with fail
              go_ret
              exact ⟨ret_bool (by rw [hv.out]; simp [r0.out, r1.out, r2.out, r3.out]), hB⟩
            · have d3 : ((8 : Int) == (t.size : Int)) = false := beq_eq_false_iff_ne.2 (by omega)
              have r3 : Hid (sameF [116, 101, 120, 116, 97, 114, 101, 97] t = false) := by show _ = _; rw [hs3.out, h3, decide_eq_false g3]; rfl
              clear g3 h3
              go_wp2_with fail
              rw [rounds_succ]
              go_wp2_with fail
              go_ret
              exact ⟨ret_bool (by rw [hv.out]; simp [r0.out, r1.out, r2.out, r3.out]), hB⟩
          | false =>
            have r3 : Hid (sameF [116, 101, 120, 116, 97, 114, 101, 97] t = false) := by show _ = _; rw [hs3.out, h3]; rfl
            clear h3
            go_wp2_with fail
            rw [rounds_succ]
            go_wp2_with fail
            go_ret
            exact ⟨ret_bool (by rw [hv.out]; simp [r0.out, r1.out, r2.out, r3.out]), hB⟩
      | false =>
        have r2 : Hid (sameF [115, 116, 121, 108, 101] t = false) := by show _ = _; rw [hs2.out, h2]; rfl
        clear h2
        go_wp2_with fail
        have hs3 : Hid (sameF [116, 101, 120, 116, 97, 114, 101, 97] t = (Lib.equalFold [116, 101, 120, 116, 97, 114, 101, 97] t.data.toList && decide (8 = t.size))) := rfl
        rw [rounds_succ]
        go_wp2_with fail
        refine (Tryd.strings_EqualFold ⟨#[116, 101, 120, 116, 97, 114, 101, 97]⟩ t _ (by decide) (low_ascii _ (by decide)) HA.out).mono ?_
        rintro e x3 ⟨rfl, rfl⟩
        rw [show (ByteArray.mk #[116, 101, 120, 116, 97, 114, 101, 97]).data.toList = [116, 101, 120, 116, 97, 114, 101, 97] from rfl]
        cases h3 : Lib.equalFold [116, 101, 120, 116, 97, 114, 101, 97] t.data.toList with
        | true =>
          by_cases g3 : 8 = t.size
          · have d3 : ((8 : Int) == (t.size : Int)) = true := beq_iff_eq.2 (by omega)
            have r3 : Hid (sameF [116, 101, 120, 116, 97, 114, 101, 97] t = true) := by show _ = _; rw [hs3.out, h3, decide_eq_true g3]; rfl
            clear g3
            go_wp2_with fail
            go_ret
            exact ⟨ret_bool (by rw [hv.out]; simp [r0.out, r1.out, r2.out, r3.out]), hB⟩
          · have d3 : ((8 : Int) == (t.size : Int)) = false := beq_eq_false_iff_ne.2 (by omega)
            have r3 : Hid (sameF [116, 101, 120, 116, 97, 114, 101, 97] t = false) := by show _ = _; rw [hs3.out, h3, decide_eq_false g3]; rfl
            clear g3 h3
            go_wp2_with fail
            rw [rounds_succ]
            go_wp2_with fail
            go_ret
            exact ⟨ret_bool (by rw [hv.out]; simp [r0.out, r1.out, r2.out, r3.out]), hB⟩
        | false =>
          have r3 : Hid (sameF [116, 101, 120, 116, 97, 114, 101, 97] t = false) := by show _ = _; rw [hs3.out, h3]; rfl
          clear h3
          go_wp2_with fail
          rw [rounds_succ]
          go_wp2_with fail
          go_ret
          exact ⟨ret_bool (by rw [hv.out]; simp [r0.out, r1.out, r2.out, r3.out]), hB⟩

/-- a small letter for a capital one -/
def lowI (x : Int) : Int := if 65 ≤ x ∧ x ≤ 90 then x + 32 else x
def lowU (c : UInt8) : UInt8 := if 65 ≤ c.toNat ∧ c.toNat ≤ 90 then c + 32 else c

theorem low_calls (x : Nat) (hx : x ≤ 1114111) (w : World) :
    Calls Tryd.prog 55 #[.int .i32 (x : Int)] w fun e w' => e = .returned (.int .i32 (lowI x)) ∧ w' = w := by
  have hr : Hid (lowI x = if 65 ≤ (x : Int) ∧ (x : Int) ≤ 90 then (x : Int) + 32 else x) := rfl
  have e1 := IntWalk.i32_in ((x : Int) + 97) (by omega)
  have e2 := IntWalk.i32_in ((x : Int) + 97 - 65) (by omega)
  go_enter Tryd.func55, Tryd.ntmps55
  by_cases h1 : 65 ≤ x
  · have d1 : decide ((65 : Int) ≤ (x : Int)) = true := decide_eq_true (by omega)
    by_cases h2 : x ≤ 90
    · have d2 : decide ((x : Int) ≤ 90) = true := decide_eq_true (by omega)
      go_wp2_with fail
      go_ret
      exact ⟨ret_int (by rw [hr.out, if_pos (by omega)]; omega), rfl⟩
    · have d2 : decide ((x : Int) ≤ 90) = false := decide_eq_false (by omega)
      go_wp2_with fail
      go_ret
      exact ⟨ret_int (by rw [hr.out, if_neg (by omega)]), rfl⟩
  · have d1 : decide ((65 : Int) ≤ (x : Int)) = false := decide_eq_false (by omega)
    go_wp2_with fail
    go_ret
    exact ⟨ret_int (by rw [hr.out, if_neg (by omega)]), rfl⟩

/-- the block tags, a blank ahead of each and behind the last -/
def tagsL : List UInt8 := [32, 97, 100, 100, 114, 101, 115, 115, 32, 97, 114, 116, 105, 99, 108, 101, 32, 97, 115, 105, 100, 101, 32, 98, 108, 111, 99, 107, 113, 117, 111, 116, 101, 32, 98, 111, 100, 121, 32, 99, 101, 110, 116, 101, 114, 32, 99, 111, 108, 32, 100, 100, 32, 100, 101, 116, 97, 105, 108, 115, 32, 100, 105, 97, 108, 111, 103, 32, 100, 105, 114, 32, 100, 105, 118, 32, 100, 108, 32, 100, 116, 32, 102, 105, 101, 108, 100, 115, 101, 116, 32, 102, 105, 103, 117, 114, 101, 32, 102, 111, 111, 116, 101, 114, 32, 102, 111, 114, 109, 32, 102, 114, 97, 109, 101, 32, 104, 49, 32, 104, 50, 32, 104, 51, 32, 104, 52, 32, 104, 53, 32, 104, 54, 32, 104, 101, 97, 100, 32, 104, 101, 97, 100, 101, 114, 32, 104, 114, 32, 104, 116, 109, 108, 32, 105, 102, 114, 97, 109, 101, 32, 108, 101, 103, 101, 110, 100, 32, 108, 105, 32, 108, 105, 110, 107, 32, 109, 97, 105, 110, 32, 109, 101, 110, 117, 32, 110, 97, 118, 32, 111, 108, 32, 111, 112, 116, 105, 111, 110, 32, 112, 32, 112, 97, 114, 97, 109, 32, 115, 101, 99, 116, 105, 111, 110, 32, 115, 117, 109, 109, 97, 114, 121, 32, 116, 97, 98, 108, 101, 32, 116, 98, 111, 100, 121, 32, 116, 100, 32, 116, 102, 111, 111, 116, 32, 116, 104, 32, 116, 104, 101, 97, 100, 32, 116, 105, 116, 108, 101, 32, 116, 114, 32, 116, 114, 97, 99, 107, 32, 117, 108, 32]

def blockF (t : ByteArray) : Bool := !t.toList.isEmpty && (!(decide (0 ≤ Lib.indexByte t.data.toList 32)) && Lib.contains tagsL (32 :: (t.data.toList.map lowU ++ [32])))

theorem mapD_ascii (l : List UInt8) (h : ∀ c ∈ l, c.toNat < 128) : Lib.mapD lowI l = l.map lowU := by
  induction l with
  | nil => rfl
  | cons c t ih =>
    have hc := h c (List.mem_cons_self ..)
    have hd : Lib.decodeL (c :: t) = (c.toNat, 1) := by
      unfold Lib.decodeL
      exact decode_ascii ⟨(c :: t).toArray⟩ 0 (by rw [Lib.size_eq]; simp) (by show c.toNat < 128; exact hc)
    have hl0 : 0 ≤ lowI (c.toNat : Int) ∧ lowI (c.toNat : Int) ≤ 127 := by unfold lowI; split <;> omega
    have he : Lib.encodeRune (lowI (c.toNat : Int)) = [lowU c] := by
      unfold Lib.encodeRune
      rw [Lib.encodeRuneZ_one hl0.1 hl0.2]
      unfold lowI lowU
      by_cases hr : 65 ≤ c.toNat ∧ c.toNat ≤ 90
      · rw [if_pos (by omega), if_pos hr]
        simp only [List.map_cons, List.map_nil]
        congr 1
        try (apply UInt8.toNat_inj.1; simp <;> omega)
      · rw [if_neg (by omega), if_neg hr]
        simp
    rw [Lib.mapD_step _ _ (by simp), hd]
    simp only []
    rw [if_pos hl0.1, he, List.drop_one, List.tail_cons, ih (fun x hx => h x (List.mem_cons_of_mem _ hx))]
    rfl

theorem low_gives (w : World) : MapAtRunes Tryd.prog 55 #[] lowI w := fun W x hx _ =>
  (low_calls x hx W).mono fun e w' ⟨h1, h2⟩ => ⟨h1, 0, h2⟩

theorem low_bd (x : Nat) (hx : x ≤ 1114111) : 0 ≤ lowI x ∧ lowI x ≤ 2147483647 := by
  unfold lowI; split <;> omega

theorem low_enters : ∀ args w, (callFunc 55 args).run Tryd.prog w = .ok (.enter 55 args) w :=
  enters_of Tryd.func55 (by kernel_rfl) rfl

set_option maxHeartbeats 4000000 in
set_option maxRecDepth 100000 in
theorem Block_calls (t : ByteArray) (w : World) (hM : MaxL w) (hT : Tabs w) (hw : 0 < w.heap.size) (hs : t.size ≤ 1000000) (hA : ∀ c ∈ t.data.toList, c.toNat < 128) :
    Calls Tryd.prog 33 #[.string t] w fun e w' => e = .returned (.bool (blockF t)) ∧ Below w.heap.size w w' := by
  have hr : Hid (blockF t = (!t.toList.isEmpty && (!(decide (0 ≤ Lib.indexByte t.data.toList 32)) && Lib.contains tagsL (32 :: (t.data.toList.map lowU ++ [32]))))) := rfl
  have HM := Lib.hid hM
  have HT := Lib.hid hT
  clear hM hT
  cases he : t.toList.isEmpty with
  | true =>
    go_enter Tryd.func33, Tryd.ntmps33
    go_wp2_with fail
    go_ret
    exact ⟨ret_bool (by rw [hr.out, he]; rfl), Below.refl _ _⟩
  | false =>
    have hmap := fun W (hT : Tabs W) => Tryd.strings_Map_runes 55 #[] low_enters lowI t W (by omega) (low_gives W) low_bd hT
    rw [mapD_ascii _ hA] at hmap
    go_enter Tryd.func33, Tryd.ntmps33
    go_wp2_with fail
    refine (Tryd.strings_Contains_one t 32 _).mono ?_
    rintro e w1 ⟨rfl, rfl⟩
    cases hc : decide (0 ≤ Lib.indexByte t.data.toList 32) with
    | true =>
      go_wp2_with fail
      go_ret
      exact ⟨ret_bool (by rw [hr.out, he, hc]; rfl), Below.refl _ _⟩
    | false =>
      go_wp2_with fail
      refine (hmap _ HT.out).mono ?_
      rintro e w2 ⟨rfl, hb⟩

      obtain ⟨m, hm⟩ := HM.out.below hb hw
      have hr2 : Hid (blockF t = Lib.contains tagsL (32 :: (t.data.toList.map lowU ++ [32]))) := by show _ = _; rw [hr.out, he, hc]; rfl
      obtain ⟨M, hM⟩ : ∃ M : ByteArray, (⟨(t.data.toList.map lowU).toArray⟩ : ByteArray) = M := ⟨_, rfl⟩
      rw [hM]
      have hMd : M.data.toList = t.data.toList.map lowU := by rw [← hM]
      have hMs : M.size ≤ 1000000 := by rw [← lst_size, hMd, List.length_map, lst_size]; exact hs
      have HMD := Lib.hid hMd
      clear hM hMd hr
      go_wp2_with fail
      refine (Tryd.strings_Contains _ _ m _ ?hz hm).mono ?_
      case hz => decide +kernel
      rintro e w3 ⟨rfl, rfl⟩
      go_wp2_with fail
      go_ret
      refine ⟨ret_bool ?_, hb⟩
      rw [hr2.out, ← HMD.out]
      rfl

end Go.Proofs.YtjaidphlphncjaaDoor
