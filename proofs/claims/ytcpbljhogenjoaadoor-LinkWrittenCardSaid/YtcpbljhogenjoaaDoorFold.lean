/- Walks: class.fold, Fold. -/
import Derived.Test.YtcpbljhogenjoaaDoorEscDef
import Derived.Test.YtcpbljhogenjoaaDoorClass
import Derived.Test.YtcpbljhogenjoaaDoorRune
import Derived.Test.YtcpbljhogenjoaaDoorBuild
import Derived.Test.YtcpbljhogenjoaaDoorEscPlain
namespace Go.Proofs.YtcpbljhogenjoaaDoor
set_option linter.unusedVariables false
set_option linter.unusedSimpArgs false
open Go Go.RowKit Go.Shelf Go.Lib

def upL : List (Int × Int) := [(65, 90), (192, 222), (913, 939), (1040, 1071)]
def up2L : List (Int × Int) := [(1024, 1039)]

theorem conv_rune (r : Int) : ∀ w : World, (convert 21 9 (.int .i32 r)).run Tryd.prog w = .ok (.string (Utf8.encode r)) w :=
  fun w => run_convert_int_string w _ _ .i32 _ (by rw [Tryd.underlying21]; rfl) Tryd.underlying9

set_option maxHeartbeats 2000000 in
set_option maxRecDepth 100000 in
theorem fold_calls (r : Int) (w : World) (h0 : 0 ≤ r) (h1 : r ≤ 1114111) :
    Calls Tryd.prog 29 #[.int .i64 r] w fun e w' => e = .returned (.string (foldR r)) ∧ Below w.heap.size w w' := by
  have hw1 := fun w => within_new r upL 4 72 w (by decide)
  have hw2 := fun w => within_new r up2L 1 72 w (by decide)
  have a1 : IntKind.i32.wrap r = r := IntWalk.i32_in _ (by omega)
  have a2 : IntKind.i32.wrap (r + 32) = r + 32 := IntWalk.i32_in _ (by omega)
  have a3 : IntKind.i32.wrap (r + 80) = r + 80 := IntWalk.i32_in _ (by omega)
  have b2 : IntKind.i64.wrap (r + 32) = r + 32 := IntWalk.i64_in _ (by omega)
  have b3 : IntKind.i64.wrap (r + 80) = r + 80 := IntWalk.i64_in _ (by omega)
  have c1 := conv_rune r
  have c2 := conv_rune (r + 32)
  have c3 := conv_rune (r + 80)
  have hf : Hid (foldR r = if r = 215 ∨ r = 930 then Utf8.encode r else if withinB r upL = true then Utf8.encode (r + 32) else if withinB r up2L = true then Utf8.encode (r + 80) else if r = 223 ∨ r = 7838 then ⟨#[115, 115]⟩ else Utf8.encode r) := rfl
  generalize Utf8.encode r = E1 at *
  generalize Utf8.encode (r + 32) = E2 at *
  generalize Utf8.encode (r + 80) = E3 at *
  clear h0 h1
  by_cases p1 : r = 215
  · have hr : Hid (foldR r = E1) := hf.out.trans (if_pos (Or.inl p1))
    have d1 : (r == 215) = true := beq_iff_eq.2 p1
    clear hf p1
    go_enter Tryd.func29, Tryd.ntmps29
    go_wp2_with fail
    go_ret
    exact ⟨ret_str (by rw [hr.out]), Below.refl _ _⟩
  have d1 : (r == 215) = false := beq_eq_false_iff_ne.2 p1
  by_cases p2 : r = 930
  · have hr : Hid (foldR r = E1) := hf.out.trans (if_pos (Or.inr p2))
    have d2 : (r == 930) = true := beq_iff_eq.2 p2
    clear hf p1 p2
    go_enter Tryd.func29, Tryd.ntmps29
    go_wp2_with fail
    go_ret
    exact ⟨ret_str (by rw [hr.out]), Below.refl _ _⟩
  have d2 : (r == 930) = false := beq_eq_false_iff_ne.2 p2
  have hf2 := Lib.hid (hf.out.trans (if_neg (by omega)))
  clear hf p1 p2
  generalize withinB r upL = q1 at *
  generalize withinB r up2L = q2 at *
  cases q1 with
  | true =>
    have hr : Hid (foldR r = E2) := hf2.out.trans (if_pos rfl)
    clear hf2
    go_enter Tryd.func29, Tryd.ntmps29
    go_wp2_with fail
    refine (hw1 _).mono ?_
    rintro e w1 ⟨rfl, hB⟩
    go_wp2_with fail
    go_ret
    exact ⟨ret_str (by rw [hr.out]), hB⟩
  | false =>
    cases q2 with
    | true =>
      have hr : Hid (foldR r = E3) := hf2.out.trans ((if_neg (by decide)).trans (if_pos rfl))
      clear hf2
      go_enter Tryd.func29, Tryd.ntmps29
      go_wp2_with fail
      refine (hw1 _).mono ?_
      rintro e w1 ⟨rfl, hB⟩
      go_wp2_with fail
      refine (hw2 _).mono ?_
      rintro e w2 ⟨rfl, hB2⟩
      go_wp2_with fail
      go_ret
      exact ⟨ret_str (by rw [hr.out]), hB.trans (hB2.mono hB.size)⟩
    | false =>
      have hf3 := Lib.hid (hf2.out.trans ((if_neg (by decide)).trans (if_neg (by decide))))
      clear hf2
      by_cases p3 : r = 223
      · have hr : Hid (foldR r = ⟨#[115, 115]⟩) := hf3.out.trans (if_pos (Or.inl p3))
        have d3 : (r == 223) = true := beq_iff_eq.2 p3
        clear hf3 p3
        go_enter Tryd.func29, Tryd.ntmps29
        go_wp2_with fail
        refine (hw1 _).mono ?_
        rintro e w1 ⟨rfl, hB⟩
        go_wp2_with fail
        refine (hw2 _).mono ?_
        rintro e w2 ⟨rfl, hB2⟩
        go_wp2_with fail
        go_ret
        exact ⟨ret_str (by rw [hr.out]), hB.trans (hB2.mono hB.size)⟩
      have d3 : (r == 223) = false := beq_eq_false_iff_ne.2 p3
      by_cases p4 : r = 7838
      · have hr : Hid (foldR r = ⟨#[115, 115]⟩) := hf3.out.trans (if_pos (Or.inr p4))
        have d4 : (r == 7838) = true := beq_iff_eq.2 p4
        clear hf3 p3 p4
        go_enter Tryd.func29, Tryd.ntmps29
        go_wp2_with fail
        refine (hw1 _).mono ?_
        rintro e w1 ⟨rfl, hB⟩
        go_wp2_with fail
        refine (hw2 _).mono ?_
        rintro e w2 ⟨rfl, hB2⟩
        go_wp2_with fail
        go_ret
        exact ⟨ret_str (by rw [hr.out]), hB.trans (hB2.mono hB.size)⟩
      have d4 : (r == 7838) = false := beq_eq_false_iff_ne.2 p4
      have hr : Hid (foldR r = E1) := hf3.out.trans (if_neg (by omega))
      clear hf3 p3 p4
      go_enter Tryd.func29, Tryd.ntmps29
      go_wp2_with fail
      refine (hw1 _).mono ?_
      rintro e w1 ⟨rfl, hB⟩
      go_wp2_with fail
      refine (hw2 _).mono ?_
      rintro e w2 ⟨rfl, hB2⟩
      go_wp2_with fail
      go_ret
      exact ⟨ret_str (by rw [hr.out]), hB.trans (hB2.mono hB.size)⟩

theorem foldR_le (r : Int) : (foldR r).size ≤ 4 := by
  unfold foldR
  repeat' split
  all_goals first | exact encode_le _ | decide

end Go.Proofs.YtcpbljhogenjoaaDoor
