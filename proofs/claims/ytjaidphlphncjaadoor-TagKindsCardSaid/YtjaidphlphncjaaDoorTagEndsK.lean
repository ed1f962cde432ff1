/- Walk: tag.Ends at every kind. -/
import Derived.Test.YtjaidphlphncjaaDoorAlive06
import Derived.Test.YtjaidphlphncjaaDoorTagHas
namespace Go.Proofs.YtjaidphlphncjaaDoor
set_option linter.unusedVariables false
set_option linter.unusedSimpArgs false
open Go Go.RowKit Go.Lib

theorem lowE_calls (x : Nat) (hx : x ≤ 1114111) (w : World) :
    Calls Tryd.prog 39 #[.int .i32 (x : Int)] w fun e w' => e = .returned (.int .i32 (lowI x)) ∧ w' = w := by
  have hr : Hid (lowI x = if 65 ≤ (x : Int) ∧ (x : Int) ≤ 90 then (x : Int) + 32 else x) := rfl
  have e1 := IntWalk.i32_in ((x : Int) + 97) (by omega)
  have e2 := IntWalk.i32_in ((x : Int) + 97 - 65) (by omega)
  go_enter Tryd.func39, Tryd.ntmps39
  by_cases h1 : 65 ≤ x
  · have d1 : decide ((65 : Int) ≤ (x : Int)) = true := decide_eq_true (by omega)
    by_cases h2 : x ≤ 90
    · have d2 : decide ((x : Int) ≤ 90) = true := decide_eq_true (by omega)
      go_wp2_with fail
      go_ret
      exact ⟨ret_int (by rw [hr.out, if_pos (by omega)]; omega), rfl⟩
    · have d2 : decide ((x : Int) ≤ 90) = false := decide_eq_false (by omega)
      go_wp2_with fail
      go_ret
      exact ⟨ret_int (by rw [hr.out, if_neg (by omega)]), rfl⟩
  · have d1 : decide ((65 : Int) ≤ (x : Int)) = false := decide_eq_false (by omega)
    go_wp2_with fail
    go_ret
    exact ⟨ret_int (by rw [hr.out, if_neg (by omega)]), rfl⟩

theorem lowE_gives (w : World) : MapAtRunes Tryd.prog 39 #[] lowI w := fun W x hx _ =>
  (lowE_calls x hx W).mono fun e w' ⟨h1, h2⟩ => ⟨h1, 0, h2⟩

theorem lowE_enters : ∀ args w, (callFunc 39 args).run Tryd.prog w = .ok (.enter 39 args) w :=
  enters_of Tryd.func39 (by kernel_rfl) rfl

theorem mapD_len : ∀ (n : Nat) (l : List UInt8), l.length ≤ n → (Lib.mapD lowI l).length ≤ 4 * l.length := by
  intro n
  induction n with
  | zero =>
    intro l hl
    have : l = [] := List.eq_nil_of_length_eq_zero (by omega)
    subst this; exact Nat.le_refl _
  | succ n ih =>
    intro l hl
    by_cases hne : l = []
    · subst hne; exact Nat.le_refl _
    · have hw := decodeL_width l
      have hle := decodeL_le l hne
      rw [Lib.mapD_step _ _ hne, List.length_append]
      have h1 := ih (l.drop (decodeL l).2) (by rw [List.length_drop]; omega)
      rw [List.length_drop] at h1
      have h2 : (if 0 ≤ lowI (decodeL l).1 then encodeRune (lowI (decodeL l).1) else []).length ≤ 4 := by
        split
        · unfold encodeRune; rw [List.length_map]; exact (encodeRuneZ_length _).2
        · exact Nat.zero_le _
      omega

set_option maxHeartbeats 4000000 in
set_option maxRecDepth 100000 in
theorem Ends_1 (s : ByteArray) (w : World) (hE : Env w) (hs : s.size ≤ 1000000) :
    Calls Tryd.prog 15 #[.string s, .int .i64 1] w fun e w' => e = .returned (.bool (endsK s.data.toList 1)) ∧ Below w.heap.size w w' := by
  have HM := Lib.hid hE.2.1
  have HT := Lib.hid hE.1
  have hw := hE.2.2
  clear hE
  have hr : Hid (endsK s.data.toList 1 = (hasL (s.data.toList.map lowU) pPre || (hasL (s.data.toList.map lowU) pScript || (hasL (s.data.toList.map lowU) pStyle || hasL (s.data.toList.map lowU) pArea)))) := by
    show _ = _; unfold endsK; rw [if_pos rfl]
  have c0 : Hid (Lib.contains (Lib.mapD lowI s.data.toList) (ByteArray.mk #[60, 47, 112, 114, 101, 62]).data.toList = hasL (s.data.toList.map lowU) pPre) := mapD_contains _ _ (by decide) (by decide)
  have c1 : Hid (Lib.contains (Lib.mapD lowI s.data.toList) (ByteArray.mk #[60, 47, 115, 99, 114, 105, 112, 116, 62]).data.toList = hasL (s.data.toList.map lowU) pScript) := mapD_contains _ _ (by decide) (by decide)
  have c2 : Hid (Lib.contains (Lib.mapD lowI s.data.toList) (ByteArray.mk #[60, 47, 115, 116, 121, 108, 101, 62]).data.toList = hasL (s.data.toList.map lowU) pStyle) := mapD_contains _ _ (by decide) (by decide)
  have c3 : Hid (Lib.contains (Lib.mapD lowI s.data.toList) (ByteArray.mk #[60, 47, 116, 101, 120, 116, 97, 114, 101, 97, 62]).data.toList = hasL (s.data.toList.map lowU) pArea) := mapD_contains _ _ (by decide) (by decide)
  have hlen := mapD_len _ s.data.toList (Nat.le_refl _)
  rw [lst_size] at hlen
  have hmap := fun W (hT : Tabs W) => Tryd.strings_Map_runes 39 #[] lowE_enters lowI s W (by omega) (lowE_gives W) low_bd hT
  obtain ⟨M, hM⟩ : ∃ M : ByteArray, (⟨(Lib.mapD lowI s.data.toList).toArray⟩ : ByteArray) = M := ⟨_, rfl⟩
  have hMd : M.data.toList = Lib.mapD lowI s.data.toList := by rw [← hM]
  have hMs : M.size ≤ 4000000 := by rw [← lst_size, hMd]; omega
  rw [hM] at hmap
  rw [← hMd] at c0 c1 c2 c3
  clear hM hMd hlen
  go_enter Tryd.func15, Tryd.ntmps15
  go_wp2_with fail
  refine (hmap _ HT.out).mono ?_
  rintro e w2 ⟨rfl, hb⟩
  clear hmap
  have hB := hb.alloc hb.size (Obj.cells #[Value.string ⟨#[60, 47, 112, 114, 101, 62]⟩, Value.string ⟨#[60, 47, 115, 99, 114, 105, 112, 116, 62]⟩, Value.string ⟨#[60, 47, 115, 116, 121, 108, 101, 62]⟩, Value.string ⟨#[60, 47, 116, 101, 120, 116, 97, 114, 101, 97, 62]⟩] 9)
  obtain ⟨m, hm⟩ := HM.out.below hB hw
  clear HM HT
  go_wp2_with fail
  refine wp_loop_rounds 5 ?_
  rw [rounds_succ]
  go_wp2_with fail
  refine (Tryd.strings_Contains M ⟨#[60, 47, 112, 114, 101, 62]⟩ m _ (by omega) hm).mono ?_
  rintro e x0 ⟨rfl, rfl⟩
  rw [c0.out]
  cases h0 : hasL (s.data.toList.map lowU) pPre with
  | true =>
    go_wp2_with fail
    go_ret
    exact ⟨ret_bool (by rw [hr.out]; simp [h0]), hB⟩
  | false =>
    go_wp2_with fail
    rw [rounds_succ]
    go_wp2_with fail
    refine (Tryd.strings_Contains M ⟨#[60, 47, 115, 99, 114, 105, 112, 116, 62]⟩ m _ (by omega) hm).mono ?_
    rintro e x1 ⟨rfl, rfl⟩
    rw [c1.out]
    cases h1 : hasL (s.data.toList.map lowU) pScript with
    | true =>
      go_wp2_with fail
      go_ret
      exact ⟨ret_bool (by rw [hr.out]; simp [h0, h1]), hB⟩
    | false =>
      go_wp2_with fail
      rw [rounds_succ]
      go_wp2_with fail
      refine (Tryd.strings_Contains M ⟨#[60, 47, 115, 116, 121, 108, 101, 62]⟩ m _ (by omega) hm).mono ?_
      rintro e x2 ⟨rfl, rfl⟩
      rw [c2.out]
      cases h2 : hasL (s.data.toList.map lowU) pStyle with
      | true =>
        go_wp2_with fail
        go_ret
        exact ⟨ret_bool (by rw [hr.out]; simp [h0, h1, h2]), hB⟩
      | false =>
        go_wp2_with fail
        rw [rounds_succ]
        go_wp2_with fail
        refine (Tryd.strings_Contains M ⟨#[60, 47, 116, 101, 120, 116, 97, 114, 101, 97, 62]⟩ m _ (by omega) hm).mono ?_
        rintro e x3 ⟨rfl, rfl⟩
        rw [c3.out]
        cases h3 : hasL (s.data.toList.map lowU) pArea with
        | true =>
          go_wp2_with fail
          go_ret
          exact ⟨ret_bool (by rw [hr.out]; simp [h0, h1, h2, h3]), hB⟩
        | false =>
          go_wp2_with fail
          rw [rounds_succ]
          go_wp2_with fail
          go_ret
          exact ⟨ret_bool (by rw [hr.out]; simp [h0, h1, h2, h3]), hB⟩

set_option maxHeartbeats 2000000 in
set_option maxRecDepth 100000 in
theorem Ends_no (s : ByteArray) (w : World) (kind : Int) (h1 : kind ≠ 1) (h2 : kind ≠ 2) (h3 : kind ≠ 3) (h4 : kind ≠ 4) (h5 : kind ≠ 5) :
    Calls Tryd.prog 15 #[.string s, .int .i64 kind] w fun e w' => e = .returned (.bool (endsK s.data.toList kind)) ∧ Below w.heap.size w w' := by
  have hr : Hid (endsK s.data.toList kind = false) := by
    show _ = _; unfold endsK; rw [if_neg h1, if_neg h2, if_neg h3, if_neg h4, if_neg h5]
  have e1 : (kind == 1) = false := beq_eq_false_iff_ne.2 h1
  have e2 : (kind == 2) = false := beq_eq_false_iff_ne.2 h2
  have e3 : (kind == 3) = false := beq_eq_false_iff_ne.2 h3
  have e4 : (kind == 4) = false := beq_eq_false_iff_ne.2 h4
  have e5 : (kind == 5) = false := beq_eq_false_iff_ne.2 h5
  clear h1 h2 h3 h4 h5
  go_enter Tryd.func15, Tryd.ntmps15
  go_wp2_with fail
  go_ret
  exact ⟨ret_bool hr.out.symm, Below.refl _ _⟩

theorem Ends_calls (s : ByteArray) (kind : Int) (w : World) (hE : Env w) (hs : s.size ≤ 1000000) :
    Calls Tryd.prog 15 #[.string s, .int .i64 kind] w fun e w' => e = .returned (.bool (endsK s.data.toList kind)) ∧ Below w.heap.size w w' := by
  by_cases h1 : kind = 1
  · subst h1; exact Ends_1 s w hE hs
  by_cases h2 : kind = 2
  · subst h2
    refine (Ends_2 s w hE.2.1 hE.2.2 hs).mono ?_
    rintro e x ⟨rfl, h⟩
    exact ⟨by rw [contains_hasL]; rfl, h⟩
  by_cases h3 : kind = 3
  · subst h3
    refine (Ends_3 s w hE.2.1 hE.2.2 hs).mono ?_
    rintro e x ⟨rfl, h⟩
    exact ⟨by rw [contains_hasL]; rfl, h⟩
  by_cases h4 : kind = 4
  · subst h4
    refine (Ends_4 s w hE.2.1 hE.2.2 hs).mono ?_
    rintro e x ⟨rfl, h⟩
    exact ⟨by rw [contains_hasL]; rfl, h⟩
  by_cases h5 : kind = 5
  · subst h5
    refine (Ends_5 s w hE.2.1 hE.2.2 hs).mono ?_
    rintro e x ⟨rfl, h⟩
    exact ⟨by rw [contains_hasL]; rfl, h⟩
  exact Ends_no s w kind h1 h2 h3 h4 h5

end Go.Proofs.YtjaidphlphncjaaDoor
