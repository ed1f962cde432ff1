/- Walk: tag's reference: Raw. -/
import Derived.Test.YtjaidphlphncjaaDoorTagRefD
namespace Go.Proofs.YtjaidphlphncjaaDoor
set_option linter.unusedVariables false
set_option linter.unusedSimpArgs false
open Go Go.RowKit Go.Lib

set_option maxRecDepth 100000 in
set_option maxHeartbeats 4000000 in
theorem refRaw_calls (s : ByteArray) (w : World) (hs : s.size ≤ 1000000) :
    Calls Tryd.prog 10 #[.string s] w fun e w' => e = .returned (.int .i64 (rawF s : Nat)) ∧ Below w.heap.size w w' := by
  have hraw : Hid (rawF s = if Lib.hasPrefix s.data.toList [60, 33, 45, 45, 62] = true then 5
    else if Lib.hasPrefix s.data.toList [60, 33, 45, 45, 45, 62] = true then 6
    else if Lib.hasPrefix s.data.toList [60, 33, 45, 45] = true then upToF s 4 [45, 45, 62]
    else if Lib.hasPrefix s.data.toList [60, 63] = true then upToF s 2 [63, 62]
    else if Lib.hasPrefix s.data.toList [60, 33, 91, 67, 68, 65, 84, 65, 91] = true then upToF s 9 [93, 93, 62]
    else if declF s = true then upToF s 3 [62]
    else openN s) := rfl
  go_enter Tryd.func10, Tryd.ntmps10
  go_wp2_with fail
  refine (Begins_calls s ⟨#[60, 33, 45, 45, 62]⟩ _ hs (by decide)).mono ?_
  rintro e x0 ⟨rfl, rfl⟩
  rw [show (ByteArray.mk #[60, 33, 45, 45, 62]).data.toList = [60, 33, 45, 45, 62] from rfl]
  cases h0 : Lib.hasPrefix s.data.toList [60, 33, 45, 45, 62] with
  | true =>
    have hr : Hid (rawF s = 5) := by show _ = _; rw [hraw.out, if_pos h0]
    clear hraw
    go_wp2_with fail
    go_ret
    exact ⟨ret_int (by rw [hr.out]; try rfl), Below.refl _ _⟩
  | false =>
    go_wp2_with fail
    refine (Begins_calls s ⟨#[60, 33, 45, 45, 45, 62]⟩ _ hs (by decide)).mono ?_
    rintro e x1 ⟨rfl, rfl⟩
    rw [show (ByteArray.mk #[60, 33, 45, 45, 45, 62]).data.toList = [60, 33, 45, 45, 45, 62] from rfl]
    cases h1 : Lib.hasPrefix s.data.toList [60, 33, 45, 45, 45, 62] with
    | true =>
      have hr : Hid (rawF s = 6) := by show _ = _; rw [hraw.out, h0, if_neg (by simp), if_pos h1]
      clear hraw
      go_wp2_with fail
      go_ret
      exact ⟨ret_int (by rw [hr.out]; try rfl), Below.refl _ _⟩
    | false =>
      go_wp2_with fail
      refine (Begins_calls s ⟨#[60, 33, 45, 45]⟩ _ hs (by decide)).mono ?_
      rintro e x2 ⟨rfl, rfl⟩
      rw [show (ByteArray.mk #[60, 33, 45, 45]).data.toList = [60, 33, 45, 45] from rfl]
      cases h2 : Lib.hasPrefix s.data.toList [60, 33, 45, 45] with
      | true =>
        have hr : Hid (rawF s = upToF s 4 [45, 45, 62]) := by show _ = _; rw [hraw.out, h0, if_neg (by simp), h1, if_neg (by simp), if_pos h2]
        clear hraw
        go_wp2_with fail
        refine (refupTo_calls s ⟨#[45, 45, 62]⟩ 4 _ hs (by omega) (by decide) (by decide)).mono ?_
        rintro e y ⟨rfl, rfl⟩
        go_wp2_with fail
        go_ret
        exact ⟨ret_int (by rw [hr.out]; try rfl), Below.refl _ _⟩
      | false =>
        go_wp2_with fail
        refine (Begins_calls s ⟨#[60, 63]⟩ _ hs (by decide)).mono ?_
        rintro e x3 ⟨rfl, rfl⟩
        rw [show (ByteArray.mk #[60, 63]).data.toList = [60, 63] from rfl]
        cases h3 : Lib.hasPrefix s.data.toList [60, 63] with
        | true =>
          have hr : Hid (rawF s = upToF s 2 [63, 62]) := by show _ = _; rw [hraw.out, h0, if_neg (by simp), h1, if_neg (by simp), h2, if_neg (by simp), if_pos h3]
          clear hraw
          go_wp2_with fail
          refine (refupTo_calls s ⟨#[63, 62]⟩ 2 _ hs (by omega) (by decide) (by decide)).mono ?_
          rintro e y ⟨rfl, rfl⟩
          go_wp2_with fail
          go_ret
          exact ⟨ret_int (by rw [hr.out]; try rfl), Below.refl _ _⟩
        | false =>
          go_wp2_with fail
          refine (Begins_calls s ⟨#[60, 33, 91, 67, 68, 65, 84, 65, 91]⟩ _ hs (by decide)).mono ?_
          rintro e x4 ⟨rfl, rfl⟩
          rw [show (ByteArray.mk #[60, 33, 91, 67, 68, 65, 84, 65, 91]).data.toList = [60, 33, 91, 67, 68, 65, 84, 65, 91] from rfl]
          cases h4 : Lib.hasPrefix s.data.toList [60, 33, 91, 67, 68, 65, 84, 65, 91] with
          | true =>
            have hr : Hid (rawF s = upToF s 9 [93, 93, 62]) := by show _ = _; rw [hraw.out, h0, if_neg (by simp), h1, if_neg (by simp), h2, if_neg (by simp), h3, if_neg (by simp), if_pos h4]
            clear hraw
            go_wp2_with fail
            refine (refupTo_calls s ⟨#[93, 93, 62]⟩ 9 _ hs (by omega) (by decide) (by decide)).mono ?_
            rintro e y ⟨rfl, rfl⟩
            go_wp2_with fail
            go_ret
            exact ⟨ret_int (by rw [hr.out]; try rfl), Below.refl _ _⟩
          | false =>
            by_cases g2 : 2 < s.size
            · have d1 : decide ((2 : Int) < (s.size : Int)) = true := decide_eq_true (by omega)
              have i1 : (2 : Int) < (s.size : Int) := by omega
              have hd : Hid (declF s = (Lib.hasPrefix s.data.toList [60, 33] && letterU s[2])) := by
                show _ = _
                unfold declF; rw [decide_eq_true g2, byteU_in s 2 g2]; rfl
              go_wp2_with fail
              refine (Begins_calls s ⟨#[60, 33]⟩ _ hs (by decide)).mono ?_
              rintro e y ⟨rfl, rfl⟩
              rw [show (ByteArray.mk #[60, 33]).data.toList = [60, 33] from rfl]
              cases hp : Lib.hasPrefix s.data.toList [60, 33] with
              | true =>
                go_wp2_with fail
                refine (refletter_calls s[2] _).mono ?_
                rintro e z ⟨rfl, rfl⟩
                cases hl : letterU s[2] with
                | true =>
                  have hr : Hid (rawF s = upToF s 3 [62]) := by show _ = _; rw [hraw.out, h0, if_neg (by simp), h1, if_neg (by simp), h2, if_neg (by simp), h3, if_neg (by simp), h4, if_neg (by simp), if_pos (by rw [hd.out, hp, hl]; rfl)]
                  clear hraw hd
                  go_wp2_with fail
                  refine (refupTo_calls s ⟨#[62]⟩ 3 _ hs (by omega) (by decide) (by decide)).mono ?_
                  rintro e y ⟨rfl, rfl⟩
                  go_wp2_with fail
                  go_ret
                  exact ⟨ret_int (by rw [hr.out]; try rfl), Below.refl _ _⟩
                | false =>
                  have hr : Hid (rawF s = openN s) := by show _ = _; rw [hraw.out, h0, if_neg (by simp), h1, if_neg (by simp), h2, if_neg (by simp), h3, if_neg (by simp), h4, if_neg (by simp), if_neg (by rw [hd.out, hp, hl]; simp)]
                  clear hraw hd
                  go_wp2_with fail
                  refine (refOpen_calls s _ hs).mono ?_
                  rintro e z ⟨rfl, hz⟩
                  go_wp2_with fail
                  go_ret
                  exact ⟨ret_int (by rw [hr.out]), hz⟩
              | false =>
                have hr : Hid (rawF s = openN s) := by show _ = _; rw [hraw.out, h0, if_neg (by simp), h1, if_neg (by simp), h2, if_neg (by simp), h3, if_neg (by simp), h4, if_neg (by simp), if_neg (by rw [hd.out, hp]; simp)]
                clear hraw hd
                go_wp2_with fail
                refine (refOpen_calls s _ hs).mono ?_
                rintro e z ⟨rfl, hz⟩
                go_wp2_with fail
                go_ret
                exact ⟨ret_int (by rw [hr.out]), hz⟩
            · have d1 : decide ((2 : Int) < (s.size : Int)) = false := decide_eq_false (by omega)
              have hd : declF s = false := by unfold declF; rw [decide_eq_false g2]; rfl
              have hr : Hid (rawF s = openN s) := by show _ = _; rw [hraw.out, h0, if_neg (by simp), h1, if_neg (by simp), h2, if_neg (by simp), h3, if_neg (by simp), h4, if_neg (by simp), if_neg (by rw [hd]; simp)]
              clear hraw hd
              go_wp2_with fail
              refine (refOpen_calls s _ hs).mono ?_
              rintro e z ⟨rfl, hz⟩
              go_wp2_with fail
              go_ret
              exact ⟨ret_int (by rw [hr.out]), hz⟩

end Go.Proofs.YtjaidphlphncjaaDoor
