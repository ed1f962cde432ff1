/- Walks: the references' Has and Ends. -/
import Derived.Test.YtjaidphlphncjaaDoorTagSmall
import Derived.Test.YtjaidphlphncjaaDoorTagRefB
namespace Go.Proofs.YtjaidphlphncjaaDoor
set_option linter.unusedVariables false
set_option linter.unusedSimpArgs false
open Go Go.RowKit Go.Lib

theorem has_step (s : ByteArray) (p : List UInt8) (k : Nat) (h : k < s.size) : hasL (s.data.toList.drop k) p = (p.isPrefixOf (s.data.toList.drop k) || hasL (s.data.toList.drop (k + 1)) p) := by
  rw [drop_cons s k h]; rfl
theorem has_end (s : ByteArray) (p : List UInt8) (k : Nat) (hp : p ≠ []) (h : s.size < k + p.length) : hasL (s.data.toList.drop k) p = false := by
  rw [← contains_hasL]
  unfold Lib.contains
  have h1 : Lib.index (s.data.toList.drop k) p = -1 := by
    refine Lib.index_none (fun j hj => ?_)
    unfold Lib.occAt
    cases hc : p.isPrefixOf ((s.data.toList.drop k).drop j) with
    | false => rfl
    | true =>
      have h2 := (List.isPrefixOf_iff_prefix.1 hc).length_le
      rw [List.length_drop, List.length_drop, lst_size] at h2
      have h3 : 0 < p.length := by cases p <;> simp_all
      omega
  rw [h1]; rfl

set_option maxHeartbeats 2000000 in
theorem refHas_calls (s p : ByteArray) (w : World) (hs : s.size ≤ 1000000) (hp : p.size ≤ 1000) (hp0 : 0 < p.size) :
    Calls Tryd.prog 41 #[.string s, .string p] w fun e w' => e = .returned (.bool (hasL s.data.toList p.data.toList)) ∧ w' = w := by
  have hpne : p.data.toList ≠ [] := fun e => by
    have := congrArg List.length e
    rw [lst_size, List.length_nil] at this
    omega
  have hpl : p.data.toList.length = p.size := lst_size p
  have HPN := Lib.hid hpne
  have HPL := Lib.hid hpl
  clear hpne hpl
  go_enter Tryd.func41, Tryd.ntmps41
  go_wp2_with fail
  go_loopw [5] (fun i wr => ∃ k : Nat, k ≤ 1000001 ∧ i = .int .i64 k ∧ Hid (hasL s.data.toList p.data.toList = hasL (s.data.toList.drop k) p.data.toList) ∧ wr = w) (fun i _ => s.size - (RowKit.intOf i).toNat)
  case atStart => exact ⟨0, by omega, rfl, rfl, rfl⟩
  case round =>
    obtain ⟨k, hk, rfl, he, rfl⟩ := hrel
    have e1 := IntWalk.i64_in ((k : Int) + (p.size : Int)) (by omega)
    by_cases hlt : k + p.size ≤ s.size
    · have d1 : decide ((k : Int) + (p.size : Int) ≤ (s.size : Int)) = true := decide_eq_true (by omega)
      have i0 : (0 : Int) ≤ (k : Int) := by omega
      have i1 : (k : Int) ≤ (k : Int) + (p.size : Int) := by omega
      have i2 : (k : Int) + (p.size : Int) ≤ (s.size : Int) := by omega
      have i3 : (0 : Int) ≤ (k : Int) + (p.size : Int) := by omega
      have i4 : ((k : Int) + (p.size : Int)).toNat = k + p.size := by omega
      have hst := Lib.hid (has_step s p.data.toList k (by omega))
      have hci := cut_is s p k hlt
      cases hc : p.data.toList.isPrefixOf (s.data.toList.drop k) with
      | true =>
        have hr : Hid (hasL s.data.toList p.data.toList = true) := by show _ = _; rw [he.out, hst.out, hc]; rfl
        rw [hc] at hci
        clear hst
        go_wp2_with fail
        go_ret
        exact ⟨ret_bool (by rw [hr.out]), rfl⟩
      | false =>
        have hr : Hid (hasL s.data.toList p.data.toList = hasL (s.data.toList.drop (k + 1)) p.data.toList) := by show _ = _; rw [he.out, hst.out, hc]; rfl
        rw [hc] at hci
        clear hst
        go_wp2_with fail
        go_round
        case measure => simp [RowKit.intOf] <;> omega
        case rel => exact ⟨k + 1, by omega, by go_num, hr, trivial⟩
    · have d1 : decide ((k : Int) + (p.size : Int) ≤ (s.size : Int)) = false := decide_eq_false (by omega)
      have hr : Hid (hasL s.data.toList p.data.toList = false) := by show _ = _; rw [he.out, has_end s _ k HPN.out (by rw [HPL.out]; omega)]
      go_wp2_with fail
      go_ret
      exact ⟨ret_bool (by rw [hr.out]), rfl⟩

set_option maxHeartbeats 2000000 in
set_option maxRecDepth 100000 in
theorem refEnds_1 (s : ByteArray) (w : World) (hs : s.size ≤ 1000000) :
    Calls Tryd.prog 16 #[.string s, .int .i64 1] w fun e w' => e = .returned (.bool (endsK s.data.toList 1)) ∧ Below w.heap.size w w' := by
  have hr : Hid (endsK s.data.toList 1 = (hasL (s.data.toList.map lowU) pPre || (hasL (s.data.toList.map lowU) pScript || (hasL (s.data.toList.map lowU) pStyle || hasL (s.data.toList.map lowU) pArea)))) := by
    show _ = _; unfold endsK; rw [if_pos rfl]
  have hsm := small_calls s w hs
  obtain ⟨M, hM⟩ : ∃ M : ByteArray, (⟨(s.data.toList.map lowU).toArray⟩ : ByteArray) = M := ⟨_, rfl⟩
  have hMd : M.data.toList = s.data.toList.map lowU := by rw [← hM]
  have hMs : M.size ≤ 1000000 := by rw [← lst_size, hMd, List.length_map, lst_size]; exact hs
  rw [hM] at hsm
  rw [← hMd] at hr
  clear hM hMd
  go_enter Tryd.func16, Tryd.ntmps16
  go_wp2_with fail
  refine hsm.mono ?_
  rintro e w1 ⟨rfl, hB⟩
  clear hsm
  go_wp2_with fail
  refine (refHas_calls M ⟨#[60, 47, 112, 114, 101, 62]⟩ _ hMs (by decide) (by decide)).mono ?_
  rintro e w2 ⟨rfl, rfl⟩
  rw [show (ByteArray.mk #[60, 47, 112, 114, 101, 62]).data.toList = pPre from rfl]
  cases h0 : hasL M.data.toList pPre with
  | true =>
    go_wp2_with fail
    go_ret
    exact ⟨ret_bool (by rw [hr.out]; simp [h0]), hB⟩
  | false =>
    go_wp2_with fail
    refine (refHas_calls M ⟨#[60, 47, 115, 99, 114, 105, 112, 116, 62]⟩ _ hMs (by decide) (by decide)).mono ?_
    rintro e w3 ⟨rfl, rfl⟩
    rw [show (ByteArray.mk #[60, 47, 115, 99, 114, 105, 112, 116, 62]).data.toList = pScript from rfl]
    cases h1 : hasL M.data.toList pScript with
    | true =>
      go_wp2_with fail
      go_ret
      exact ⟨ret_bool (by rw [hr.out]; simp [h0, h1]), hB⟩
    | false =>
      go_wp2_with fail
      refine (refHas_calls M ⟨#[60, 47, 115, 116, 121, 108, 101, 62]⟩ _ hMs (by decide) (by decide)).mono ?_
      rintro e w4 ⟨rfl, rfl⟩
      rw [show (ByteArray.mk #[60, 47, 115, 116, 121, 108, 101, 62]).data.toList = pStyle from rfl]
      cases h2 : hasL M.data.toList pStyle with
      | true =>
        go_wp2_with fail
        go_ret
        exact ⟨ret_bool (by rw [hr.out]; simp [h0, h1, h2]), hB⟩
      | false =>
        go_wp2_with fail
        refine (refHas_calls M ⟨#[60, 47, 116, 101, 120, 116, 97, 114, 101, 97, 62]⟩ _ hMs (by decide) (by decide)).mono ?_
        rintro e w5 ⟨rfl, rfl⟩
        rw [show (ByteArray.mk #[60, 47, 116, 101, 120, 116, 97, 114, 101, 97, 62]).data.toList = pArea from rfl]
        go_wp2_with fail
        go_ret
        exact ⟨ret_bool (by rw [hr.out]; simp [h0, h1, h2]), hB⟩

set_option maxHeartbeats 2000000 in
set_option maxRecDepth 100000 in
theorem refEnds_2 (s : ByteArray) (w : World) (hs : s.size ≤ 1000000) :
    Calls Tryd.prog 16 #[.string s, .int .i64 2] w fun e w' => e = .returned (.bool (endsK s.data.toList 2)) ∧ Below w.heap.size w w' := by
  go_enter Tryd.func16, Tryd.ntmps16
  go_wp2_with fail
  refine (refHas_calls s ⟨#[45, 45, 62]⟩ _ hs (by decide) (by decide)).mono ?_
  rintro e w1 ⟨rfl, rfl⟩
  go_wp2_with fail
  go_ret
  exact ⟨rfl, Below.refl _ _⟩

set_option maxHeartbeats 2000000 in
set_option maxRecDepth 100000 in
theorem refEnds_3 (s : ByteArray) (w : World) (hs : s.size ≤ 1000000) :
    Calls Tryd.prog 16 #[.string s, .int .i64 3] w fun e w' => e = .returned (.bool (endsK s.data.toList 3)) ∧ Below w.heap.size w w' := by
  go_enter Tryd.func16, Tryd.ntmps16
  go_wp2_with fail
  refine (refHas_calls s ⟨#[63, 62]⟩ _ hs (by decide) (by decide)).mono ?_
  rintro e w1 ⟨rfl, rfl⟩
  go_wp2_with fail
  go_ret
  exact ⟨rfl, Below.refl _ _⟩

set_option maxHeartbeats 2000000 in
set_option maxRecDepth 100000 in
theorem refEnds_4 (s : ByteArray) (w : World) (hs : s.size ≤ 1000000) :
    Calls Tryd.prog 16 #[.string s, .int .i64 4] w fun e w' => e = .returned (.bool (endsK s.data.toList 4)) ∧ Below w.heap.size w w' := by
  go_enter Tryd.func16, Tryd.ntmps16
  go_wp2_with fail
  refine (refHas_calls s ⟨#[62]⟩ _ hs (by decide) (by decide)).mono ?_
  rintro e w1 ⟨rfl, rfl⟩
  go_wp2_with fail
  go_ret
  exact ⟨rfl, Below.refl _ _⟩

set_option maxHeartbeats 2000000 in
set_option maxRecDepth 100000 in
theorem refEnds_5 (s : ByteArray) (w : World) (hs : s.size ≤ 1000000) :
    Calls Tryd.prog 16 #[.string s, .int .i64 5] w fun e w' => e = .returned (.bool (endsK s.data.toList 5)) ∧ Below w.heap.size w w' := by
  go_enter Tryd.func16, Tryd.ntmps16
  go_wp2_with fail
  refine (refHas_calls s ⟨#[93, 93, 62]⟩ _ hs (by decide) (by decide)).mono ?_
  rintro e w1 ⟨rfl, rfl⟩
  go_wp2_with fail
  go_ret
  exact ⟨rfl, Below.refl _ _⟩

set_option maxHeartbeats 2000000 in
set_option maxRecDepth 100000 in
theorem refEnds_no (s : ByteArray) (w : World) (kind : Int) (h1 : kind ≠ 1) (h2 : kind ≠ 2) (h3 : kind ≠ 3) (h4 : kind ≠ 4) (h5 : kind ≠ 5) :
    Calls Tryd.prog 16 #[.string s, .int .i64 kind] w fun e w' => e = .returned (.bool (endsK s.data.toList kind)) ∧ Below w.heap.size w w' := by
  have hr : Hid (endsK s.data.toList kind = false) := by
    show _ = _; unfold endsK; rw [if_neg h1, if_neg h2, if_neg h3, if_neg h4, if_neg h5]
  have e1 : (kind == 1) = false := beq_eq_false_iff_ne.2 h1
  have e2 : (kind == 2) = false := beq_eq_false_iff_ne.2 h2
  have e3 : (kind == 3) = false := beq_eq_false_iff_ne.2 h3
  have e4 : (kind == 4) = false := beq_eq_false_iff_ne.2 h4
  have e5 : (kind == 5) = false := beq_eq_false_iff_ne.2 h5
  clear h1 h2 h3 h4 h5
  go_enter Tryd.func16, Tryd.ntmps16
  go_wp2_with fail
  go_ret
  exact ⟨ret_bool hr.out.symm, Below.refl _ _⟩

theorem refEnds_calls (s : ByteArray) (kind : Int) (w : World) (hs : s.size ≤ 1000000) :
    Calls Tryd.prog 16 #[.string s, .int .i64 kind] w fun e w' => e = .returned (.bool (endsK s.data.toList kind)) ∧ Below w.heap.size w w' := by
  by_cases h1 : kind = 1
  · subst h1; exact refEnds_1 s w hs
  by_cases h2 : kind = 2
  · subst h2; exact refEnds_2 s w hs
  by_cases h3 : kind = 3
  · subst h3; exact refEnds_3 s w hs
  by_cases h4 : kind = 4
  · subst h4; exact refEnds_4 s w hs
  by_cases h5 : kind = 5
  · subst h5; exact refEnds_5 s w hs
  exact refEnds_no s w kind h1 h2 h3 h4 h5

end Go.Proofs.YtjaidphlphncjaaDoor
