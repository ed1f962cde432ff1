/- Walk: tag.Kind. -/
import Derived.Test.YtjaidphlphncjaaDoorTagKind
import Derived.Shelf.Strings.SlTrimAscii
namespace Go.Proofs.YtjaidphlphncjaaDoor
set_option linter.unusedVariables false
set_option linter.unusedSimpArgs false
open Go Go.RowKit Go.Lib

theorem infoSet : (Tryd.prog.info? (Tryd.lays160_ren.t 116)).map (fun i => (i.zero, i.size)) = some (some (.agg (Array.replicate 256 (.bool false))), 256) := by kernel_rfl

theorem TrimT_calls (s set : ByteArray) (w : World) (hs : s.size ≤ 1000000) (ht : set.size ≤ 1000000) (hA : Ascii set.data.toList) :
    Calls Tryd.prog 34 #[.string s, .string set] w fun e w' => e = .returned (.string (trimB s set)) ∧ Below w.heap.size w w' :=
  Any.strings_Trim_laid Tryd.lays160 infoSet s set w (by omega) (by omega) (ascii_at hA)

/-- what stands behind '<', a tag's name there, and behind it -/
def restF (s : ByteArray) : ByteArray := s.extract 1 s.size
def rest2F (s : ByteArray) : ByteArray := ⟨(Lib.trimPrefix (restF s).data.toList [47]).toArray⟩
def headW (s : ByteArray) : ByteArray := s.extract 0 (lead s wordT)
def kindF (s : ByteArray) : Nat :=
  if Lib.hasPrefix s.data.toList [60] = true then
    if (verbF (headW (restF s)) && endF (cutL (restF s) wordT)) = true then 1
    else if Lib.hasPrefix s.data.toList [60, 33, 45, 45] = true then 2
    else if Lib.hasPrefix s.data.toList [60, 63] = true then 3
    else if declF s = true then 4
    else if Lib.hasPrefix s.data.toList [60, 33, 91, 67, 68, 65, 84, 65, 91] = true then 5
    else if (blockF (headW (rest2F s)) && (Lib.hasPrefix (cutL (rest2F s) wordT).data.toList [47, 62] || endF (cutL (rest2F s) wordT))) = true then 6
    else if (decide (0 < openN s) && emptyB (s.extract (openN s) s.size)) = true then 7
    else 0
  else 0

theorem headW_low (s : ByteArray) : ∀ c ∈ (headW s).data.toList, c.toNat < 128 := by
  intro c hc
  unfold headW at hc
  rw [Lib.extract_data] at hc
  simp only [Nat.sub_zero, List.drop_zero] at hc
  rw [lead_list] at hc
  have := lf_in _ _ c hc
  rw [List.contains_eq_mem, decide_eq_true_eq] at this
  exact word_low c this
theorem headW_size (s : ByteArray) : (headW s).size ≤ s.size := by unfold headW; rw [ByteArray.size_extract]; omega
theorem rest_size (s : ByteArray) : (restF s).size ≤ s.size := by unfold restF; rw [Lib.tail_size]; omega
theorem rest2_size (s : ByteArray) : (rest2F s).size ≤ s.size := by
  have h := Lib.trimPrefix_le
  have h1 := rest_size s
  unfold rest2F
  have : (Lib.trimPrefix (restF s).data.toList [47]).length ≤ (restF s).data.toList.length := by
    unfold Lib.trimPrefix
    split
    · rw [List.length_drop]; omega
    · omega
  rw [Lib.size_eq]
  rw [lst_size] at this
  exact Nat.le_trans this h1
theorem openN_le (s : ByteArray) : openN s ≤ s.size := by
  unfold openN
  cases h : openF s with
  | none => exact Nat.zero_le _
  | some k => exact (openF_bd s k h).2

theorem Kind_no (s : ByteArray) (w : World) (h : Lib.hasPrefix s.data.toList [60] = false) :
    Calls Tryd.prog 13 #[.string s] w fun e w' => e = .returned (.int .i64 (kindF s : Nat)) ∧ Below w.heap.size w w' := by
  have hr : Hid (kindF s = 0) := by show _ = _; unfold kindF; rw [h]; rfl
  go_enter Tryd.func13, Tryd.ntmps13
  go_wp2_with fail
  refine (Tryd.strings_CutPrefix s ⟨#[60]⟩ _).mono ?_
  rintro e w1 ⟨rfl, rfl⟩
  rw [show (ByteArray.mk #[60]).data.toList = [60] from rfl, h]
  go_wp2_with fail
  go_ret
  exact ⟨ret_int (by rw [hr.out]; rfl), Below.refl _ _⟩

set_option maxHeartbeats 8000000 in
set_option maxRecDepth 100000 in
theorem Kind_yes (s : ByteArray) (w : World) (hM : MaxL w) (hT : Tabs w) (hw : 0 < w.heap.size) (hs : s.size ≤ 1000000) (h : Lib.hasPrefix s.data.toList [60] = true) :
    Calls Tryd.prog 13 #[.string s] w fun e w' => e = .returned (.int .i64 (kindF s : Nat)) ∧ Below w.heap.size w w' := by
  have hk : Hid (kindF s = if (verbF (headW (restF s)) && endF (cutL (restF s) wordT)) = true then 1
    else if Lib.hasPrefix s.data.toList [60, 33, 45, 45] = true then 2
    else if Lib.hasPrefix s.data.toList [60, 63] = true then 3
    else if declF s = true then 4
    else if Lib.hasPrefix s.data.toList [60, 33, 91, 67, 68, 65, 84, 65, 91] = true then 5
    else if (blockF (headW (rest2F s)) && (Lib.hasPrefix (cutL (rest2F s) wordT).data.toList [47, 62] || endF (cutL (rest2F s) wordT))) = true then 6
    else if (decide (0 < openN s) && emptyB (s.extract (openN s) s.size)) = true then 7
    else 0) := by show _ = _; unfold kindF; rw [if_pos h]
  have HM := Lib.hid hM
  have HT := Lib.hid hT
  clear hM hT
  have e1 : (⟨(Lib.trimPrefix s.data.toList [60]).toArray⟩ : ByteArray) = restF s := trim_hit s 60 h
  have z1 := rest_size s
  have z2 := rest2_size s
  have a1 := headW_low (restF s)
  have a2 := headW_low (rest2F s)
  have y1 := headW_size (restF s)
  have y2 := headW_size (rest2F s)
  have q1 := fun w => name_calls (restF s) w (by omega)
  have q2 := fun w => name_calls (rest2F s) w (by omega)
  have hE1 : (⟨(Lib.trimPrefix (restF s).data.toList [47]).toArray⟩ : ByteArray) = rest2F s := rfl
  rw [show (restF s).extract 0 (lead (restF s) wordT) = headW (restF s) from rfl] at q1
  rw [show (rest2F s).extract 0 (lead (rest2F s) wordT) = headW (rest2F s) from rfl] at q2
  have hop := openN_le s
  generalize headW (restF s) = t1 at *
  generalize headW (rest2F s) = t2 at *
  generalize cutL (restF s) wordT = u1 at *
  generalize cutL (rest2F s) wordT = u2 at *
  have HE1 := Lib.hid hE1
  have E1 := Lib.hid e1
  clear e1 hE1
  go_enter Tryd.func13, Tryd.ntmps13
  go_wp2_with fail
  refine (Tryd.strings_CutPrefix s ⟨#[60]⟩ _).mono ?_
  rintro e w1 ⟨rfl, rfl⟩
  rw [show (ByteArray.mk #[60]).data.toList = [60] from rfl, h, E1.out]
  clear h E1
  go_wp2_with fail
  refine (q1 _).mono ?_
  rintro e w2 ⟨rfl, b1⟩
  clear q1
  go_upto_region 5 with (fail)
  go_cut [27] (fun v wx => v = .bool (verbF t1 && endF u1) ∧ Below w1.heap.size w1 wx)
  case first =>
    clear hk q2 HE1
    go_wp2_with fail
    refine (verbatim_calls t1 _ (by omega) a1).mono ?_
    rintro e w3 ⟨rfl, b2⟩
    replace b1 := b1.trans (b2.mono b1.size)
    clear b2 a1
    cases hv : verbF t1 with
    | true =>
      go_wp2_with fail
      refine (ends_nil u1 _).mono ?_
      rintro e w4 ⟨rfl, b2⟩
      replace b1 := b1.trans (b2.mono b1.size)
      clear b2
      go_wp2_with fail
      go_meet
      exact ⟨by rw [hv]; rfl, b1⟩
    | false =>
      go_wp2_with fail
      go_meet
      exact ⟨by rw [hv]; rfl, b1⟩
  case rest =>
    obtain ⟨rfl, b1⟩ := hcut
    cases hve : (verbF t1 && endF u1) with
    | true =>
      have hr : Hid (kindF s = 1) := by show _ = _; rw [hk.out, if_pos hve]
      clear hk
      go_wp2_with fail
      go_ret
      exact ⟨ret_int (by rw [hr.out]; rfl), b1⟩
    | false =>
      go_wp2_with fail
      refine (Tryd.strings_TrimPrefix (restF s) ⟨#[47]⟩ _).mono ?_
      rintro e w3 ⟨rfl, rfl⟩
      rw [show (ByteArray.mk #[47]).data.toList = [47] from rfl, HE1.out]
      go_wp2_with fail
      refine (q2 _).mono ?_
      rintro e w4 ⟨rfl, b2⟩
      replace b1 := b1.trans (b2.mono b1.size)
      clear b2 q2
      go_wp2_with fail
      refine (Tryd.strings_HasPrefix s ⟨#[60, 33, 45, 45]⟩ _).mono ?_
      rintro e x0 ⟨rfl, rfl⟩
      rw [show (ByteArray.mk #[60, 33, 45, 45]).data.toList = [60, 33, 45, 45] from rfl]
      cases h2 : Lib.hasPrefix s.data.toList [60, 33, 45, 45] with
      | true =>
        have hr : Hid (kindF s = 2) := by show _ = _; rw [hk.out, if_neg (by rw [hve]; simp), if_pos h2]
        clear hk
        go_wp2_with fail
        go_ret
        exact ⟨ret_int (by rw [hr.out]; rfl), b1⟩
      | false =>
        go_wp2_with fail
        refine (Tryd.strings_HasPrefix s ⟨#[60, 63]⟩ _).mono ?_
        rintro e x1 ⟨rfl, rfl⟩
        rw [show (ByteArray.mk #[60, 63]).data.toList = [60, 63] from rfl]
        cases h3 : Lib.hasPrefix s.data.toList [60, 63] with
        | true =>
          have hr : Hid (kindF s = 3) := by show _ = _; rw [hk.out, if_neg (by rw [hve]; simp), if_neg (by rw [h2]; simp), if_pos h3]
          clear hk
          go_wp2_with fail
          go_ret
          exact ⟨ret_int (by rw [hr.out]; rfl), b1⟩
        | false =>
          go_wp2_with fail
          refine (declares_calls s _ hs).mono ?_
          rintro e x2 ⟨rfl, rfl⟩
          cases h4 : declF s with
          | true =>
            have hr : Hid (kindF s = 4) := by show _ = _; rw [hk.out, if_neg (by rw [hve]; simp), if_neg (by rw [h2]; simp), if_neg (by rw [h3]; simp), if_pos h4]
            clear hk
            go_wp2_with fail
            go_ret
            exact ⟨ret_int (by rw [hr.out]; rfl), b1⟩
          | false =>
            go_wp2_with fail
            refine (Tryd.strings_HasPrefix s ⟨#[60, 33, 91, 67, 68, 65, 84, 65, 91]⟩ _).mono ?_
            rintro e x3 ⟨rfl, rfl⟩
            rw [show (ByteArray.mk #[60, 33, 91, 67, 68, 65, 84, 65, 91]).data.toList = [60, 33, 91, 67, 68, 65, 84, 65, 91] from rfl]
            cases h5 : Lib.hasPrefix s.data.toList [60, 33, 91, 67, 68, 65, 84, 65, 91] with
            | true =>
              have hr : Hid (kindF s = 5) := by show _ = _; rw [hk.out, if_neg (by rw [hve]; simp), if_neg (by rw [h2]; simp), if_neg (by rw [h3]; simp), if_neg (by rw [h4]; simp), if_pos h5]
              clear hk
              go_wp2_with fail
              go_ret
              exact ⟨ret_int (by rw [hr.out]; rfl), b1⟩
            | false =>
              go_upto_region 16 with (fail)
              go_cut [46] (fun v wx => v = .bool (blockF t2 && (Lib.hasPrefix u2.data.toList [47, 62] || endF u2)) ∧ Below w1.heap.size w1 wx)
              case first =>
                clear hk
                go_wp2_with fail
                refine (Block_calls t2 _ (HM.out.below b1 hw) (Tabs.le HT.out b1 (Nat.le_refl _)) (by have := b1.size; omega) (by omega) a2).mono ?_
                rintro e y1 ⟨rfl, b2⟩
                replace b1 := b1.trans (b2.mono b1.size)
                clear b2
                cases hb : blockF t2 with
                | true =>
                  go_wp2_with fail
                  have K := heap_alloc_new y1 (Obj.cells #[Value.string ⟨#[47, 62]⟩] 9)
                  have b3 := (Below.refl y1.heap.size y1).alloc (Nat.le_refl _) (Obj.cells #[Value.string ⟨#[47, 62]⟩] 9)
                  generalize y1.alloc (Obj.cells #[Value.string ⟨#[47, 62]⟩] 9) = y2' at *
                  refine (ends_more u2 y2' y1.heap.size ⟨#[47, 62]⟩ K).mono ?_
                  rintro e y3 ⟨rfl, b4⟩
                  have b5 := b1.trans ((b3.trans b4).mono b1.size)
                  clear b3 b4 K b1
                  go_wp2_with fail
                  go_meet
                  exact ⟨by rw [hb]; rfl, b5⟩
                | false =>
                  go_wp2_with fail
                  go_meet
                  exact ⟨by rw [hb]; rfl, b1⟩
              case rest =>
                obtain ⟨rfl, b1⟩ := hcut
                cases h6 : (blockF t2 && (Lib.hasPrefix u2.data.toList [47, 62] || endF u2)) with
                | true =>
                  have hr : Hid (kindF s = 6) := by show _ = _; rw [hk.out, if_neg (by rw [hve]; simp), if_neg (by rw [h2]; simp), if_neg (by rw [h3]; simp), if_neg (by rw [h4]; simp), if_neg (by rw [h5]; simp), if_pos h6]
                  clear hk
                  go_wp2_with fail
                  go_ret
                  exact ⟨ret_int (by rw [hr.out]; rfl), b1⟩
                | false =>
                  have hk2 : Hid (kindF s = if (decide (0 < openN s) && emptyB (s.extract (openN s) s.size)) = true then 7 else 0) := by show _ = _; rw [hk.out, if_neg (by rw [hve]; simp), if_neg (by rw [h2]; simp), if_neg (by rw [h3]; simp), if_neg (by rw [h4]; simp), if_neg (by rw [h5]; simp), if_neg (by rw [h6]; simp)]
                  clear hk
                  go_wp2_with fail
                  refine (Open_calls s _ (HM.out.below b1 hw) hs (by have := b1.size; omega)).mono ?_
                  rintro e z1' ⟨rfl, b2⟩
                  replace b1 := b1.trans (b2.mono b1.size)
                  clear b2
                  generalize openN s = n at *
                  by_cases hn : 0 < n
                  · have i0 : (0 : Int) ≤ (n : Int) := by omega
                    have i1 : (n : Int) ≤ (s.size : Int) := by omega
                    have hk3 : Hid (kindF s = if emptyB (s.extract n s.size) = true then 7 else 0) := by show _ = _; rw [hk2.out, decide_eq_true hn]; simp
                    have hem : Hid (emptyB (s.extract n s.size) = (trimB (s.extract n s.size) blanksT).toList.isEmpty) := rfl
                    clear hk2
                    go_wp2_with fail
                    refine (TrimT_calls (s.extract n s.size) blanksT _ (by rw [Lib.tail_size]; omega) (by decide) blanks_ascii).mono ?_
                    rintro e z2' ⟨rfl, b2⟩
                    replace b1 := b1.trans (b2.mono b1.size)
                    clear b2
                    cases hz : (trimB (s.extract n s.size) blanksT).toList.isEmpty with
                    | true =>
                      go_wp2_with fail
                      go_ret
                      exact ⟨ret_int (by rw [hk3.out, hem.out, hz]; rfl), b1⟩
                    | false =>
                      go_wp2_with fail
                      go_ret
                      exact ⟨ret_int (by rw [hk3.out, hem.out, hz]; rfl), b1⟩
                  · have hk3 : Hid (kindF s = 0) := by show _ = _; rw [hk2.out, decide_eq_false hn]; rfl
                    clear hk2
                    go_wp2_with fail
                    go_ret
                    exact ⟨ret_int (by rw [hk3.out]; rfl), b1⟩

theorem Kind_calls (s : ByteArray) (w : World) (hM : MaxL w) (hT : Tabs w) (hw : 0 < w.heap.size) (hs : s.size ≤ 1000000) :
    Calls Tryd.prog 13 #[.string s] w fun e w' => e = .returned (.int .i64 (kindF s : Nat)) ∧ Below w.heap.size w w' := by
  cases h : Lib.hasPrefix s.data.toList [60] with
  | true => exact Kind_yes s w hM hT hw hs h
  | false => exact Kind_no s w h

end Go.Proofs.YtjaidphlphncjaaDoor
