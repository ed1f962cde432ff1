/- Walks: escape.numeric. -/
import Derived.Test.YtcpbljhogenjoaaDoorEscNum
import Derived.Deep.QuietTactic
import Derived.Deep.DeepCutAuto
import Derived.Deep.CutBlock
namespace Go.Proofs.YtcpbljhogenjoaaDoor
set_option linter.unusedVariables false
set_option linter.unusedSimpArgs false
open Go Go.RowKit Go.Shelf Go.Lib

/-- does a text begin with x or X? -/
def hexIs (t : ByteArray) : Bool := byteU t 0 == 120 || byteU t 0 == 88

theorem set_ascii (x : Bool) : Ascii (setOf x).data.toList := by
  cases x
  · exact nums_low
  · exact hexes_low
theorem set_size (x : Bool) : (setOf x).size ≤ 1000000 := by cases x <;> decide

theorem pre_at (t : ByteArray) (k : Nat) (c : UInt8) (hk : k ≤ t.size) : Lib.hasPrefix (t.extract k t.size).data.toList [c] = (decide (k < t.size) && byteU t k == c) := by
  rw [pre_at0, tail_byte, tail_sz, Nat.add_zero]
  have : decide (0 < t.size - k) = decide (k < t.size) := by rw [decide_eq_decide]; omega
  rw [this]

theorem numN_le (t : ByteArray) (x : Bool) (f : Nat) (hf : f ≤ t.size) : f + numN t x f ≤ t.size := by
  have := leadN_le t (setOf x) f hf
  unfold numN; omega
theorem numN_7 (t : ByteArray) (x : Bool) (f : Nat) : numN t x f ≤ 7 := by
  unfold numN mostOf; split <;> omega
theorem num_digits (t : ByteArray) (x : Bool) (f : Nat) : ∀ c ∈ (t.extract f (f + numN t x f)).data.toList, digIn x c = true := by
  intro c hc
  rw [Lib.extract_data, show f + numN t x f - f = numN t x f by omega] at hc
  have h1 := lf_in (t.data.toList.drop f) (setOf x).data.toList c
  rw [set_contains] at h1
  apply h1
  exact (List.take_prefix_take_left (l := t.data.toList.drop f) (show numN t x f ≤ leadFrom (t.data.toList.drop f) (setOf x).data.toList by unfold numN; exact Nat.min_le_left _ _)).subset hc

theorem numF_of (t : ByteArray) (x : Bool) (hx : hexIs t = x) (n : Nat) (hn : numN t x (atOf x 0) = n) :
    numF t 0 = if (decide (0 < n) && (decide (atOf x 0 + n < t.size) && byteU t (atOf x 0 + n) == 59)) = true then (charF (valB (baseOf x) (t.extract (atOf x 0) (atOf x 0 + n)).data.toList), atOf x 0 + n + 1) else (⟨#[]⟩, 0) := by
  unfold numF
  unfold hexIs at hx
  simp only [hx, hn]

set_option maxHeartbeats 4000000 in
set_option maxRecDepth 100000 in
theorem numeric_calls (t : ByteArray) (w : World) (hE : EnvE w) (hs : t.size ≤ 1000000) :
    Calls Tryd.prog 41 #[.string t] w fun e w' => e = .returned (.tuple #[.string (numF t 0).1, .int .i64 ((numF t 0).2 : Nat)]) ∧ Below w.heap.size w w' := by
  have HE := Lib.hid hE
  clear hE
  have hof := Lib.hid (numF_of t (hexIs t) rfl _ rfl)
  go_enter Tryd.func41, Tryd.ntmps41
  go_upto_region 2 with (fail)
  go_cut [22] (fun v wx => v = .bool (hexIs t) ∧ w = wx)
  case first =>
   as_aux_lemma =>
    by_cases h0 : 0 < t.size
    · have hemp : t.toList.isEmpty = false := toList_ne h0
      have g0 : (0 : Int) < (t.size : Int) := by omega
      have hx : Hid (hexIs t = (t[0] == 120 || t[0] == 88)) := by show _ = _; unfold hexIs; rw [byteU_in t 0 h0]
      have u1 : ((t[0].toNat : Int) == 120) = (t[0] == 120) := u8_eq t[0] 120
      have u2 : ((t[0].toNat : Int) == 88) = (t[0] == 88) := u8_eq t[0] 88
      clear hof
      cases b1 : (t[0] == 120) with
      | true =>
        rw [b1] at u1
        go_wp2_with fail
        go_meet
        exact ⟨by rw [hx.out, b1]; rfl, rfl⟩
      | false =>
        rw [b1] at u1
        cases b2 : (t[0] == 88) with
        | true =>
          rw [b2] at u2
          go_wp2_with fail
          go_meet
          exact ⟨by rw [hx.out, b1, b2]; rfl, rfl⟩
        | false =>
          rw [b2] at u2
          go_wp2_with fail
          go_meet
          exact ⟨by rw [hx.out, b1, b2]; rfl, rfl⟩
    · have hemp : t.toList.isEmpty = true := by rw [toList_nil (by omega)]; rfl
      have hx : Hid (hexIs t = false) := by show _ = _; unfold hexIs; rw [byteU_out t 0 (by omega)]; rfl
      clear hof
      go_wp2_with fail
      go_meet
      exact ⟨by rw [hx.out], rfl⟩
  case rest =>
    obtain ⟨rfl, rfl⟩ := hcut
    have hx0 : Hid (hexIs t = true → 1 ≤ t.size) := by
      intro h
      unfold hexIs at h
      by_cases h0 : 0 < t.size
      · omega
      · rw [byteU_out t 0 (by omega)] at h; exact absurd h (by decide)
    generalize hexIs t = x at *
    go_upto_if 22 with (fail)
    go_cut [4, 5, 6, 7] (fun v4 v5 v6 v7 wx => v4 = .string (setOf x) ∧ v5 = .int .i64 (baseOf x : Nat) ∧ v6 = .int .i64 (mostOf x : Nat) ∧ v7 = .int .i64 (atOf x 0 : Nat) ∧ w = wx)
    case first =>
     as_aux_lemma =>
      clear hof
      cases x with
      | true =>
        go_wp2_with fail
        go_meet
        exact ⟨rfl, rfl, rfl, rfl, rfl⟩
      | false =>
        go_wp2_with fail
        go_meet
        exact ⟨rfl, rfl, rfl, rfl, rfl⟩
    case rest =>
      obtain ⟨rfl, rfl, rfl, rfl, rfl⟩ := hcut
      have hf : atOf x 0 ≤ t.size := by
        cases x with
        | true => exact hx0.out rfl
        | false => exact Nat.zero_le _
      have hn1 := numN_le t x (atOf x 0) hf
      have hn7 := numN_7 t x (atOf x 0)
      have hdg := Lib.hid (num_digits t x (atOf x 0))
      have hfr := fun w => front_calls (t.extract (atOf x 0) t.size) (setOf x) (mostOf x) w (by rw [tail_sz]; omega) (set_size x) (set_ascii x) (by cases x <;> decide)
      have hd : (t.extract (atOf x 0) t.size).extract 0 (min (lead (t.extract (atOf x 0) t.size) (setOf x)) (mostOf x)) = t.extract (atOf x 0) (atOf x 0 + numN t x (atOf x 0)) := by
        rw [lead_tail]
        exact tail_ext t _ 0 _ hf (by unfold numN at hn1; omega)
      rw [hd] at hfr
      clear hd hx0
      have hpi := fun w => pIntX x (t.extract (atOf x 0) (atOf x 0 + numN t x (atOf x 0))) (w := w)
      have hz : (t.extract (atOf x 0) (atOf x 0 + numN t x (atOf x 0))).size = numN t x (atOf x 0) := by rw [ByteArray.size_extract]; omega
      have hvs := valB_small x (t.extract (atOf x 0) (atOf x 0 + numN t x (atOf x 0))).data.toList (by rw [lst_size]; omega) hdg.out
      have hpr := fun w => Tryd.strings_HasPrefix (t.extract (atOf x 0 + numN t x (atOf x 0)) t.size) ⟨#[59]⟩ w
      rw [show (ByteArray.mk #[59]).data.toList = [59] from rfl, pre_at t _ 59 hn1] at hpr
      have he0 : numN t x (atOf x 0) = 0 → t.extract (atOf x 0) (atOf x 0 + numN t x (atOf x 0)) = ⟨#[]⟩ := by
        intro h; rw [h]; apply ba_ext; rw [Lib.extract_data]; simp
      have HE0 := Lib.hid he0
      clear he0
      have hch := fun w => char_calls (valB (baseOf x) (t.extract (atOf x 0) (atOf x 0 + numN t x (atOf x 0))).data.toList) w (by omega)
      generalize valB (baseOf x) (t.extract (atOf x 0) (atOf x 0 + numN t x (atOf x 0))).data.toList = V at *
      generalize t.extract (atOf x 0) (atOf x 0 + numN t x (atOf x 0)) = D at *
      generalize numN t x (atOf x 0) = n at *
      generalize mostOf x = m at *
      generalize setOf x = st at *
      generalize atOf x 0 = f at *
      subst hz
      have i0 : (0 : Int) ≤ (f : Int) := by omega
      have i1 : (f : Int) ≤ (t.size : Int) := by omega
      have i2 : (0 : Int) ≤ (f : Int) + (D.size : Int) := by omega
      have i3 : (f : Int) + (D.size : Int) ≤ (t.size : Int) := by omega
      have e1 : IntKind.i64.wrap ((f : Int) + (D.size : Int)) = (f : Int) + (D.size : Int) := IntWalk.i64_in _ (by omega)
      have e2 : IntKind.i64.wrap ((f : Int) + (D.size : Int) + 1) = (f : Int) + (D.size : Int) + 1 := IntWalk.i64_in _ (by omega)
      have HV := Lib.hid hvs
      clear hvs
      go_wp2_with fail
      refine (hfr _).mono ?_
      rintro e w1 ⟨rfl, hB⟩
      clear hfr
      by_cases h0 : D.size = 0
      · have hr : Hid (numF t 0 = (⟨#[]⟩, 0)) := by
          show _ = _
          rw [hof.out, h0]; rfl
        have hD := HE0.out h0
        clear hof hpi hpr hch hdg HE0 h0
        subst hD
        go_wp2_with fail
        refine (pIntNo _ _ (HE.out.below hB)).mono ?_
        rintro e w2 ⟨⟨p, rfl⟩, hB2⟩
        go_wp2_with fail
        go_ret2
        exact ⟨ret_si (by rw [hr.out]) (by rw [hr.out]; rfl), hB.trans (hB2.mono hB.size)⟩
      · have h1 : 0 < D.size := by omega
        have hq := fun w => hpi w h1 hn7 hdg.out
        have d0 : decide (0 < D.size) = true := decide_eq_true h1
        rw [d0, Bool.true_and] at hof
        clear hpi hdg HE0 h0 d0
        cases hc : (decide (f + D.size < t.size) && byteU t (f + D.size) == 59) with
        | true =>
          have hr : Hid (numF t 0 = (charF V, f + D.size + 1)) := by show _ = _; rw [hof.out, if_pos hc]
          rw [hc] at hpr
          clear hof hc
          go_wp2_with fail
          refine (hq _).mono ?_
          rintro e w2 ⟨rfl, hB2⟩
          go_wp2_with fail
          refine (hpr _).mono ?_
          rintro e w3 ⟨rfl, rfl⟩
          go_wp2_with fail
          refine (hch _).mono ?_
          rintro e w3 ⟨rfl, rfl⟩
          go_wp2_with fail
          go_ret2
          exact ⟨ret_si (by rw [hr.out]) (by rw [hr.out]; simp), hB.trans (hB2.mono hB.size)⟩
        | false =>
          have hr : Hid (numF t 0 = (⟨#[]⟩, 0)) := by show _ = _; rw [hof.out, if_neg (by rw [hc]; decide)]
          rw [hc] at hpr
          clear hof hc
          go_wp2_with fail
          refine (hq _).mono ?_
          rintro e w2 ⟨rfl, hB2⟩
          go_wp2_with fail
          refine (hpr _).mono ?_
          rintro e w3 ⟨rfl, rfl⟩
          go_wp2_with fail
          go_ret2
          exact ⟨ret_si (by rw [hr.out]) (by rw [hr.out]; rfl), hB.trans (hB2.mono hB.size)⟩

end Go.Proofs.YtcpbljhogenjoaaDoor
