/- Walks: link's reference: Label. -/
import Derived.Test.YtcpbljhogenjoaaGreatDoorLink8A
import Derived.Test.YtcpbljhogenjoaaGreatDoorLinkDefine2
import Derived.Deep.QuietTactic
import Derived.Deep.DeepCutAuto
import Derived.Deep.CutBlock
namespace Go.Proofs.YtcpbljhogenjoaaGreatDoor
set_option linter.unusedVariables false
set_option linter.unusedSimpArgs false
open Go Go.RowKit Go.Shelf Go.Lib

/-- has the text from f to k a byte that is no blank? -/
def someB (s : ByteArray) (f k : Nat) : Bool := !((s.extract f k).data.toList.all gapU)

theorem some_zero (s : ByteArray) (f : Nat) : someB s f f = false := by
  unfold someB
  rw [Lib.extract_data, Nat.sub_self, List.take_zero]; rfl

theorem ext_step (s : ByteArray) (f k : Nat) (h1 : f ≤ k) (h : k < s.size) : (s.extract f (k + 1)).data.toList = (s.extract f k).data.toList ++ [s[k]] := by
  have := ext_snoc s f (k + 1) (by omega) (by omega)
  exact this

theorem some_step (s : ByteArray) (f k : Nat) (h1 : f ≤ k) (h : k < s.size) : someB s f (k + stepN s k) = (someB s f k || !gapU s[k]) := by
  unfold someB
  have e1 := ext_step s f k h1 h
  unfold stepN
  split
  · rename_i he
    have h2 := escU_in s k he
    have hb : s[k] = 92 := by
      unfold escU at he
      rw [byteU_in s k h] at he
      simp only [Bool.and_eq_true, beq_iff_eq] at he
      exact he.1
    have e2 := ext_step s f (k + 1) (by omega) h2
    rw [show k + 2 = k + 1 + 1 from rfl, e2, e1, hb]
    simp [gapU]
  · rw [e1]
    simp [List.all_append, Bool.not_and]

theorem labelI_at (s : ByteArray) (a e : Nat) (h : a < s.size) (hb : (s[a] == 91) = true) (he : upF s lstopU (a + 1) = e) (q : Bool) (hq : someB s (a + 1) e = q) :
    labelI s a = if (decide (e < s.size) && (byteU s e == 93 && (decide (e - a ≤ 1000) && q))) = true then (s.extract (a + 1) e, e + 1 - a) else (⟨#[]⟩, 0) := by
  rw [labelI_nat]
  unfold labelF
  unfold someB at hq
  simp only [he]
  rw [byteU_in s a h, hb, decide_eq_true h, hq, Bool.true_and, Bool.true_and]

theorem labelI_not (s : ByteArray) (a : Nat) (h : a < s.size) (hb : (s[a] == 91) = false) : labelI s a = (⟨#[]⟩, 0) := by
  rw [labelI_nat]
  unfold labelF
  simp only []
  rw [byteU_in s a h, hb]; simp

set_option maxHeartbeats 4000000 in
set_option maxRecDepth 100000 in
theorem rLabel_out (s : ByteArray) (a : Int) (w : World) (hs : s.size ≤ 1000000) (h : a < 0 ∨ 0 ≤ a ∧ (s.size : Int) ≤ a) :
    Calls Tryz.prog 7 #[.string s, .int .i64 a] w fun e w' => e = .returned (.tuple #[.string (labelI s a).1, .int .i64 ((labelI s a).2 : Nat)]) ∧ Below w.heap.size w w' := by
  have hr : Hid (labelI s a = (⟨#[]⟩, 0)) := labelI_out s a (by omega)
  rcases h with h | ⟨h, h2⟩
  · have d0 : decide (a < 0) = true := decide_eq_true h
    go_enter Tryz.func7, Tryz.ntmps7
    go_wp2_with fail
    go_ret2
    exact ⟨ret_si (by rw [hr.out]) (by rw [hr.out]; rfl), Below.refl _ _⟩
  · have d0 : decide (a < 0) = false := decide_eq_false (by omega)
    have d1 : decide ((s.size : Int) ≤ a) = true := decide_eq_true h2
    go_enter Tryz.func7, Tryz.ntmps7
    go_wp2_with fail
    go_ret2
    exact ⟨ret_si (by rw [hr.out]) (by rw [hr.out]; rfl), Below.refl _ _⟩

set_option maxHeartbeats 4000000 in
set_option maxRecDepth 100000 in
theorem rLabel_in (s : ByteArray) (a : Nat) (h : a < s.size) (w : World) (hs : s.size ≤ 1000000) :
    Calls Tryz.prog 7 #[.string s, .int .i64 (a : Nat)] w fun e w' => e = .returned (.tuple #[.string (labelI s a).1, .int .i64 ((labelI s a).2 : Nat)]) ∧ Below w.heap.size w w' := by
  have j0 : (0 : Int) ≤ (a : Int) := by omega
  have j1 : (a : Int) < (s.size : Int) := by omega
  have d0 : decide ((a : Int) < 0) = false := decide_eq_false (by omega)
  have d1 : decide ((s.size : Int) ≤ (a : Int)) = false := decide_eq_false (by omega)
  have d1' : decide (s.size ≤ a) = false := decide_eq_false (by omega)
  have ub : ((s[a].toNat : Int) != 91) = !(s[a] == 91) := nb s[a] 91
  cases b : (s[a] == 91) with
  | false =>
    have hr : Hid (labelI s a = (⟨#[]⟩, 0)) := labelI_not s a h b
    rw [b] at ub
    simp only [Bool.not_true, Bool.not_false] at ub
    go_enter Tryz.func7, Tryz.ntmps7
    go_wp2_with fail
    go_ret2
    exact ⟨ret_si (by rw [hr.out]) (by rw [hr.out]; rfl), Below.refl _ _⟩
  | true =>
    have hof := Lib.hid (fun e he q hq => labelI_at s a e h b he q hq)
    rw [b] at ub
    simp only [Bool.not_true, Bool.not_false] at ub
    have e1 : IntKind.i64.wrap ((a : Int) + 1) = ((a + 1 : Nat) : Int) := by rw [IntWalk.i64_in _ (by omega)]; omega
    clear b
    go_enter Tryz.func7, Tryz.ntmps7
    go_upto_block 0 with (fail)
    go_cut [6, 7] (fun v6 v7 wx => v6 = .int .i64 (upF s lstopU (a + 1) : Nat) ∧ v7 = .bool (someB s (a + 1) (upF s lstopU (a + 1))) ∧ Below w.heap.size w wx)
    case first =>
      clear hof
      go_wp2_with fail
      go_loopw [6, 7] (fun i v wr => ∃ (k : Nat) (q : Bool), a + 1 ≤ k ∧ k ≤ s.size ∧ i = .int .i64 k ∧ v = .bool q ∧ Hid (q = someB s (a + 1) k) ∧ Hid (upF s lstopU (a + 1) = upF s lstopU k) ∧ Below w.heap.size w wr) (fun i _ _ => s.size - (RowKit.intOf i).toNat)
      case atStart => exact ⟨a + 1, false, Nat.le_refl _, by omega, rfl, rfl, (some_zero s (a + 1)).symm, rfl, Below.refl _ _⟩
      case round =>
        obtain ⟨k, q, hka, hks, rfl, rfl, hq, hu, hB⟩ := hrel
        by_cases hlt : k < s.size
        · have j2 : (0 : Int) ≤ (k : Int) := by omega
          have j3 : (k : Int) < (s.size : Int) := by omega
          have u1 : ((s[k].toNat : Int) != 91) = !(s[k] == 91) := nb s[k] 91
          have u2 : ((s[k].toNat : Int) != 93) = !(s[k] == 93) := nb s[k] 93
          have hyes := Lib.hid (upF_yes s lstopU k hlt)
          have hno := Lib.hid (upF_no s lstopU k hlt)
          have hbu : Hid (byteU s k = s[k]) := byteU_in s k hlt
          have hls : Hid (lstopU s[k] = (s[k] == 91 || s[k] == 93)) := rfl
          cases b1 : (s[k] == 91) with
          | true =>
            have hf : Hid (upF s lstopU (a + 1) = k) := by show _ = _; rw [hu.out, hyes.out (by rw [hbu.out, hls.out, b1]; rfl)]
            rw [b1] at u1
            simp only [Bool.not_true, Bool.not_false] at u1
            clear hu hyes hno hbu hls
            go_wp2_with fail
            go_meet
            exact ⟨by rw [hf.out], by rw [hf.out, ← hq.out], hB⟩
          | false =>
            rw [b1] at u1
            simp only [Bool.not_true, Bool.not_false] at u1
            cases b2 : (s[k] == 93) with
            | true =>
              have hf : Hid (upF s lstopU (a + 1) = k) := by show _ = _; rw [hu.out, hyes.out (by rw [hbu.out, hls.out, b2]; simp)]
              rw [b2] at u2
              simp only [Bool.not_true, Bool.not_false] at u2
              clear hu hyes hno hbu hls
              go_wp2_with fail
              go_meet
              exact ⟨by rw [hf.out], by rw [hf.out, ← hq.out], hB⟩
            | false =>
              rw [b2] at u2
              simp only [Bool.not_true, Bool.not_false] at u2
              have hf : Hid (upF s lstopU (a + 1) = upF s lstopU (k + stepN s k)) := by show _ = _; rw [hu.out, hno.out (by rw [hbu.out, hls.out, b1, b2]; rfl)]
              have hss := some_step s (a + 1) k hka hlt
              rw [← hq.out] at hss
              have HS := Lib.hid hss
              have h1 := step_pos s k
              have h2 := step_le s k hlt
              have hst := fun w => rstep_calls s k hlt w hs
              have hbl := fun w => rblank_calls s[k] w
              clear hu hyes hno hbu hls hq hss
              generalize stepN s k = d at *
              generalize gapU s[k] = gb at *
              have e2 : IntKind.i64.wrap ((k : Int) + (d : Int)) = ((k + d : Nat) : Int) := by rw [IntWalk.i64_in _ (by omega)]; omega
              cases q with
              | true =>
                go_wp2_with fail
                refine (hst _).mono ?_
                rintro e w1 ⟨rfl, hb⟩
                go_wp2_with fail
                go_round
                case measure => simp [RowKit.intOf] <;> omega
                case rel => exact ⟨k + d, true, by omega, by omega, by go_num, rfl, by show _ = _; rw [HS.out]; rfl, hf, hB.trans (hb.mono hB.size)⟩
              | false =>
                go_wp2_with fail
                refine (hbl _).mono ?_
                rintro e w1 ⟨rfl, rfl⟩
                go_wp2_with fail
                refine (hst _).mono ?_
                rintro e w2 ⟨rfl, hb⟩
                go_wp2_with fail
                go_round
                case measure => simp [RowKit.intOf] <;> omega
                case rel => exact ⟨k + d, !gb, by omega, by omega, by go_num, rfl, by show _ = _; rw [HS.out]; rfl, hf, hB.trans (hb.mono hB.size)⟩
        · have hf : Hid (upF s lstopU (a + 1) = k) := by show _ = _; rw [hu.out, upF_end s lstopU k (by omega)]
          clear hu
          go_wp2_with fail
          go_meet
          exact ⟨by rw [hf.out], by rw [hf.out, ← hq.out], hB⟩
    case rest =>
      obtain ⟨rfl, rfl, hB⟩ := hcut
      have hge := upF_ge s lstopU (a + 1)
      have hle := upF_le s lstopU (a + 1) (by omega)
      have hof2 := Lib.hid (hof.out _ rfl _ rfl)
      clear hof
      generalize someB s (a + 1) (upF s lstopU (a + 1)) = q at *
      generalize upF s lstopU (a + 1) = e at *
      have e2 : IntKind.i64.wrap ((e : Int) - (a : Int)) = ((e - a : Nat) : Int) := by rw [IntWalk.i64_in _ (by omega)]; omega
      have e3 : IntKind.i64.wrap (((e - a : Nat) : Int) - 1) = ((e - a - 1 : Nat) : Int) := by rw [IntWalk.i64_in _ (by omega)]; omega
      have e4 : IntKind.i64.wrap ((e : Int) + 1) = ((e + 1 : Nat) : Int) := by rw [IntWalk.i64_in _ (by omega)]; omega
      have e5 : IntKind.i64.wrap (((e + 1 : Nat) : Int) - (a : Int)) = ((e + 1 - a : Nat) : Int) := by rw [IntWalk.i64_in _ (by omega)]; omega
      have j4 : (0 : Int) ≤ ((a + 1 : Nat) : Int) := by omega
      have j5 : ((a + 1 : Nat) : Int) ≤ (e : Int) := by omega
      have j6 : (e : Int) ≤ (s.size : Int) := by omega
      by_cases hlt : e < s.size
      · have j2 : (0 : Int) ≤ (e : Int) := by omega
        have j3 : (e : Int) < (s.size : Int) := by omega
        have d2 : decide ((s.size : Int) ≤ (e : Int)) = false := decide_eq_false (by omega)
        have d2' : decide (s.size ≤ e) = false := decide_eq_false (by omega)
        have u2 : ((s[e].toNat : Int) != 93) = !(s[e] == 93) := nb s[e] 93
        have hbu : byteU s e = s[e] := byteU_in s e hlt
        cases b2 : (s[e] == 93) with
        | false =>
          have hr : Hid (labelI s a = (⟨#[]⟩, 0)) := by show _ = _; rw [hof2.out, hbu, b2]; simp
          rw [b2] at u2
          simp only [Bool.not_true, Bool.not_false] at u2
          clear hof2 hbu
          go_wp2_with fail
          go_ret2
          exact ⟨ret_si (by rw [hr.out]) (by rw [hr.out]; rfl), hB⟩
        | true =>
          rw [b2] at u2
          simp only [Bool.not_true, Bool.not_false] at u2
          cases q with
          | false =>
            have hr : Hid (labelI s a = (⟨#[]⟩, 0)) := by show _ = _; rw [hof2.out]; simp
            clear hof2 hbu
            go_wp2_with fail
            go_ret2
            exact ⟨ret_si (by rw [hr.out]) (by rw [hr.out]; rfl), hB⟩
          | true =>
            by_cases hk : e - a ≤ 1000
            · have d3 : decide ((999 : Int) < ((e - a - 1 : Nat) : Int)) = false := decide_eq_false (by omega)
              have hr : Hid (labelI s a = (s.extract (a + 1) e, e + 1 - a)) := by show _ = _; rw [hof2.out, hbu, b2, decide_eq_true hlt, decide_eq_true hk]; rfl
              clear hof2 hbu
              go_wp2_with fail
              go_ret2
              exact ⟨ret_si (by rw [hr.out]; try rfl) (by rw [hr.out]; first | rfl | (show _ = ((e + 1 - a : Nat) : Int); omega)), hB⟩
            · have d3 : decide ((999 : Int) < ((e - a - 1 : Nat) : Int)) = true := decide_eq_true (by omega)
              have hr : Hid (labelI s a = (⟨#[]⟩, 0)) := by show _ = _; rw [hof2.out, decide_eq_false hk]; simp
              clear hof2 hbu
              go_wp2_with fail
              go_ret2
              exact ⟨ret_si (by rw [hr.out]) (by rw [hr.out]; rfl), hB⟩
      · have d2 : decide ((s.size : Int) ≤ (e : Int)) = true := decide_eq_true (by omega)
        have d2' : decide (s.size ≤ e) = true := decide_eq_true (by omega)
        have hr : Hid (labelI s a = (⟨#[]⟩, 0)) := by show _ = _; rw [hof2.out, decide_eq_false hlt]; rfl
        clear hof2
        go_wp2_with fail
        go_ret2
        exact ⟨ret_si (by rw [hr.out]) (by rw [hr.out]; rfl), hB⟩

theorem rLabel_calls (s : ByteArray) (a : Int) (w : World) (hs : s.size ≤ 1000000) :
    Calls Tryz.prog 7 #[.string s, .int .i64 a] w fun e w' => e = .returned (.tuple #[.string (labelI s a).1, .int .i64 ((labelI s a).2 : Nat)]) ∧ Below w.heap.size w w' := by
  by_cases h0 : a < 0
  · exact rLabel_out s a w hs (Or.inl h0)
  · by_cases h1 : a < s.size
    · obtain ⟨n, rfl⟩ : ∃ n : Nat, a = n := ⟨a.toNat, by omega⟩
      exact rLabel_in s n (by omega) w hs
    · exact rLabel_out s a w hs (Or.inr ⟨by omega, by omega⟩)

end Go.Proofs.YtcpbljhogenjoaaGreatDoor
