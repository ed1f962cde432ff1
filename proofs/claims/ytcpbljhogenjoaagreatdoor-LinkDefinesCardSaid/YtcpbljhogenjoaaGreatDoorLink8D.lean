/- Walks: link's reference: Dest. -/
import Derived.Test.YtcpbljhogenjoaaGreatDoorLink8C
namespace Go.Proofs.YtcpbljhogenjoaaGreatDoor
set_option linter.unusedVariables false
set_option linter.unusedSimpArgs false
open Go Go.RowKit Go.Shelf Go.Lib

theorem destI_out (s : ByteArray) (a : Int) (h : ¬ (0 ≤ a ∧ a < s.size)) : destI s a = (⟨#[]⟩, 0) := by
  unfold destI
  rw [fromF_out s a h]; rfl
theorem destI_ang (s : ByteArray) (a : Nat) (h : a < s.size) (hb : (s[a] == 60) = true) (e : Nat) (he : upF s angU (a + 1) = e) :
    destI s a = if (decide (e < s.size) && byteU s e == 62) = true then (plainF (s.extract (a + 1) e), e + 1 - a) else (⟨#[]⟩, 0) := by
  rw [destI_in s a (by omega)]
  unfold destF
  rw [byteU_in s a h, hb, decide_eq_true h]
  simp only [Bool.and_self, if_true, he]
theorem destI_bare (s : ByteArray) (a : Nat) (h : a < s.size) (hb : (s[a] == 60) = false) :
    destI s a = match bareF s a with | some e => (plainF (s.extract a e), e - a) | none => (⟨#[]⟩, 0) := by
  rw [destI_in s a (by omega)]
  unfold destF
  rw [byteU_in s a h, hb, if_neg (by simp)]
  cases bareF s a <;> rfl

theorem bare_some (s : ByteArray) (a k q : Nat) (h : bareT s a 0 = some (k, q)) : bareF s a = if (decide (a < k) && decide (q = 0)) = true then some k else none := by
  unfold bareT at h
  unfold bareF
  rw [h]
theorem bare_none (s : ByteArray) (a : Nat) (h : bareT s a 0 = none) : bareF s a = none := by
  unfold bareT at h
  unfold bareF
  rw [h]

set_option maxHeartbeats 4000000 in
set_option maxRecDepth 100000 in
theorem rDest_out (s : ByteArray) (a : Int) (w : World) (hs : s.size ≤ 200000) (h : a < 0 ∨ 0 ≤ a ∧ (s.size : Int) ≤ a) :
    Calls Tryz.prog 9 #[.string s, .int .i64 a] w fun e w' => e = .returned (.tuple #[.string (destI s a).1, .int .i64 ((destI s a).2 : Nat)]) ∧ Below w.heap.size w w' := by
  have hr : Hid (destI s a = (⟨#[]⟩, 0)) := destI_out s a (by omega)
  rcases h with h | ⟨h, h2⟩
  · have d0 : decide (a < 0) = true := decide_eq_true h
    go_enter Tryz.func9, Tryz.ntmps9
    go_wp2_with fail
    go_ret2
    exact ⟨ret_si (by rw [hr.out]) (by rw [hr.out]; rfl), Below.refl _ _⟩
  · have d0 : decide (a < 0) = false := decide_eq_false (by omega)
    have d1 : decide ((s.size : Int) ≤ a) = true := decide_eq_true h2
    go_enter Tryz.func9, Tryz.ntmps9
    go_wp2_with fail
    go_ret2
    exact ⟨ret_si (by rw [hr.out]) (by rw [hr.out]; rfl), Below.refl _ _⟩

set_option maxHeartbeats 4000000 in
set_option maxRecDepth 100000 in
theorem rDest_ang (s : ByteArray) (a : Nat) (h : a < s.size) (w : World) (hs : s.size ≤ 200000) (b : (s[a] == 60) = true) :
    Calls Tryz.prog 9 #[.string s, .int .i64 (a : Nat)] w fun e w' => e = .returned (.tuple #[.string (destI s a).1, .int .i64 ((destI s a).2 : Nat)]) ∧ Below w.heap.size w w' := by
  have j0 : (0 : Int) ≤ (a : Int) := by omega
  have j1 : (a : Int) < (s.size : Int) := by omega
  have d0 : decide ((a : Int) < 0) = false := decide_eq_false (by omega)
  have d1 : decide ((s.size : Int) ≤ (a : Int)) = false := decide_eq_false (by omega)
  have d1' : decide (s.size ≤ a) = false := decide_eq_false (by omega)
  have hof := Lib.hid (fun e he => destI_ang s a h b e he)
  have hsa : s[a] = 60 := by simpa using b
  have w60 : ((s[a].toNat : Int) == 60) = true := by rw [show ((s[a].toNat : Int) == 60) = (s[a] == 60) from u8_eq s[a] 60, hsa]; rfl
  have e1 : IntKind.i64.wrap ((a : Int) + 1) = ((a + 1 : Nat) : Int) := by rw [IntWalk.i64_in _ (by omega)]; omega
  clear b hsa
  go_enter Tryz.func9, Tryz.ntmps9
  go_upto_block 0 with (fail)
  go_cut [6] (fun v6 wx => v6 = .int .i64 (upF s angU (a + 1) : Nat) ∧ Below w.heap.size w wx)
  case first =>
    clear hof
    go_wp2_with fail
    go_loopw [6] (fun i wr => ∃ k : Nat, a + 1 ≤ k ∧ k ≤ s.size ∧ i = .int .i64 k ∧ Hid (upF s angU (a + 1) = upF s angU k) ∧ Below w.heap.size w wr) (fun i _ => s.size - (RowKit.intOf i).toNat)
    case atStart => exact ⟨a + 1, Nat.le_refl _, by omega, rfl, rfl, Below.refl _ _⟩
    case round =>
      obtain ⟨k, hka, hks, rfl, hu, hB⟩ := hrel
      by_cases hlt : k < s.size
      · have j2 : (0 : Int) ≤ (k : Int) := by omega
        have j3 : (k : Int) < (s.size : Int) := by omega
        have hyes := Lib.hid (upF_yes s angU k hlt)
        have hno := Lib.hid (upF_no s angU k hlt)
        have hbu : Hid (byteU s k = s[k]) := byteU_in s k hlt
        have u1 : ((s[k].toNat : Int) != 10) = !(s[k] == 10) := nb s[k] 10
        have u2 : ((s[k].toNat : Int) != 60) = !(s[k] == 60) := nb s[k] 60
        have u3 : ((s[k].toNat : Int) != 62) = !(s[k] == 62) := nb s[k] 62
        have hls : Hid (angU s[k] = (s[k] == 10 || (s[k] == 60 || s[k] == 62))) := rfl
        cases b1 : (s[k] == 10) with
        | true =>
          have hf : Hid (upF s angU (a + 1) = k) := by show _ = _; rw [hu.out, hyes.out (by rw [hbu.out, hls.out, b1]; rfl)]
          rw [b1] at u1
          simp only [Bool.not_true, Bool.not_false] at u1
          clear hu hyes hno hbu hls
          go_wp2_with fail
          go_meet
          exact ⟨by rw [hf.out], hB⟩
        | false =>
          rw [b1] at u1
          simp only [Bool.not_true, Bool.not_false] at u1
          cases b2 : (s[k] == 60) with
          | true =>
            have hf : Hid (upF s angU (a + 1) = k) := by show _ = _; rw [hu.out, hyes.out (by rw [hbu.out, hls.out, b2]; simp)]
            rw [b2] at u2
            simp only [Bool.not_true, Bool.not_false] at u2
            clear hu hyes hno hbu hls
            go_wp2_with fail
            go_meet
            exact ⟨by rw [hf.out], hB⟩
          | false =>
            rw [b2] at u2
            simp only [Bool.not_true, Bool.not_false] at u2
            cases b3 : (s[k] == 62) with
            | true =>
              have hf : Hid (upF s angU (a + 1) = k) := by show _ = _; rw [hu.out, hyes.out (by rw [hbu.out, hls.out, b3]; simp)]
              rw [b3] at u3
              simp only [Bool.not_true, Bool.not_false] at u3
              clear hu hyes hno hbu hls
              go_wp2_with fail
              go_meet
              exact ⟨by rw [hf.out], hB⟩
            | false =>
              rw [b3] at u3
              simp only [Bool.not_true, Bool.not_false] at u3
              have hf : Hid (upF s angU (a + 1) = upF s angU (k + stepN s k)) := by show _ = _; rw [hu.out, hno.out (by rw [hbu.out, hls.out, b1, b2, b3]; rfl)]
              have h1 := step_pos s k
              have h2 := step_le s k hlt
              have hst := fun w => rstep_calls s k hlt w (by omega)
              clear hu hyes hno hbu hls
              generalize stepN s k = d at *
              have e2 : IntKind.i64.wrap ((k : Int) + (d : Int)) = ((k + d : Nat) : Int) := by rw [IntWalk.i64_in _ (by omega)]; omega
              go_wp2_with fail
              refine (hst _).mono ?_
              rintro e w1 ⟨rfl, hb⟩
              go_wp2_with fail
              go_round
              case measure => simp [RowKit.intOf] <;> omega
              case rel => exact ⟨k + d, by omega, by omega, by go_num, hf, hB.trans (hb.mono hB.size)⟩
      · have hf : Hid (upF s angU (a + 1) = k) := by show _ = _; rw [hu.out, upF_end s angU k (by omega)]
        clear hu
        go_wp2_with fail
        go_meet
        exact ⟨by rw [hf.out], hB⟩
  case rest =>
    obtain ⟨rfl, hB⟩ := hcut
    have hge := upF_ge s angU (a + 1)
    have hle := upF_le s angU (a + 1) (by omega)
    have hof2 := Lib.hid (hof.out _ rfl)
    clear hof
    generalize upF s angU (a + 1) = e at *
    have e4 : IntKind.i64.wrap ((e : Int) + 1) = ((e + 1 : Nat) : Int) := by rw [IntWalk.i64_in _ (by omega)]; omega
    have e5 : IntKind.i64.wrap (((e + 1 : Nat) : Int) - (a : Int)) = ((e + 1 - a : Nat) : Int) := by rw [IntWalk.i64_in _ (by omega)]; omega
    have j4 : (0 : Int) ≤ ((a + 1 : Nat) : Int) := by omega
    have j5 : ((a + 1 : Nat) : Int) ≤ (e : Int) := by omega
    have j6 : (e : Int) ≤ (s.size : Int) := by omega
    by_cases hlt : e < s.size
    · have j2 : (0 : Int) ≤ (e : Int) := by omega
      have j3 : (e : Int) < (s.size : Int) := by omega
      have d2 : decide ((s.size : Int) ≤ (e : Int)) = false := decide_eq_false (by omega)
      have d2' : decide (s.size ≤ e) = false := decide_eq_false (by omega)
      have u2 : ((s[e].toNat : Int) != 62) = !(s[e] == 62) := nb s[e] 62
      have hbu : byteU s e = s[e] := byteU_in s e hlt
      have hpl := fun w => r7Plain_calls (s.extract (a + 1) e) w (by rw [ByteArray.size_extract]; omega)
      cases b2 : (s[e] == 62) with
      | false =>
        have hr : Hid (destI s a = (⟨#[]⟩, 0)) := by show _ = _; rw [hof2.out, hbu, b2]; simp
        rw [b2] at u2
        simp only [Bool.not_true, Bool.not_false] at u2
        clear hof2 hbu
        go_wp2_with fail
        go_ret2
        exact ⟨ret_si (by rw [hr.out]) (by rw [hr.out]; rfl), hB⟩
      | true =>
        rw [b2] at u2
        simp only [Bool.not_true, Bool.not_false] at u2
        have hr : Hid (destI s a = (plainF (s.extract (a + 1) e), e + 1 - a)) := by show _ = _; rw [hof2.out, hbu, b2, decide_eq_true hlt]; rfl
        clear hof2 hbu
        go_wp2_with fail
        refine (hpl _).mono ?_
        rintro e' w2 ⟨rfl, hB2⟩
        go_wp2_with fail
        go_ret2
        exact ⟨ret_si (by rw [hr.out]) (by rw [hr.out]; first | rfl | (show _ = ((e + 1 - a : Nat) : Int); omega)), hB.trans (hB2.mono hB.size)⟩
    · have d2 : decide ((s.size : Int) ≤ (e : Int)) = true := decide_eq_true (by omega)
      have d2' : decide (s.size ≤ e) = true := decide_eq_true (by omega)
      have hr : Hid (destI s a = (⟨#[]⟩, 0)) := by show _ = _; rw [hof2.out, decide_eq_false hlt]; rfl
      clear hof2
      go_wp2_with fail
      go_ret2
      exact ⟨ret_si (by rw [hr.out]) (by rw [hr.out]; rfl), hB⟩

/-- the bare destination's answer, out of where the search stands at its end -/
theorem destI_bare_of (s : ByteArray) (a k q : Nat) (h : a < s.size) (hb : (s[a] == 60) = false) (hT : bareT s a 0 = some (k, q)) :
    destI s a = if (decide (a < k) && decide (q = 0)) = true then (plainF (s.extract a k), k - a) else (⟨#[]⟩, 0) := by
  rw [destI_bare s a h hb, bare_some s a k q hT]
  by_cases hc : (decide (a < k) && decide (q = 0)) = true
  · rw [if_pos hc, if_pos hc]
  · rw [if_neg hc, if_neg hc]
theorem destI_bare_no (s : ByteArray) (a : Nat) (h : a < s.size) (hb : (s[a] == 60) = false) (hT : bareT s a 0 = none) : destI s a = (⟨#[]⟩, 0) := by
  rw [destI_bare s a h hb, bare_none s a hT]

end Go.Proofs.YtcpbljhogenjoaaGreatDoor
