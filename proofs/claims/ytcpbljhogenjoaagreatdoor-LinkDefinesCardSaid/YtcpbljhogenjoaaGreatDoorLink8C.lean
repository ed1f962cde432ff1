/- Walks: link's reference: Title. -/
import Derived.Test.YtcpbljhogenjoaaGreatDoorLink8B
import Derived.Test.YtcpbljhogenjoaaGreatDoorEscR7P
namespace Go.Proofs.YtcpbljhogenjoaaGreatDoor
set_option linter.unusedVariables false
set_option linter.unusedSimpArgs false
open Go Go.RowKit Go.Shelf Go.Lib

theorem titleI_nat (s : ByteArray) (n : Nat) : titleI s n = titleF s n := by
  by_cases h : n ≤ s.size
  · exact titleI_in s n h
  · unfold titleI
    rw [fromF_out s n (by omega)]
    have d : decide (n < s.size) = false := decide_eq_false (by omega)
    unfold titleF
    rw [d]; rfl
theorem titleI_out (s : ByteArray) (a : Int) (h : ¬ (0 ≤ a ∧ a < s.size)) : titleI s a = (⟨#[]⟩, 0) := by
  unfold titleI
  rw [fromF_out s a h]; rfl
theorem titleI_not (s : ByteArray) (a : Nat) (h : a < s.size) (h1 : (s[a] == 34) = false) (h2 : (s[a] == 39) = false) (h3 : (s[a] == 40) = false) : titleI s a = (⟨#[]⟩, 0) := by
  rw [titleI_nat]
  unfold titleF
  rw [byteU_in s a h, h1, h2, h3, if_neg (by simp)]
theorem titleI_at (s : ByteArray) (a : Nat) (c d : UInt8) (h : a < s.size) (hc : c = 34 ∨ c = 39 ∨ c = 40) (hd : endU c = d) (hb : (s[a] == c) = true) (e : Nat) (he : upF s (tstopU c) (a + 1) = e) :
    titleI s a = if (decide (e < s.size) && byteU s e == d) = true then (plainF (s.extract (a + 1) e), e + 1 - a) else (⟨#[]⟩, 0) := by
  rw [titleI_nat]
  have hb2 : s[a] = c := by simpa using hb
  unfold titleF
  rw [byteU_in s a h, hb2, hd]
  rw [if_pos (by rw [decide_eq_true h]; rcases hc with rfl | rfl | rfl <;> rfl)]
  simp only [he]

set_option maxHeartbeats 4000000 in
set_option maxRecDepth 100000 in
theorem rTitle_out (s : ByteArray) (a : Int) (w : World) (hs : s.size ≤ 200000) (h : a < 0 ∨ 0 ≤ a ∧ (s.size : Int) ≤ a) :
    Calls Tryz.prog 11 #[.string s, .int .i64 a] w fun e w' => e = .returned (.tuple #[.string (titleI s a).1, .int .i64 ((titleI s a).2 : Nat)]) ∧ Below w.heap.size w w' := by
  have hr : Hid (titleI s a = (⟨#[]⟩, 0)) := titleI_out s a (by omega)
  rcases h with h | ⟨h, h2⟩
  · have d0 : decide (a < 0) = true := decide_eq_true h
    go_enter Tryz.func11, Tryz.ntmps11
    go_wp2_with fail
    go_ret2
    exact ⟨ret_si (by rw [hr.out]) (by rw [hr.out]; rfl), Below.refl _ _⟩
  · have d0 : decide (a < 0) = false := decide_eq_false (by omega)
    have d1 : decide ((s.size : Int) ≤ a) = true := decide_eq_true h2
    go_enter Tryz.func11, Tryz.ntmps11
    go_wp2_with fail
    go_ret2
    exact ⟨ret_si (by rw [hr.out]) (by rw [hr.out]; rfl), Below.refl _ _⟩

set_option maxHeartbeats 4000000 in
set_option maxRecDepth 100000 in
theorem rTitle_not (s : ByteArray) (a : Nat) (h : a < s.size) (w : World) (hs : s.size ≤ 200000) (h1 : (s[a] == 34) = false) (h2 : (s[a] == 39) = false) (h3 : (s[a] == 40) = false) :
    Calls Tryz.prog 11 #[.string s, .int .i64 (a : Nat)] w fun e w' => e = .returned (.tuple #[.string (titleI s a).1, .int .i64 ((titleI s a).2 : Nat)]) ∧ Below w.heap.size w w' := by
  have hr : Hid (titleI s a = (⟨#[]⟩, 0)) := titleI_not s a h h1 h2 h3
  have j0 : (0 : Int) ≤ (a : Int) := by omega
  have j1 : (a : Int) < (s.size : Int) := by omega
  have d0 : decide ((a : Int) < 0) = false := decide_eq_false (by omega)
  have d1 : decide ((s.size : Int) ≤ (a : Int)) = false := decide_eq_false (by omega)
  have d1' : decide (s.size ≤ a) = false := decide_eq_false (by omega)
  have v1 : ((s[a].toNat : Int) != 34) = !(s[a] == 34) := nb s[a] 34
  have v2 : ((s[a].toNat : Int) != 39) = !(s[a] == 39) := nb s[a] 39
  have v3 : ((s[a].toNat : Int) != 40) = !(s[a] == 40) := nb s[a] 40
  rw [h1] at v1
  rw [h2] at v2
  rw [h3] at v3
  simp only [Bool.not_true, Bool.not_false] at v1 v2 v3
  clear h1 h2 h3
  go_enter Tryz.func11, Tryz.ntmps11
  go_wp2_with fail
  go_ret2
  exact ⟨ret_si (by rw [hr.out]) (by rw [hr.out]; rfl), Below.refl _ _⟩


set_option maxHeartbeats 4000000 in
set_option maxRecDepth 100000 in
theorem rTitle_34 (s : ByteArray) (a : Nat) (h : a < s.size) (w : World) (hs : s.size ≤ 200000) (b : (s[a] == 34) = true) :
    Calls Tryz.prog 11 #[.string s, .int .i64 (a : Nat)] w fun e w' => e = .returned (.tuple #[.string (titleI s a).1, .int .i64 ((titleI s a).2 : Nat)]) ∧ Below w.heap.size w w' := by
  have j0 : (0 : Int) ≤ (a : Int) := by omega
  have j1 : (a : Int) < (s.size : Int) := by omega
  have d0 : decide ((a : Int) < 0) = false := decide_eq_false (by omega)
  have d1 : decide ((s.size : Int) ≤ (a : Int)) = false := decide_eq_false (by omega)
  have d1' : decide (s.size ≤ a) = false := decide_eq_false (by omega)
  have hof := Lib.hid (fun e he => titleI_at s a 34 34 h (by decide) rfl b e he)
  have hsa : s[a] = 34 := by simpa using b
  have v34 : ((s[a].toNat : Int) != 34) = false := by rw [show ((s[a].toNat : Int) != 34) = !(s[a] == 34) from nb s[a] 34, hsa]; rfl
  have w40 : ((s[a].toNat : Int) == 40) = false := by rw [show ((s[a].toNat : Int) == 40) = (s[a] == 40) from u8_eq s[a] 40, hsa]; rfl
  have wv : (s[a].toNat : Int) = 34 := by rw [hsa]; rfl
  have e1 : IntKind.i64.wrap ((a : Int) + 1) = ((a + 1 : Nat) : Int) := by rw [IntWalk.i64_in _ (by omega)]; omega
  clear b hsa
  go_enter Tryz.func11, Tryz.ntmps11
  go_upto_block 0 with (fail)
  go_cut [7] (fun v7 wx => v7 = .int .i64 (upF s (tstopU 34) (a + 1) : Nat) ∧ Below w.heap.size w wx)
  case first =>
    clear hof
    go_wp2_with fail
    go_loopw [7] (fun i wr => ∃ k : Nat, a + 1 ≤ k ∧ k ≤ s.size ∧ i = .int .i64 k ∧ Hid (upF s (tstopU 34) (a + 1) = upF s (tstopU 34) k) ∧ Below w.heap.size w wr) (fun i _ => s.size - (RowKit.intOf i).toNat)
    case atStart => exact ⟨a + 1, Nat.le_refl _, by omega, rfl, rfl, Below.refl _ _⟩
    case round =>
      obtain ⟨k, hka, hks, rfl, hu, hB⟩ := hrel
      by_cases hlt : k < s.size
      · have j2 : (0 : Int) ≤ (k : Int) := by omega
        have j3 : (k : Int) < (s.size : Int) := by omega
        have hyes := Lib.hid (upF_yes s (tstopU 34) k hlt)
        have hno := Lib.hid (upF_no s (tstopU 34) k hlt)
        have hbu : Hid (byteU s k = s[k]) := byteU_in s k hlt
        have u1 : ((s[k].toNat : Int) != 34) = !(s[k] == 34) := nb s[k] 34
        have hls : Hid (tstopU 34 s[k] = (s[k] == 34 || s[k] == 34)) := rfl
        cases b1 : (s[k] == 34) with
        | true =>
          have hf : Hid (upF s (tstopU 34) (a + 1) = k) := by show _ = _; rw [hu.out, hyes.out (by rw [hbu.out, hls.out, b1]; rfl)]
          rw [b1] at u1
          simp only [Bool.not_true, Bool.not_false] at u1
          clear hu hyes hno hbu hls
          go_wp2_with fail
          go_meet
          exact ⟨by rw [hf.out], hB⟩
        | false =>
          rw [b1] at u1
          simp only [Bool.not_true, Bool.not_false] at u1
          have hf : Hid (upF s (tstopU 34) (a + 1) = upF s (tstopU 34) (k + stepN s k)) := by show _ = _; rw [hu.out, hno.out (by rw [hbu.out, hls.out, b1]; rfl)]
          have h1 := step_pos s k
          have h2 := step_le s k hlt
          have hst := fun w => rstep_calls s k hlt w (by omega)
          clear hu hyes hno hbu hls
          generalize stepN s k = d at *
          have e2 : IntKind.i64.wrap ((k : Int) + (d : Int)) = ((k + d : Nat) : Int) := by rw [IntWalk.i64_in _ (by omega)]; omega
          go_wp2_with fail
          refine (hst _).mono ?_
          rintro e w1 ⟨rfl, hb⟩
          go_wp2_with fail
          go_round
          case measure => simp [RowKit.intOf] <;> omega
          case rel => exact ⟨k + d, by omega, by omega, by go_num, hf, hB.trans (hb.mono hB.size)⟩
      · have hf : Hid (upF s (tstopU 34) (a + 1) = k) := by show _ = _; rw [hu.out, upF_end s (tstopU 34) k (by omega)]
        clear hu
        go_wp2_with fail
        go_meet
        exact ⟨by rw [hf.out], hB⟩
  case rest =>
    obtain ⟨rfl, hB⟩ := hcut
    have hge := upF_ge s (tstopU 34) (a + 1)
    have hle := upF_le s (tstopU 34) (a + 1) (by omega)
    have hof2 := Lib.hid (hof.out _ rfl)
    clear hof
    generalize upF s (tstopU 34) (a + 1) = e at *
    have e4 : IntKind.i64.wrap ((e : Int) + 1) = ((e + 1 : Nat) : Int) := by rw [IntWalk.i64_in _ (by omega)]; omega
    have e5 : IntKind.i64.wrap (((e + 1 : Nat) : Int) - (a : Int)) = ((e + 1 - a : Nat) : Int) := by rw [IntWalk.i64_in _ (by omega)]; omega
    have j4 : (0 : Int) ≤ ((a + 1 : Nat) : Int) := by omega
    have j5 : ((a + 1 : Nat) : Int) ≤ (e : Int) := by omega
    have j6 : (e : Int) ≤ (s.size : Int) := by omega
    by_cases hlt : e < s.size
    · have j2 : (0 : Int) ≤ (e : Int) := by omega
      have j3 : (e : Int) < (s.size : Int) := by omega
      have d2 : decide ((s.size : Int) ≤ (e : Int)) = false := decide_eq_false (by omega)
      have d2' : decide (s.size ≤ e) = false := decide_eq_false (by omega)
      have u2 : ((s[e].toNat : Int) != 34) = !(s[e] == 34) := nb s[e] 34
      have hbu : byteU s e = s[e] := byteU_in s e hlt
      have hpl := fun w => r7Plain_calls (s.extract (a + 1) e) w (by rw [ByteArray.size_extract]; omega)
      cases b2 : (s[e] == 34) with
      | false =>
        have hr : Hid (titleI s a = (⟨#[]⟩, 0)) := by show _ = _; rw [hof2.out, hbu, b2]; simp
        rw [b2] at u2
        simp only [Bool.not_true, Bool.not_false] at u2
        clear hof2 hbu
        go_wp2_with fail
        go_ret2
        exact ⟨ret_si (by rw [hr.out]) (by rw [hr.out]; rfl), hB⟩
      | true =>
        rw [b2] at u2
        simp only [Bool.not_true, Bool.not_false] at u2
        have hr : Hid (titleI s a = (plainF (s.extract (a + 1) e), e + 1 - a)) := by show _ = _; rw [hof2.out, hbu, b2, decide_eq_true hlt]; rfl
        clear hof2 hbu
        go_wp2_with fail
        refine (hpl _).mono ?_
        rintro e' w2 ⟨rfl, hB2⟩
        go_wp2_with fail
        go_ret2
        exact ⟨ret_si (by rw [hr.out]) (by rw [hr.out]; first | rfl | (show _ = ((e + 1 - a : Nat) : Int); omega)), hB.trans (hB2.mono hB.size)⟩
    · have d2 : decide ((s.size : Int) ≤ (e : Int)) = true := decide_eq_true (by omega)
      have d2' : decide (s.size ≤ e) = true := decide_eq_true (by omega)
      have hr : Hid (titleI s a = (⟨#[]⟩, 0)) := by show _ = _; rw [hof2.out, decide_eq_false hlt]; rfl
      clear hof2
      go_wp2_with fail
      go_ret2
      exact ⟨ret_si (by rw [hr.out]) (by rw [hr.out]; rfl), hB⟩


set_option maxHeartbeats 4000000 in
set_option maxRecDepth 100000 in
theorem rTitle_39 (s : ByteArray) (a : Nat) (h : a < s.size) (w : World) (hs : s.size ≤ 200000) (b : (s[a] == 39) = true) :
    Calls Tryz.prog 11 #[.string s, .int .i64 (a : Nat)] w fun e w' => e = .returned (.tuple #[.string (titleI s a).1, .int .i64 ((titleI s a).2 : Nat)]) ∧ Below w.heap.size w w' := by
  have j0 : (0 : Int) ≤ (a : Int) := by omega
  have j1 : (a : Int) < (s.size : Int) := by omega
  have d0 : decide ((a : Int) < 0) = false := decide_eq_false (by omega)
  have d1 : decide ((s.size : Int) ≤ (a : Int)) = false := decide_eq_false (by omega)
  have d1' : decide (s.size ≤ a) = false := decide_eq_false (by omega)
  have hof := Lib.hid (fun e he => titleI_at s a 39 39 h (by decide) rfl b e he)
  have hsa : s[a] = 39 := by simpa using b
  have v34 : ((s[a].toNat : Int) != 34) = true := by rw [show ((s[a].toNat : Int) != 34) = !(s[a] == 34) from nb s[a] 34, hsa]; rfl
  have v39 : ((s[a].toNat : Int) != 39) = false := by rw [show ((s[a].toNat : Int) != 39) = !(s[a] == 39) from nb s[a] 39, hsa]; rfl
  have w40 : ((s[a].toNat : Int) == 40) = false := by rw [show ((s[a].toNat : Int) == 40) = (s[a] == 40) from u8_eq s[a] 40, hsa]; rfl
  have wv : (s[a].toNat : Int) = 39 := by rw [hsa]; rfl
  have e1 : IntKind.i64.wrap ((a : Int) + 1) = ((a + 1 : Nat) : Int) := by rw [IntWalk.i64_in _ (by omega)]; omega
  clear b hsa
  go_enter Tryz.func11, Tryz.ntmps11
  go_upto_block 0 with (fail)
  go_cut [7] (fun v7 wx => v7 = .int .i64 (upF s (tstopU 39) (a + 1) : Nat) ∧ Below w.heap.size w wx)
  case first =>
    clear hof
    go_wp2_with fail
    go_loopw [7] (fun i wr => ∃ k : Nat, a + 1 ≤ k ∧ k ≤ s.size ∧ i = .int .i64 k ∧ Hid (upF s (tstopU 39) (a + 1) = upF s (tstopU 39) k) ∧ Below w.heap.size w wr) (fun i _ => s.size - (RowKit.intOf i).toNat)
    case atStart => exact ⟨a + 1, Nat.le_refl _, by omega, rfl, rfl, Below.refl _ _⟩
    case round =>
      obtain ⟨k, hka, hks, rfl, hu, hB⟩ := hrel
      by_cases hlt : k < s.size
      · have j2 : (0 : Int) ≤ (k : Int) := by omega
        have j3 : (k : Int) < (s.size : Int) := by omega
        have hyes := Lib.hid (upF_yes s (tstopU 39) k hlt)
        have hno := Lib.hid (upF_no s (tstopU 39) k hlt)
        have hbu : Hid (byteU s k = s[k]) := byteU_in s k hlt
        have u1 : ((s[k].toNat : Int) != 39) = !(s[k] == 39) := nb s[k] 39
        have hls : Hid (tstopU 39 s[k] = (s[k] == 39 || s[k] == 39)) := rfl
        cases b1 : (s[k] == 39) with
        | true =>
          have hf : Hid (upF s (tstopU 39) (a + 1) = k) := by show _ = _; rw [hu.out, hyes.out (by rw [hbu.out, hls.out, b1]; rfl)]
          rw [b1] at u1
          simp only [Bool.not_true, Bool.not_false] at u1
          clear hu hyes hno hbu hls
          go_wp2_with fail
          go_meet
          exact ⟨by rw [hf.out], hB⟩
        | false =>
          rw [b1] at u1
          simp only [Bool.not_true, Bool.not_false] at u1
          have hf : Hid (upF s (tstopU 39) (a + 1) = upF s (tstopU 39) (k + stepN s k)) := by show _ = _; rw [hu.out, hno.out (by rw [hbu.out, hls.out, b1]; rfl)]
          have h1 := step_pos s k
          have h2 := step_le s k hlt
          have hst := fun w => rstep_calls s k hlt w (by omega)
          clear hu hyes hno hbu hls
          generalize stepN s k = d at *
          have e2 : IntKind.i64.wrap ((k : Int) + (d : Int)) = ((k + d : Nat) : Int) := by rw [IntWalk.i64_in _ (by omega)]; omega
          go_wp2_with fail
          refine (hst _).mono ?_
          rintro e w1 ⟨rfl, hb⟩
          go_wp2_with fail
          go_round
          case measure => simp [RowKit.intOf] <;> omega
          case rel => exact ⟨k + d, by omega, by omega, by go_num, hf, hB.trans (hb.mono hB.size)⟩
      · have hf : Hid (upF s (tstopU 39) (a + 1) = k) := by show _ = _; rw [hu.out, upF_end s (tstopU 39) k (by omega)]
        clear hu
        go_wp2_with fail
        go_meet
        exact ⟨by rw [hf.out], hB⟩
  case rest =>
    obtain ⟨rfl, hB⟩ := hcut
    have hge := upF_ge s (tstopU 39) (a + 1)
    have hle := upF_le s (tstopU 39) (a + 1) (by omega)
    have hof2 := Lib.hid (hof.out _ rfl)
    clear hof
    generalize upF s (tstopU 39) (a + 1) = e at *
    have e4 : IntKind.i64.wrap ((e : Int) + 1) = ((e + 1 : Nat) : Int) := by rw [IntWalk.i64_in _ (by omega)]; omega
    have e5 : IntKind.i64.wrap (((e + 1 : Nat) : Int) - (a : Int)) = ((e + 1 - a : Nat) : Int) := by rw [IntWalk.i64_in _ (by omega)]; omega
    have j4 : (0 : Int) ≤ ((a + 1 : Nat) : Int) := by omega
    have j5 : ((a + 1 : Nat) : Int) ≤ (e : Int) := by omega
    have j6 : (e : Int) ≤ (s.size : Int) := by omega
    by_cases hlt : e < s.size
    · have j2 : (0 : Int) ≤ (e : Int) := by omega
      have j3 : (e : Int) < (s.size : Int) := by omega
      have d2 : decide ((s.size : Int) ≤ (e : Int)) = false := decide_eq_false (by omega)
      have d2' : decide (s.size ≤ e) = false := decide_eq_false (by omega)
      have u2 : ((s[e].toNat : Int) != 39) = !(s[e] == 39) := nb s[e] 39
      have hbu : byteU s e = s[e] := byteU_in s e hlt
      have hpl := fun w => r7Plain_calls (s.extract (a + 1) e) w (by rw [ByteArray.size_extract]; omega)
      cases b2 : (s[e] == 39) with
      | false =>
        have hr : Hid (titleI s a = (⟨#[]⟩, 0)) := by show _ = _; rw [hof2.out, hbu, b2]; simp
        rw [b2] at u2
        simp only [Bool.not_true, Bool.not_false] at u2
        clear hof2 hbu
        go_wp2_with fail
        go_ret2
        exact ⟨ret_si (by rw [hr.out]) (by rw [hr.out]; rfl), hB⟩
      | true =>
        rw [b2] at u2
        simp only [Bool.not_true, Bool.not_false] at u2
        have hr : Hid (titleI s a = (plainF (s.extract (a + 1) e), e + 1 - a)) := by show _ = _; rw [hof2.out, hbu, b2, decide_eq_true hlt]; rfl
        clear hof2 hbu
        go_wp2_with fail
        refine (hpl _).mono ?_
        rintro e' w2 ⟨rfl, hB2⟩
        go_wp2_with fail
        go_ret2
        exact ⟨ret_si (by rw [hr.out]) (by rw [hr.out]; first | rfl | (show _ = ((e + 1 - a : Nat) : Int); omega)), hB.trans (hB2.mono hB.size)⟩
    · have d2 : decide ((s.size : Int) ≤ (e : Int)) = true := decide_eq_true (by omega)
      have d2' : decide (s.size ≤ e) = true := decide_eq_true (by omega)
      have hr : Hid (titleI s a = (⟨#[]⟩, 0)) := by show _ = _; rw [hof2.out, decide_eq_false hlt]; rfl
      clear hof2
      go_wp2_with fail
      go_ret2
      exact ⟨ret_si (by rw [hr.out]) (by rw [hr.out]; rfl), hB⟩


set_option maxHeartbeats 4000000 in
set_option maxRecDepth 100000 in
theorem rTitle_40 (s : ByteArray) (a : Nat) (h : a < s.size) (w : World) (hs : s.size ≤ 200000) (b : (s[a] == 40) = true) :
    Calls Tryz.prog 11 #[.string s, .int .i64 (a : Nat)] w fun e w' => e = .returned (.tuple #[.string (titleI s a).1, .int .i64 ((titleI s a).2 : Nat)]) ∧ Below w.heap.size w w' := by
  have j0 : (0 : Int) ≤ (a : Int) := by omega
  have j1 : (a : Int) < (s.size : Int) := by omega
  have d0 : decide ((a : Int) < 0) = false := decide_eq_false (by omega)
  have d1 : decide ((s.size : Int) ≤ (a : Int)) = false := decide_eq_false (by omega)
  have d1' : decide (s.size ≤ a) = false := decide_eq_false (by omega)
  have hof := Lib.hid (fun e he => titleI_at s a 40 41 h (by decide) rfl b e he)
  have hsa : s[a] = 40 := by simpa using b
  have v34 : ((s[a].toNat : Int) != 34) = true := by rw [show ((s[a].toNat : Int) != 34) = !(s[a] == 34) from nb s[a] 34, hsa]; rfl
  have v39 : ((s[a].toNat : Int) != 39) = true := by rw [show ((s[a].toNat : Int) != 39) = !(s[a] == 39) from nb s[a] 39, hsa]; rfl
  have v40 : ((s[a].toNat : Int) != 40) = false := by rw [show ((s[a].toNat : Int) != 40) = !(s[a] == 40) from nb s[a] 40, hsa]; rfl
  have w40 : ((s[a].toNat : Int) == 40) = true := by rw [show ((s[a].toNat : Int) == 40) = (s[a] == 40) from u8_eq s[a] 40, hsa]; rfl
  have e1 : IntKind.i64.wrap ((a : Int) + 1) = ((a + 1 : Nat) : Int) := by rw [IntWalk.i64_in _ (by omega)]; omega
  clear b hsa
  go_enter Tryz.func11, Tryz.ntmps11
  go_upto_block 0 with (fail)
  go_cut [7] (fun v7 wx => v7 = .int .i64 (upF s (tstopU 40) (a + 1) : Nat) ∧ Below w.heap.size w wx)
  case first =>
    clear hof
    go_wp2_with fail
    go_loopw [7] (fun i wr => ∃ k : Nat, a + 1 ≤ k ∧ k ≤ s.size ∧ i = .int .i64 k ∧ Hid (upF s (tstopU 40) (a + 1) = upF s (tstopU 40) k) ∧ Below w.heap.size w wr) (fun i _ => s.size - (RowKit.intOf i).toNat)
    case atStart => exact ⟨a + 1, Nat.le_refl _, by omega, rfl, rfl, Below.refl _ _⟩
    case round =>
      obtain ⟨k, hka, hks, rfl, hu, hB⟩ := hrel
      by_cases hlt : k < s.size
      · have j2 : (0 : Int) ≤ (k : Int) := by omega
        have j3 : (k : Int) < (s.size : Int) := by omega
        have hyes := Lib.hid (upF_yes s (tstopU 40) k hlt)
        have hno := Lib.hid (upF_no s (tstopU 40) k hlt)
        have hbu : Hid (byteU s k = s[k]) := byteU_in s k hlt
        have u1 : ((s[k].toNat : Int) != 41) = !(s[k] == 41) := nb s[k] 41
        have u2 : ((s[k].toNat : Int) != 40) = !(s[k] == 40) := nb s[k] 40
        have hls : Hid (tstopU 40 s[k] = (s[k] == 40 || s[k] == 41)) := rfl
        cases b1 : (s[k] == 41) with
        | true =>
          have hf : Hid (upF s (tstopU 40) (a + 1) = k) := by show _ = _; rw [hu.out, hyes.out (by rw [hbu.out, hls.out, b1]; simp)]
          rw [b1] at u1
          simp only [Bool.not_true, Bool.not_false] at u1
          clear hu hyes hno hbu hls
          go_wp2_with fail
          go_meet
          exact ⟨by rw [hf.out], hB⟩
        | false =>
          rw [b1] at u1
          simp only [Bool.not_true, Bool.not_false] at u1
          cases b2 : (s[k] == 40) with
          | true =>
            have hf : Hid (upF s (tstopU 40) (a + 1) = k) := by show _ = _; rw [hu.out, hyes.out (by rw [hbu.out, hls.out, b2]; rfl)]
            rw [b2] at u2
            simp only [Bool.not_true, Bool.not_false] at u2
            clear hu hyes hno hbu hls
            go_wp2_with fail
            go_meet
            exact ⟨by rw [hf.out], hB⟩
          | false =>
            rw [b2] at u2
            simp only [Bool.not_true, Bool.not_false] at u2
            have hf : Hid (upF s (tstopU 40) (a + 1) = upF s (tstopU 40) (k + stepN s k)) := by show _ = _; rw [hu.out, hno.out (by rw [hbu.out, hls.out, b1, b2]; rfl)]
            have h1 := step_pos s k
            have h2 := step_le s k hlt
            have hst := fun w => rstep_calls s k hlt w (by omega)
            clear hu hyes hno hbu hls
            generalize stepN s k = d at *
            have e2 : IntKind.i64.wrap ((k : Int) + (d : Int)) = ((k + d : Nat) : Int) := by rw [IntWalk.i64_in _ (by omega)]; omega
            go_wp2_with fail
            refine (hst _).mono ?_
            rintro e w1 ⟨rfl, hb⟩
            go_wp2_with fail
            go_round
            case measure => simp [RowKit.intOf] <;> omega
            case rel => exact ⟨k + d, by omega, by omega, by go_num, hf, hB.trans (hb.mono hB.size)⟩
      · have hf : Hid (upF s (tstopU 40) (a + 1) = k) := by show _ = _; rw [hu.out, upF_end s (tstopU 40) k (by omega)]
        clear hu
        go_wp2_with fail
        go_meet
        exact ⟨by rw [hf.out], hB⟩
  case rest =>
    obtain ⟨rfl, hB⟩ := hcut
    have hge := upF_ge s (tstopU 40) (a + 1)
    have hle := upF_le s (tstopU 40) (a + 1) (by omega)
    have hof2 := Lib.hid (hof.out _ rfl)
    clear hof
    generalize upF s (tstopU 40) (a + 1) = e at *
    have e4 : IntKind.i64.wrap ((e : Int) + 1) = ((e + 1 : Nat) : Int) := by rw [IntWalk.i64_in _ (by omega)]; omega
    have e5 : IntKind.i64.wrap (((e + 1 : Nat) : Int) - (a : Int)) = ((e + 1 - a : Nat) : Int) := by rw [IntWalk.i64_in _ (by omega)]; omega
    have j4 : (0 : Int) ≤ ((a + 1 : Nat) : Int) := by omega
    have j5 : ((a + 1 : Nat) : Int) ≤ (e : Int) := by omega
    have j6 : (e : Int) ≤ (s.size : Int) := by omega
    by_cases hlt : e < s.size
    · have j2 : (0 : Int) ≤ (e : Int) := by omega
      have j3 : (e : Int) < (s.size : Int) := by omega
      have d2 : decide ((s.size : Int) ≤ (e : Int)) = false := decide_eq_false (by omega)
      have d2' : decide (s.size ≤ e) = false := decide_eq_false (by omega)
      have u2 : ((s[e].toNat : Int) != 41) = !(s[e] == 41) := nb s[e] 41
      have hbu : byteU s e = s[e] := byteU_in s e hlt
      have hpl := fun w => r7Plain_calls (s.extract (a + 1) e) w (by rw [ByteArray.size_extract]; omega)
      cases b2 : (s[e] == 41) with
      | false =>
        have hr : Hid (titleI s a = (⟨#[]⟩, 0)) := by show _ = _; rw [hof2.out, hbu, b2]; simp
        rw [b2] at u2
        simp only [Bool.not_true, Bool.not_false] at u2
        clear hof2 hbu
        go_wp2_with fail
        go_ret2
        exact ⟨ret_si (by rw [hr.out]) (by rw [hr.out]; rfl), hB⟩
      | true =>
        rw [b2] at u2
        simp only [Bool.not_true, Bool.not_false] at u2
        have hr : Hid (titleI s a = (plainF (s.extract (a + 1) e), e + 1 - a)) := by show _ = _; rw [hof2.out, hbu, b2, decide_eq_true hlt]; rfl
        clear hof2 hbu
        go_wp2_with fail
        refine (hpl _).mono ?_
        rintro e' w2 ⟨rfl, hB2⟩
        go_wp2_with fail
        go_ret2
        exact ⟨ret_si (by rw [hr.out]) (by rw [hr.out]; first | rfl | (show _ = ((e + 1 - a : Nat) : Int); omega)), hB.trans (hB2.mono hB.size)⟩
    · have d2 : decide ((s.size : Int) ≤ (e : Int)) = true := decide_eq_true (by omega)
      have d2' : decide (s.size ≤ e) = true := decide_eq_true (by omega)
      have hr : Hid (titleI s a = (⟨#[]⟩, 0)) := by show _ = _; rw [hof2.out, decide_eq_false hlt]; rfl
      clear hof2
      go_wp2_with fail
      go_ret2
      exact ⟨ret_si (by rw [hr.out]) (by rw [hr.out]; rfl), hB⟩


theorem rTitle_calls (s : ByteArray) (a : Int) (w : World) (hs : s.size ≤ 200000) :
    Calls Tryz.prog 11 #[.string s, .int .i64 a] w fun e w' => e = .returned (.tuple #[.string (titleI s a).1, .int .i64 ((titleI s a).2 : Nat)]) ∧ Below w.heap.size w w' := by
  by_cases h0 : a < 0
  · exact rTitle_out s a w hs (Or.inl h0)
  · by_cases h1 : a < s.size
    · obtain ⟨n, rfl⟩ : ∃ n : Nat, a = n := ⟨a.toNat, by omega⟩
      have hn : n < s.size := by omega
      cases b1 : (s[n] == 34) with
      | true => exact rTitle_34 s n hn w hs b1
      | false =>
        cases b2 : (s[n] == 39) with
        | true => exact rTitle_39 s n hn w hs b2
        | false =>
          cases b3 : (s[n] == 40) with
          | true => exact rTitle_40 s n hn w hs b3
          | false => exact rTitle_not s n hn w hs b1 b2 b3
    · exact rTitle_out s a w hs (Or.inr ⟨by omega, by omega⟩)

end Go.Proofs.YtcpbljhogenjoaaGreatDoor
