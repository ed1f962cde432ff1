/- Walks: link's reference: Dest without marks; joined. -/
import Derived.Test.YtcpbljhogenjoaaGreatDoorLink8D
namespace Go.Proofs.YtcpbljhogenjoaaGreatDoor
set_option linter.unusedVariables false
set_option linter.unusedSimpArgs false
open Go Go.RowKit Go.Shelf Go.Lib

set_option maxHeartbeats 8000000 in
set_option maxRecDepth 100000 in
theorem rDest_bare (s : ByteArray) (a : Nat) (h : a < s.size) (w : World) (hs : s.size ≤ 200000) (b : (s[a] == 60) = false) :
    Calls Tryz.prog 9 #[.string s, .int .i64 (a : Nat)] w fun e w' => e = .returned (.tuple #[.string (destI s a).1, .int .i64 ((destI s a).2 : Nat)]) ∧ Below w.heap.size w w' := by
  have j0 : (0 : Int) ≤ (a : Int) := by omega
  have j1 : (a : Int) < (s.size : Int) := by omega
  have d0 : decide ((a : Int) < 0) = false := decide_eq_false (by omega)
  have d1 : decide ((s.size : Int) ≤ (a : Int)) = false := decide_eq_false (by omega)
  have d1' : decide (s.size ≤ a) = false := decide_eq_false (by omega)
  have w60 : ((s[a].toNat : Int) == 60) = false := by rw [show ((s[a].toNat : Int) == 60) = (s[a] == 60) from u8_eq s[a] 60, b]
  have hend := Lib.hid (fun k q hT => destI_bare_of s a k q h b hT)
  have hbad := Lib.hid (fun hT => destI_bare_no s a h b hT)
  clear b
  go_enter Tryz.func9, Tryz.ntmps9
  go_wp2_with fail
  clear d1 d1'
  go_loopw [7, 8] (fun i o wr => ∃ k q : Nat, a ≤ k ∧ k ≤ s.size ∧ q ≤ 32 ∧ i = .int .i64 k ∧ o = .int .i64 q ∧ Hid (bareT s a 0 = bareT s k q) ∧ Below w.heap.size w wr) (fun i _ _ => s.size - (RowKit.intOf i).toNat)
  case atStart => exact ⟨a, 0, Nat.le_refl _, by omega, Nat.zero_le _, rfl, rfl, rfl, Below.refl _ _⟩
  case round =>
    obtain ⟨k, q, hka, hk, hq, rfl, rfl, he, hB⟩ := hrel
    replace hend := Lib.hid (hend.out k q)
    by_cases hlt : k < s.size
    · have hat := Lib.hid (bareT_at s k q hlt)
      have j2 : (0 : Int) ≤ (k : Int) := by omega
      have j3 : (k : Int) < (s.size : Int) := by omega
      have hstp := step_pos s k
      have hstl := step_le s k hlt
      have hsz := fun w => rstep_calls s k hlt w (by omega)
      have u2 : ((s[k].toNat : Int) != 127) = !(s[k] == 127) := nb s[k] 127
      have u3 : ((s[k].toNat : Int) == 41) = (s[k] == 41) := u8_eq s[k] 41
      have u4 : ((s[k].toNat : Int) == 40) = (s[k] == 40) := u8_eq s[k] 40
      have hgo : Hid (∀ q' : Nat, 32 < s[k].toNat → (s[k] == 127) = false → (s[k] == 41 && decide (q = 0)) = false → (if s[k] = 40 then q + 1 else if s[k] = 41 then q - 1 else q) = q' → bareT s a 0 = if 32 < q' then none else bareT s (k + stepN s k) q') := by
        intro q' h1 h2 h3 h4
        rw [he.out, hat.out, h4, h2, h3, decide_eq_true h1]; rfl
      have hstop : Hid ((decide (32 < s[k].toNat) && (!(s[k] == 127) && !(s[k] == 41 && decide (q = 0)))) = false → bareT s a 0 = some (k, q)) := by
        intro h
        rw [he.out, hat.out, if_neg (by rw [h]; decide)]
      generalize stepN s k = d at *
      have e7 : IntKind.i64.wrap ((k : Int) + (d : Int)) = ((k + d : Nat) : Int) := by rw [IntWalk.i64_in _ (by omega)]; omega
      clear hat
      by_cases h32 : s[k].toNat ≤ 32
      · have s0 := hstop.out (by rw [decide_eq_false (by omega)]; rfl)
        have u1 : decide ((32 : Int) < (s[k].toNat : Int)) = false := decide_eq_false (by omega)
        clear u2 u3 u4 h32
        have hof := Lib.hid (hend.out s0)
        clear hend hstop hgo s0
        by_cases hk0 : a < k
        · have d1 : ((k : Int) == (a : Int)) = false := beq_eq_false_iff_ne.2 (by omega)
          have d1' : decide (k = a) = false := decide_eq_false (by omega)
          by_cases hq0 : q = 0
          · have d2 : decide ((0 : Int) < (q : Int)) = false := decide_eq_false (by omega)
            have hr : Hid (destI s a = (plainF (s.extract a k), k - a)) := by show _ = _; rw [hof.out, decide_eq_true hk0, decide_eq_true hq0]; rfl
            have hpl := fun w => r7Plain_calls (s.extract a k) w (by rw [ByteArray.size_extract]; omega)
            have j8 : (a : Int) ≤ (k : Int) := by omega
            have j9 : (k : Int) ≤ (s.size : Int) := by omega
            have e9 : IntKind.i64.wrap ((k : Int) - (a : Int)) = ((k - a : Nat) : Int) := by rw [IntWalk.i64_in _ (by omega)]; omega
            clear hof
            go_wp2_with fail
            refine (hpl _).mono ?_
            rintro e' w2 ⟨rfl, hB2⟩
            go_wp2_with fail
            go_ret2
            exact ⟨ret_si (by rw [hr.out]) (by rw [hr.out]; try first | rfl | (show _ = ((k - a : Nat) : Int); omega)), hB.trans (hB2.mono hB.size)⟩
          · have d2 : decide ((0 : Int) < (q : Int)) = true := decide_eq_true (by omega)
            have hr : Hid (destI s a = (⟨#[]⟩, 0)) := by show _ = _; rw [hof.out, decide_eq_false hq0]; simp
            clear hof
            go_wp2_with fail
            go_ret2
            exact ⟨ret_si (by rw [hr.out]) (by rw [hr.out]; rfl), hB⟩
        · have d1 : ((k : Int) == (a : Int)) = true := beq_iff_eq.2 (by omega)
          have d1' : decide (k = a) = true := decide_eq_true (by omega)
          have hr : Hid (destI s a = (⟨#[]⟩, 0)) := by show _ = _; rw [hof.out, decide_eq_false hk0]; rfl
          clear hof
          go_wp2_with fail
          go_ret2
          exact ⟨ret_si (by rw [hr.out]) (by rw [hr.out]; rfl), hB⟩
      · have u1 : decide ((32 : Int) < (s[k].toNat : Int)) = true := decide_eq_true (by omega)
        have h33 : 32 < s[k].toNat := by omega
        clear h32
        cases b2 : (s[k] == 127) with
        | true =>
          have s0 := hstop.out (by rw [b2]; simp)
          rw [b2] at u2
          simp only [Bool.not_true, Bool.not_false] at u2
          clear u3 u4
          have hof := Lib.hid (hend.out s0)
          clear hend hstop hgo s0
          by_cases hk0 : a < k
          · have d1 : ((k : Int) == (a : Int)) = false := beq_eq_false_iff_ne.2 (by omega)
            have d1' : decide (k = a) = false := decide_eq_false (by omega)
            by_cases hq0 : q = 0
            · have d2 : decide ((0 : Int) < (q : Int)) = false := decide_eq_false (by omega)
              have hr : Hid (destI s a = (plainF (s.extract a k), k - a)) := by show _ = _; rw [hof.out, decide_eq_true hk0, decide_eq_true hq0]; rfl
              have hpl := fun w => r7Plain_calls (s.extract a k) w (by rw [ByteArray.size_extract]; omega)
              have j8 : (a : Int) ≤ (k : Int) := by omega
              have j9 : (k : Int) ≤ (s.size : Int) := by omega
              have e9 : IntKind.i64.wrap ((k : Int) - (a : Int)) = ((k - a : Nat) : Int) := by rw [IntWalk.i64_in _ (by omega)]; omega
              clear hof
              go_wp2_with fail
              refine (hpl _).mono ?_
              rintro e' w2 ⟨rfl, hB2⟩
              go_wp2_with fail
              go_ret2
              exact ⟨ret_si (by rw [hr.out]) (by rw [hr.out]; try first | rfl | (show _ = ((k - a : Nat) : Int); omega)), hB.trans (hB2.mono hB.size)⟩
            · have d2 : decide ((0 : Int) < (q : Int)) = true := decide_eq_true (by omega)
              have hr : Hid (destI s a = (⟨#[]⟩, 0)) := by show _ = _; rw [hof.out, decide_eq_false hq0]; simp
              clear hof
              go_wp2_with fail
              go_ret2
              exact ⟨ret_si (by rw [hr.out]) (by rw [hr.out]; rfl), hB⟩
          · have d1 : ((k : Int) == (a : Int)) = true := beq_iff_eq.2 (by omega)
            have d1' : decide (k = a) = true := decide_eq_true (by omega)
            have hr : Hid (destI s a = (⟨#[]⟩, 0)) := by show _ = _; rw [hof.out, decide_eq_false hk0]; rfl
            clear hof
            go_wp2_with fail
            go_ret2
            exact ⟨ret_si (by rw [hr.out]) (by rw [hr.out]; rfl), hB⟩
        | false =>
          rw [b2] at u2
          simp only [Bool.not_true, Bool.not_false] at u2
          cases b3 : (s[k] == 41) with
          | true =>
            rw [b3] at u3
            have b4 : (s[k] == 40) = false := by rw [beq_iff_eq] at b3; rw [b3]; rfl
            rw [b4] at u4
            by_cases hqz : q = 0
            · have s0 := hstop.out (by rw [b3, decide_eq_true hqz]; simp)
              have d3 : ((q : Int) == 0) = true := beq_iff_eq.2 (by omega)
              have hof := Lib.hid (hend.out s0)
              clear hend hstop hgo s0
              by_cases hk0 : a < k
              · have d1 : ((k : Int) == (a : Int)) = false := beq_eq_false_iff_ne.2 (by omega)
                have d1' : decide (k = a) = false := decide_eq_false (by omega)
                by_cases hq0 : q = 0
                · have d2 : decide ((0 : Int) < (q : Int)) = false := decide_eq_false (by omega)
                  have hr : Hid (destI s a = (plainF (s.extract a k), k - a)) := by show _ = _; rw [hof.out, decide_eq_true hk0, decide_eq_true hq0]; rfl
                  have hpl := fun w => r7Plain_calls (s.extract a k) w (by rw [ByteArray.size_extract]; omega)
                  have j8 : (a : Int) ≤ (k : Int) := by omega
                  have j9 : (k : Int) ≤ (s.size : Int) := by omega
                  have e9 : IntKind.i64.wrap ((k : Int) - (a : Int)) = ((k - a : Nat) : Int) := by rw [IntWalk.i64_in _ (by omega)]; omega
                  clear hof
                  go_wp2_with fail
                  refine (hpl _).mono ?_
                  rintro e' w2 ⟨rfl, hB2⟩
                  go_wp2_with fail
                  go_ret2
                  exact ⟨ret_si (by rw [hr.out]) (by rw [hr.out]; try first | rfl | (show _ = ((k - a : Nat) : Int); omega)), hB.trans (hB2.mono hB.size)⟩
                · exact absurd hqz hq0
              · have d1 : ((k : Int) == (a : Int)) = true := beq_iff_eq.2 (by omega)
                have d1' : decide (k = a) = true := decide_eq_true (by omega)
                have hr : Hid (destI s a = (⟨#[]⟩, 0)) := by show _ = _; rw [hof.out, decide_eq_false hk0]; rfl
                clear hof
                go_wp2_with fail
                go_ret2
                exact ⟨ret_si (by rw [hr.out]) (by rw [hr.out]; rfl), hB⟩
            · have d3 : ((q : Int) == 0) = false := beq_eq_false_iff_ne.2 (by omega)
              have n41 : s[k] = 41 := by simpa using b3
              have hnx := hgo.out (q - 1) h33 b2 (by rw [decide_eq_false hqz]; simp) (by rw [n41]; rfl)
              have hr : Hid (bareT s a 0 = bareT s (k + d) (q - 1)) := by show _ = _; rw [hnx, if_neg (by omega)]
              have e1 : IntKind.i64.wrap ((q : Int) - 1) = (q : Int) - 1 := IntWalk.i64_in _ (by omega)
              have d4 : decide ((32 : Int) < (q : Int) - 1) = false := decide_eq_false (by omega)
              clear hend hstop hgo hnx n41
              go_wp2_with fail
              refine (hsz _).mono ?_
              rintro e w1 ⟨rfl, hb⟩
              go_wp2_with fail
              go_round
              case measure => simp [RowKit.intOf] <;> omega
              case rel => exact ⟨k + d, q - 1, by omega, by omega, by omega, by go_num, by first | rfl | (congr 1; omega), hr, hB.trans (hb.mono hB.size)⟩
          | false =>
            rw [b3] at u3
            cases b4 : (s[k] == 40) with
            | true =>
              rw [b4] at u4
              have n40 : s[k] = 40 := by simpa using b4
              have hnx := hgo.out (q + 1) h33 b2 (by rw [b3]; rfl) (by rw [n40]; rfl)
              have e1 : IntKind.i64.wrap ((q : Int) + 1) = (q : Int) + 1 := IntWalk.i64_in _ (by omega)
              by_cases hq32 : q = 32
              · have hr : Hid (destI s a = (⟨#[]⟩, 0)) := hbad.out (by rw [hnx, if_pos (by omega)])
                have d4 : decide ((32 : Int) < (q : Int) + 1) = true := decide_eq_true (by omega)
                clear hend hstop hgo hnx n40
                go_wp2_with fail
                go_ret2
                exact ⟨ret_si (by rw [hr.out]) (by rw [hr.out]; rfl), hB⟩
              · have hr : Hid (bareT s a 0 = bareT s (k + d) (q + 1)) := by show _ = _; rw [hnx, if_neg (by omega)]
                have d4 : decide ((32 : Int) < (q : Int) + 1) = false := decide_eq_false (by omega)
                clear hend hstop hgo hnx n40
                go_wp2_with fail
                refine (hsz _).mono ?_
                rintro e w1 ⟨rfl, hb⟩
                go_wp2_with fail
                go_round
                case measure => simp [RowKit.intOf] <;> omega
                case rel => exact ⟨k + d, q + 1, by omega, by omega, by omega, by go_num, by go_num, hr, hB.trans (hb.mono hB.size)⟩
            | false =>
              rw [b4] at u4
              have n40 : s[k] ≠ 40 := by simpa using b4
              have n41 : s[k] ≠ 41 := by simpa using b3
              have hnx := hgo.out q h33 b2 (by rw [b3]; rfl) (by rw [if_neg n40, if_neg n41])
              have hr : Hid (bareT s a 0 = bareT s (k + d) q) := by show _ = _; rw [hnx, if_neg (by omega)]
              have d4 : decide ((32 : Int) < (q : Int)) = false := decide_eq_false (by omega)
              clear hend hstop hgo hnx n40 n41
              go_wp2_with fail
              refine (hsz _).mono ?_
              rintro e w1 ⟨rfl, hb⟩
              go_wp2_with fail
              go_round
              case measure => simp [RowKit.intOf] <;> omega
              case rel => exact ⟨k + d, q, by omega, by omega, by omega, by go_num, rfl, hr, hB.trans (hb.mono hB.size)⟩
    · have s0 : bareT s a 0 = some (k, q) := by rw [he.out, bareT_end s k q (by omega)]
      have hstop : True := trivial
      have hgo : True := trivial
      have hof := Lib.hid (hend.out s0)
      clear hend hstop hgo s0
      by_cases hk0 : a < k
      · have d1 : ((k : Int) == (a : Int)) = false := beq_eq_false_iff_ne.2 (by omega)
        have d1' : decide (k = a) = false := decide_eq_false (by omega)
        by_cases hq0 : q = 0
        · have d2 : decide ((0 : Int) < (q : Int)) = false := decide_eq_false (by omega)
          have hr : Hid (destI s a = (plainF (s.extract a k), k - a)) := by show _ = _; rw [hof.out, decide_eq_true hk0, decide_eq_true hq0]; rfl
          have hpl := fun w => r7Plain_calls (s.extract a k) w (by rw [ByteArray.size_extract]; omega)
          have j8 : (a : Int) ≤ (k : Int) := by omega
          have j9 : (k : Int) ≤ (s.size : Int) := by omega
          have e9 : IntKind.i64.wrap ((k : Int) - (a : Int)) = ((k - a : Nat) : Int) := by rw [IntWalk.i64_in _ (by omega)]; omega
          clear hof
          go_wp2_with fail
          refine (hpl _).mono ?_
          rintro e' w2 ⟨rfl, hB2⟩
          go_wp2_with fail
          go_ret2
          exact ⟨ret_si (by rw [hr.out]) (by rw [hr.out]; try first | rfl | (show _ = ((k - a : Nat) : Int); omega)), hB.trans (hB2.mono hB.size)⟩
        · have d2 : decide ((0 : Int) < (q : Int)) = true := decide_eq_true (by omega)
          have hr : Hid (destI s a = (⟨#[]⟩, 0)) := by show _ = _; rw [hof.out, decide_eq_false hq0]; simp
          clear hof
          go_wp2_with fail
          go_ret2
          exact ⟨ret_si (by rw [hr.out]) (by rw [hr.out]; rfl), hB⟩
      · have d1 : ((k : Int) == (a : Int)) = true := beq_iff_eq.2 (by omega)
        have d1' : decide (k = a) = true := decide_eq_true (by omega)
        have hr : Hid (destI s a = (⟨#[]⟩, 0)) := by show _ = _; rw [hof.out, decide_eq_false hk0]; rfl
        clear hof
        go_wp2_with fail
        go_ret2
        exact ⟨ret_si (by rw [hr.out]) (by rw [hr.out]; rfl), hB⟩

theorem rDest_calls (s : ByteArray) (a : Int) (w : World) (hs : s.size ≤ 200000) :
    Calls Tryz.prog 9 #[.string s, .int .i64 a] w fun e w' => e = .returned (.tuple #[.string (destI s a).1, .int .i64 ((destI s a).2 : Nat)]) ∧ Below w.heap.size w w' := by
  by_cases h0 : a < 0
  · exact rDest_out s a w hs (Or.inl h0)
  · by_cases h1 : a < s.size
    · obtain ⟨n, rfl⟩ : ∃ n : Nat, a = n := ⟨a.toNat, by omega⟩
      have hn : n < s.size := by omega
      cases b1 : (s[n] == 60) with
      | true => exact rDest_ang s n hn w hs b1
      | false => exact rDest_bare s n hn w hs b1
    · exact rDest_out s a w hs (Or.inr ⟨by omega, by omega⟩)

end Go.Proofs.YtcpbljhogenjoaaGreatDoor
