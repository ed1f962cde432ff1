/- Walks: escape's reference: Entity at a name; joined. -/
import Derived.Test.YtcpbljhogenjoaaGreatDoorEscR7F
namespace Go.Proofs.YtcpbljhogenjoaaGreatDoor
set_option linter.unusedVariables false
set_option linter.unusedSimpArgs false
open Go Go.RowKit Go.Shelf Go.Lib

set_option maxHeartbeats 8000000 in
set_option maxRecDepth 100000 in
theorem r7Entity_name (s : ByteArray) (n : Nat) (w : World) (hs : s.size ≤ 1000000) (h3 : n + 3 ≤ s.size) (h : (s[n]'(by omega) == 38) = true) (h35 : (s[n + 1]'(by omega) == 35) = false) :
    Calls Tryz.prog 46 #[.string s, .int .i64 (n : Nat)] w fun e w' => e = .returned (.tuple #[.string (entF s n).1, .int .i64 ((entF s n).2 : Nat)]) ∧ Below w.heap.size w w' := by
  have hn : n < s.size := by omega
  have h1 : n + 1 < s.size := by omega
  have j0 : (0 : Int) ≤ (n : Int) := by omega
  have j1 : (n : Int) < (s.size : Int) := by omega
  have d0 : decide ((n : Int) < 0) = false := decide_eq_false (by omega)
  have d1 : decide ((s.size : Int) ≤ (n : Int)) = false := decide_eq_false (by omega)
  have d1' : decide (s.size ≤ n) = false := decide_eq_false (by omega)
  have ub : ((s[n].toNat : Int) != 38) = !(s[n] == 38) := nb s[n] 38
  have u35 : ((s[n + 1].toNat : Int) == 35) = (s[n + 1] == 35) := u8_eq s[n + 1] 35
  have e1 : IntKind.i64.wrap ((s.size : Int) - (n : Int)) = (s.size : Int) - (n : Int) := IntWalk.i64_in _ (by omega)
  have d3 : decide ((s.size : Int) - (n : Int) < 3) = false := decide_eq_false (by omega)
  have e2 : IntKind.i64.wrap ((n : Int) + 1) = ((n + 1 : Nat) : Int) := by rw [IntWalk.i64_in _ (by omega)]; omega
  have j2 : (0 : Int) ≤ ((n + 1 : Nat) : Int) := by omega
  have j3 : ((n + 1 : Nat) : Int) < (s.size : Int) := by omega
  have hof := fun D hD V ok hP => ent_name s n (by rw [byteU_in s n hn, h, decide_eq_true hn]; rfl) (by rw [byteU_in s (n + 1) h1, h35]; simp) _ rfl D hD V ok hP
  have hml : n + 1 + min (leadN s wordT (n + 1)) 8 ≤ s.size := by have := leadN_le s wordT (n + 1) (by omega); omega
  have hof2 := Lib.hid (hof (s.extract (n + 1) (n + 1 + min (leadN s wordT (n + 1)) 8)) rfl (entP (s.extract (n + 1) (n + 1 + min (leadN s wordT (n + 1)) 8))).1 (entP (s.extract (n + 1) (n + 1 + min (leadN s wordT (n + 1)) 8))).2 rfl)
  have hcl := fun w => r3Entity_calls (s.extract (n + 1) (n + 1 + min (leadN s wordT (n + 1)) 8)) w
  have hbd := entP_bd (s.extract (n + 1) (n + 1 + min (leadN s wordT (n + 1)) 8))
  have hch := fun w => r7char_calls (entP (s.extract (n + 1) (n + 1 + min (leadN s wordT (n + 1)) 8))).1.toNat w
  have hV : (((entP (s.extract (n + 1) (n + 1 + min (leadN s wordT (n + 1)) 8))).1.toNat : Nat) : Int) = (entP (s.extract (n + 1) (n + 1 + min (leadN s wordT (n + 1)) 8))).1 := by omega
  rw [hV] at hch
  generalize (entP (s.extract (n + 1) (n + 1 + min (leadN s wordT (n + 1)) 8))).1 = V at *
  generalize (entP (s.extract (n + 1) (n + 1 + min (leadN s wordT (n + 1)) 8))).2 = ok at *
  have hmm : Hid (min (leadN s wordT (n + 1)) 8 = min (leadN s wordT (n + 1)) 8) := rfl
  rw [h] at ub
  rw [h35] at u35
  simp only [Bool.not_true, Bool.not_false] at ub
  clear h h35 hV hbd hof
  go_enter Tryz.func46, Tryz.ntmps46
  go_upto_block 0 with (fail)
  go_cut [11] (fun v wx => v = .int .i64 ((n + 1 + min (leadN s wordT (n + 1)) 8 : Nat) : Int) ∧ w = wx)
  case first =>
    clear hof2 hcl hch
    go_wp2_with fail
    go_loopw [11] (fun i wr => ∃ k : Nat, k ≤ 8 ∧ n + 1 + k ≤ s.size ∧ i = .int .i64 ((n + 1 + k : Nat) : Int) ∧ Hid (leadN s wordT (n + 1) = k + leadN s wordT (n + 1 + k)) ∧ wr = w) (fun i _ => s.size - (RowKit.intOf i).toNat)
    case atStart => exact ⟨0, Nat.zero_le _, by omega, rfl, by show _ = _; simp, rfl⟩
    case round =>
      obtain ⟨k, hk, hks, rfl, he, rfl⟩ := hrel
      have e5 : IntKind.i64.wrap (((n + 1 + k : Nat) : Int) - (n : Int)) = ((k + 1 : Nat) : Int) := by rw [IntWalk.i64_in _ (by omega)]; omega
      have e6 : IntKind.i64.wrap (((n + 1 + k : Nat) : Int) + 1) = ((n + 1 + (k + 1) : Nat) : Int) := by rw [IntWalk.i64_in _ (by omega)]; omega
      by_cases hlt : n + 1 + k < s.size
      · have dl : decide (((n + 1 + k : Nat) : Int) < (s.size : Int)) = true := decide_eq_true (by omega)
        have j4 : (0 : Int) ≤ ((n + 1 + k : Nat) : Int) := by omega
        have j5 : ((n + 1 + k : Nat) : Int) < (s.size : Int) := by omega
        by_cases hk8 : k < 8
        · have d8 : decide (((k + 1 : Nat) : Int) ≤ 8) = true := decide_eq_true (by omega)
          have hyes := Lib.hid (ln_yes s wordT wordU word_contains (n + 1 + k) hlt)
          have hno := Lib.hid (ln_no s wordT wordU word_contains (n + 1 + k) hlt)
          have hwu : Hid (wordU s[n + 1 + k] = (letterU s[n + 1 + k] || digU s[n + 1 + k])) := rfl
          have hlc := fun w => r7letter_calls s[n + 1 + k] w
          have hdc := fun w => r7digit_calls s[n + 1 + k] w
          cases b1 : letterU s[n + 1 + k] with
          | true =>
            have hr : Hid (leadN s wordT (n + 1) = (k + 1) + leadN s wordT (n + 1 + (k + 1))) := by show _ = _; rw [he.out, hyes.out (by rw [hwu.out, b1]; rfl), Nat.add_assoc (n + 1) k 1]; omega
            rw [b1] at hlc
            clear he hyes hno hwu b1
            go_wp2_with fail
            refine (hlc _).mono ?_
            rintro e w1 ⟨rfl, rfl⟩
            go_wp2_with fail
            go_round
            case measure => simp [RowKit.intOf] <;> omega
            case rel => exact ⟨k + 1, by omega, by omega, by go_num, hr, trivial⟩
          | false =>
            cases b2 : digU s[n + 1 + k] with
            | true =>
              have hr : Hid (leadN s wordT (n + 1) = (k + 1) + leadN s wordT (n + 1 + (k + 1))) := by show _ = _; rw [he.out, hyes.out (by rw [hwu.out, b1, b2]; rfl), Nat.add_assoc (n + 1) k 1]; omega
              rw [b1] at hlc
              rw [b2] at hdc
              clear he hyes hno hwu b1 b2
              go_wp2_with fail
              refine (hlc _).mono ?_
              rintro e w1 ⟨rfl, rfl⟩
              go_wp2_with fail
              refine (hdc _).mono ?_
              rintro e w1 ⟨rfl, rfl⟩
              go_wp2_with fail
              go_round
              case measure => simp [RowKit.intOf] <;> omega
              case rel => exact ⟨k + 1, by omega, by omega, by go_num, hr, trivial⟩
            | false =>
              have hm : min (leadN s wordT (n + 1)) 8 = k := by rw [he.out, hno.out (by rw [hwu.out, b1, b2]; rfl)]; omega
              have HM := Lib.hid hm
              rw [b1] at hlc
              rw [b2] at hdc
              clear he hyes hno hwu b1 b2 hm
              go_wp2_with fail
              refine (hlc _).mono ?_
              rintro e w1 ⟨rfl, rfl⟩
              go_wp2_with fail
              refine (hdc _).mono ?_
              rintro e w1 ⟨rfl, rfl⟩
              go_wp2_with fail
              go_meet
              exact ⟨by rw [HM.out]; first | rfl | (congr 1; omega), rfl⟩
        · have d8 : decide (((k + 1 : Nat) : Int) ≤ 8) = false := decide_eq_false (by omega)
          have hm : min (leadN s wordT (n + 1)) 8 = k := by rw [he.out]; omega
          have HM := Lib.hid hm
          clear he hm
          go_wp2_with fail
          go_meet
          exact ⟨by rw [HM.out]; first | rfl | (congr 1; omega), rfl⟩
      · have dl : decide (((n + 1 + k : Nat) : Int) < (s.size : Int)) = false := decide_eq_false (by omega)
        have hm : min (leadN s wordT (n + 1)) 8 = k := by rw [he.out, leadN_end s wordT _ (by omega)]; omega
        have HM := Lib.hid hm
        clear he hm
        go_wp2_with fail
        go_meet
        exact ⟨by rw [HM.out]; first | rfl | (congr 1; omega), rfl⟩
  case rest =>
    obtain ⟨rfl, rfl⟩ := hcut
    clear hmm
    generalize min (leadN s wordT (n + 1)) 8 = m at *
    have hfc : n + 1 + m = n + 1 + m := rfl
    generalize hq : n + 1 + m = q at *
    have i1 : ((n + 1 : Nat) : Int) ≤ (q : Int) := by omega
    have i2 : (q : Int) ≤ (s.size : Int) := by omega
    have i0 : (0 : Int) ≤ (q : Int) := by omega
    have e5 : IntKind.i64.wrap ((q : Int) + 1) = ((q + 1 : Nat) : Int) := by rw [IntWalk.i64_in _ (by omega)]; omega
    have e6 : IntKind.i64.wrap (((q + 1 : Nat) : Int) - (n : Int)) = ((m + 2 : Nat) : Int) := by rw [IntWalk.i64_in _ (by omega)]; omega
    have HQ := Lib.hid hq
    clear hq hfc
    cases ok with
    | false =>
      have hr : Hid (entF s n = (⟨#[]⟩, 0)) := hof2.out
      clear hof2
      go_wp2_with fail
      refine (hcl _).mono ?_
      rintro e w1 ⟨rfl, hB⟩
      go_wp2_with fail
      go_ret2
      exact ⟨ret_si (by rw [hr.out]) (by rw [hr.out]; rfl), hB⟩
    | true =>
      by_cases hlt : q < s.size
      · have j7 : (q : Int) < (s.size : Int) := by omega
        have dl : decide ((s.size : Int) ≤ (q : Int)) = false := decide_eq_false (by omega)
        have dl' : decide (s.size ≤ q) = false := decide_eq_false (by omega)
        have ul : ((s[q].toNat : Int) != 59) = !(s[q] == 59) := nb s[q] 59
        cases b : (s[q] == 59) with
        | true =>
          have hr : Hid (entF s n = (charF V.toNat, m + 2)) := by
            show _ = _
            rw [hof2.out, byteU_in s q hlt, b, decide_eq_true hlt]; rfl
          rw [b] at ul
          simp only [Bool.not_true, Bool.not_false] at ul
          clear hof2
          go_wp2_with fail
          refine (hcl _).mono ?_
          rintro e w1 ⟨rfl, hB⟩
          go_wp2_with fail
          refine (hch _).mono ?_
          rintro e w2 ⟨rfl, hB2⟩
          go_wp2_with fail
          go_ret2
          exact ⟨ret_si (by rw [hr.out]) (by rw [hr.out]; show _ = ((m + 2 : Nat) : Int); have := HQ.out; omega), hB.trans (hB2.mono hB.size)⟩
        | false =>
          have hr : Hid (entF s n = (⟨#[]⟩, 0)) := by
            show _ = _
            rw [hof2.out, byteU_in s q hlt, b]; simp
          rw [b] at ul
          simp only [Bool.not_true, Bool.not_false] at ul
          clear hof2
          go_wp2_with fail
          refine (hcl _).mono ?_
          rintro e w1 ⟨rfl, hB⟩
          go_wp2_with fail
          go_ret2
          exact ⟨ret_si (by rw [hr.out]) (by rw [hr.out]; rfl), hB⟩
      · have dl : decide ((s.size : Int) ≤ (q : Int)) = true := decide_eq_true (by omega)
        have dl' : decide (s.size ≤ q) = true := decide_eq_true (by omega)
        have hr : Hid (entF s n = (⟨#[]⟩, 0)) := by
          show _ = _
          rw [hof2.out, decide_eq_false hlt]; simp
        clear hof2
        go_wp2_with fail
        refine (hcl _).mono ?_
        rintro e w1 ⟨rfl, hB⟩
        go_wp2_with fail
        go_ret2
        exact ⟨ret_si (by rw [hr.out]) (by rw [hr.out]; rfl), hB⟩

theorem r7Entity_calls (s : ByteArray) (n : Nat) (hn : n < s.size) (w : World) (hs : s.size ≤ 1000000) :
    Calls Tryz.prog 46 #[.string s, .int .i64 (n : Nat)] w fun e w' => e = .returned (.tuple #[.string (entF s n).1, .int .i64 ((entF s n).2 : Nat)]) ∧ Below w.heap.size w w' := by
  cases h : (s[n] == 38) with
  | false => exact r7Entity_no s n hn w hs (Or.inl h)
  | true =>
    by_cases h3 : n + 3 ≤ s.size
    · cases h35 : (s[n + 1]'(by omega) == 35) with
      | true => exact r7Entity_num s n w hs h3 h h35
      | false => exact r7Entity_name s n w hs h3 h h35
    · exact r7Entity_no s n hn w hs (Or.inr ⟨h, by omega⟩)

end Go.Proofs.YtcpbljhogenjoaaGreatDoor
