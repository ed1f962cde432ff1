/- Walks: escape's reference: Entity at a number. -/
import Derived.Test.YtcpbljhogenjoaaGreatDoorEscR7E
namespace Go.Proofs.YtcpbljhogenjoaaGreatDoor
set_option linter.unusedVariables false
set_option linter.unusedSimpArgs false
open Go Go.RowKit Go.Shelf Go.Lib

/-- the number's answer, written out -/
theorem ent_num2 (s : ByteArray) (n : Nat) (h : byteU s n = 38) (h3 : n + 3 ≤ s.size) (h35 : byteU s (n + 1) = 35) (x : Bool) (hx : (byteU s (n + 2) == 120 || byteU s (n + 2) == 88) = x) (f m : Nat) (hf : atOf x (n + 2) = f) (hm : numN s x f = m) :
    entF s n = if (decide (0 < m) && (decide (f + m < s.size) && byteU s (f + m) == 59)) = true then (charF (valB (baseOf x) (s.extract f (f + m)).data.toList), f + m + 1 - n) else (⟨#[]⟩, 0) := by
  unfold entF
  rw [h, h35, if_pos (by rw [decide_eq_true (by omega : n < s.size)]; rfl), if_pos (by rw [decide_eq_true (by omega : n + 1 < s.size)]; rfl)]
  unfold numF
  simp only [hx, hf, hm]
  have hfn : n + 2 ≤ f := by rw [← hf]; unfold atOf; split <;> omega
  split
  · rename_i hc
    rw [if_neg (by omega)]
  · rw [if_pos rfl]

set_option maxHeartbeats 8000000 in
set_option maxRecDepth 100000 in
theorem r7Entity_num (s : ByteArray) (n : Nat) (w : World) (hs : s.size ≤ 1000000) (h3 : n + 3 ≤ s.size) (h : (s[n]'(by omega) == 38) = true) (h35 : (s[n + 1]'(by omega) == 35) = true) :
    Calls Tryz.prog 46 #[.string s, .int .i64 (n : Nat)] w fun e w' => e = .returned (.tuple #[.string (entF s n).1, .int .i64 ((entF s n).2 : Nat)]) ∧ Below w.heap.size w w' := by
  have hn : n < s.size := by omega
  have h1 : n + 1 < s.size := by omega
  have h2 : n + 2 < s.size := by omega
  have j0 : (0 : Int) ≤ (n : Int) := by omega
  have j1 : (n : Int) < (s.size : Int) := by omega
  have d0 : decide ((n : Int) < 0) = false := decide_eq_false (by omega)
  have d1 : decide ((s.size : Int) ≤ (n : Int)) = false := decide_eq_false (by omega)
  have d1' : decide (s.size ≤ n) = false := decide_eq_false (by omega)
  have ub : ((s[n].toNat : Int) != 38) = !(s[n] == 38) := nb s[n] 38
  have u35 : ((s[n + 1].toNat : Int) == 35) = (s[n + 1] == 35) := u8_eq s[n + 1] 35
  have e1 : IntKind.i64.wrap ((s.size : Int) - (n : Int)) = (s.size : Int) - (n : Int) := IntWalk.i64_in _ (by omega)
  have d3 : decide ((s.size : Int) - (n : Int) < 3) = false := decide_eq_false (by omega)
  have e2 : IntKind.i64.wrap ((n : Int) + 1) = ((n + 1 : Nat) : Int) := by rw [IntWalk.i64_in _ (by omega)]; omega
  have e3 : IntKind.i64.wrap ((n : Int) + 2) = ((n + 2 : Nat) : Int) := by rw [IntWalk.i64_in _ (by omega)]; omega
  have j2 : (0 : Int) ≤ ((n + 1 : Nat) : Int) := by omega
  have j3 : ((n + 1 : Nat) : Int) < (s.size : Int) := by omega
  have j4 : (0 : Int) ≤ ((n + 2 : Nat) : Int) := by omega
  have j5 : ((n + 2 : Nat) : Int) < (s.size : Int) := by omega
  have hof := Lib.hid (fun x hx f m hf hm => ent_num2 s n (by rw [byteU_in s n hn]; simpa using h) h3 (by rw [byteU_in s (n + 1) h1]; simpa using h35) x hx f m hf hm)
  rw [h] at ub
  rw [h35] at u35
  simp only [Bool.not_true, Bool.not_false] at ub
  have hx : Hid ((byteU s (n + 2) == 120 || byteU s (n + 2) == 88) = (s[n + 2] == 120 || s[n + 2] == 88)) := by show _ = _; rw [byteU_in s (n + 2) h2]
  have u1 : ((s[n + 2].toNat : Int) == 120) = (s[n + 2] == 120) := u8_eq s[n + 2] 120
  have u2 : ((s[n + 2].toNat : Int) == 88) = (s[n + 2] == 88) := u8_eq s[n + 2] 88
  clear h h35
  go_enter Tryz.func46, Tryz.ntmps46
  go_upto_region 7 with (fail)
  go_cut [51] (fun v wx => v = .bool (s[n + 2] == 120 || s[n + 2] == 88) ∧ w = wx)
  case first =>
    clear hof hx
    cases b1 : (s[n + 2] == 120) with
    | true =>
      rw [b1] at u1
      go_wp2_with fail
      go_meet
      exact ⟨by rw [b1]; rfl, rfl⟩
    | false =>
      rw [b1] at u1
      cases b2 : (s[n + 2] == 88) with
      | true =>
        rw [b2] at u2
        go_wp2_with fail
        go_meet
        exact ⟨by rw [b1, b2]; rfl, rfl⟩
      | false =>
        rw [b2] at u2
        go_wp2_with fail
        go_meet
        exact ⟨by rw [b1, b2]; rfl, rfl⟩
  case rest =>
    obtain ⟨rfl, rfl⟩ := hcut
    clear u1 u2
    have hof2 := Lib.hid (hof.out _ hx.out _ _ rfl rfl)
    have hxs : Hid ((s[n + 2] == 120 || s[n + 2] == 88) = true → n + 3 ≤ s.size) := fun _ => h3
    clear hof hx
    generalize (s[n + 2] == 120 || s[n + 2] == 88) = x at *
    have e4 : IntKind.i64.wrap (((n + 2 : Nat) : Int) + 1) = ((n + 2 + 1 : Nat) : Int) := by rw [IntWalk.i64_in _ (by omega)]; omega
    go_upto_if 51 with (fail)
    go_cut [6, 7, 8] (fun v6 v7 v8 wx => v6 = .int .i64 (atOf x (n + 2) : Nat) ∧ v7 = .int .i64 (baseOf x : Nat) ∧ v8 = .int .i64 (mostOf x : Nat) ∧ w = wx)
    case first =>
      clear hof2
      cases x with
      | true =>
        go_wp2_with fail
        go_meet
        exact ⟨rfl, rfl, rfl, rfl⟩
      | false =>
        go_wp2_with fail
        go_meet
        exact ⟨rfl, rfl, rfl, rfl⟩
    case rest =>
      obtain ⟨rfl, rfl, rfl, rfl⟩ := hcut
      have hfb : atOf x (n + 2) ≤ s.size ∧ n + 2 ≤ atOf x (n + 2) := by unfold atOf; split <;> omega
      have hnc := fun w => r7number_calls x s (atOf x (n + 2)) hfb.1 w hs
      have hml := numN_le s x (atOf x (n + 2)) hfb.1
      have hm7 := numN_7 s x (atOf x (n + 2))
      have hch := fun w => r7char_calls (valB (baseOf x) (s.extract (atOf x (n + 2)) (atOf x (n + 2) + numN s x (atOf x (n + 2)))).data.toList) w
      generalize valB (baseOf x) (s.extract (atOf x (n + 2)) (atOf x (n + 2) + numN s x (atOf x (n + 2)))).data.toList = V at *
      generalize numN s x (atOf x (n + 2)) = m at *
      generalize atOf x (n + 2) = f at *
      have e5 : IntKind.i64.wrap ((f : Int) + (m : Int)) = ((f + m : Nat) : Int) := by rw [IntWalk.i64_in _ (by omega)]; omega
      have e6 : IntKind.i64.wrap (((f + m : Nat) : Int) + 1) = ((f + m + 1 : Nat) : Int) := by rw [IntWalk.i64_in _ (by omega)]; omega
      have e7 : IntKind.i64.wrap (((f + m + 1 : Nat) : Int) - (n : Int)) = ((f + m + 1 - n : Nat) : Int) := by rw [IntWalk.i64_in _ (by omega)]; omega
      clear hxs
      generalize baseOf x = Bs at *
      generalize mostOf x = M at *
      by_cases hm0 : m = 0
      · have hr : Hid (entF s n = (⟨#[]⟩, 0)) := by show _ = _; rw [hof2.out, hm0]; rfl
        have dm : ((m : Int) == 0) = true := beq_iff_eq.2 (by omega)
        clear hof2 hm0
        go_wp2_with fail
        refine (hnc _).mono ?_
        rintro e w1 ⟨rfl, rfl⟩
        go_wp2_with fail
        go_ret2
        exact ⟨ret_si (by rw [hr.out]) (by rw [hr.out]; rfl), Below.refl _ _⟩
      · have dm : ((m : Int) == 0) = false := beq_eq_false_iff_ne.2 (by omega)
        by_cases hlt : f + m < s.size
        · have j6 : (0 : Int) ≤ ((f + m : Nat) : Int) := by omega
          have j7 : ((f + m : Nat) : Int) < (s.size : Int) := by omega
          have dl : decide ((s.size : Int) ≤ ((f + m : Nat) : Int)) = false := decide_eq_false (by omega)
          have dl' : decide (s.size ≤ f + m) = false := decide_eq_false (by omega)
          have ul : ((s[f + m].toNat : Int) != 59) = !(s[f + m] == 59) := nb s[f + m] 59
          cases b : (s[f + m] == 59) with
          | true =>
            have hr : Hid (entF s n = (charF V, f + m + 1 - n)) := by
              show _ = _
              rw [hof2.out, byteU_in s (f + m) hlt, b, decide_eq_true hlt, decide_eq_true (show 0 < m by omega)]; rfl
            rw [b] at ul
            simp only [Bool.not_true, Bool.not_false] at ul
            clear hof2 hm0
            go_wp2_with fail
            refine (hnc _).mono ?_
            rintro e w1 ⟨rfl, rfl⟩
            go_wp2_with fail
            refine (hch _).mono ?_
            rintro e w1 ⟨rfl, hB⟩
            go_wp2_with fail
            go_ret2
            exact ⟨ret_si (by rw [hr.out]) (by rw [hr.out]; show _ = ((f + m + 1 - n : Nat) : Int); omega), hB⟩
          | false =>
            have hr : Hid (entF s n = (⟨#[]⟩, 0)) := by
              show _ = _
              rw [hof2.out, byteU_in s (f + m) hlt, b]; simp
            rw [b] at ul
            simp only [Bool.not_true, Bool.not_false] at ul
            clear hof2 hm0
            go_wp2_with fail
            refine (hnc _).mono ?_
            rintro e w1 ⟨rfl, rfl⟩
            go_wp2_with fail
            go_ret2
            exact ⟨ret_si (by rw [hr.out]) (by rw [hr.out]; rfl), Below.refl _ _⟩
        · have dl : decide ((s.size : Int) ≤ ((f + m : Nat) : Int)) = true := decide_eq_true (by omega)
          have dl' : decide (s.size ≤ f + m) = true := decide_eq_true (by omega)
          have hr : Hid (entF s n = (⟨#[]⟩, 0)) := by
            show _ = _
            rw [hof2.out, decide_eq_false hlt]; simp
          clear hof2 hm0
          go_wp2_with fail
          refine (hnc _).mono ?_
          rintro e w1 ⟨rfl, rfl⟩
          go_wp2_with fail
          go_ret2
          exact ⟨ret_si (by rw [hr.out]) (by rw [hr.out]; rfl), Below.refl _ _⟩

end Go.Proofs.YtcpbljhogenjoaaGreatDoor
