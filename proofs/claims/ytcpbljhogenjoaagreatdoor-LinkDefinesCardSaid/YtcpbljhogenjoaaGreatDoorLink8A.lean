/- Walks: link's reference: step, blank, gap, rest. -/
import Derived.Test.YtcpbljhogenjoaaGreatDoorLinkTitled
import Derived.Test.YtcpbljhogenjoaaGreatDoorRef
import Derived.Test.YtcpbljhogenjoaaGreatDoorEscR7
namespace Go.Proofs.YtcpbljhogenjoaaGreatDoor
set_option linter.unusedVariables false
set_option linter.unusedSimpArgs false
open Go Go.RowKit Go.Shelf Go.Lib

set_option maxRecDepth 100000 in
theorem rstep_calls (s : ByteArray) (k : Nat) (hk : k < s.size) (w : World) (hs : s.size ≤ 1000000) :
    Calls Tryz.prog 19 #[.string s, .int .i64 k] w fun e w' => e = .returned (.int .i64 (stepN s k : Nat)) ∧ Below w.heap.size w w' := by
  have j0 : (0 : Int) ≤ (k : Int) := by omega
  have j1 : (k : Int) < (s.size : Int) := by omega
  have ub : ((s[k].toNat : Int) == 92) = (s[k] == 92) := u8_eq s[k] 92
  cases b : (s[k] == 92) with
  | false =>
    have hr : Hid (stepN s k = 1) := step_no92 s k hk b
    rw [b] at ub
    go_enter Tryz.func19, Tryz.ntmps19
    go_wp2_with fail
    go_ret
    exact ⟨ret_int (by rw [hr.out]; rfl), Below.refl _ _⟩
  | true =>
    rw [b] at ub
    by_cases h1 : k + 1 < s.size
    · have hr := Lib.hid (step_92 s k hk b h1)
      have j2 : (k : Int) + 1 < (s.size : Int) := by omega
      have hp := fun w => refPlain_calls (s[k + 1].toNat : Int) (by omega) (by have := s[k + 1].toNat_lt; omega) w
      go_enter Tryz.func19, Tryz.ntmps19
      go_wp2_with fail
      refine (hp _).mono ?_
      rintro e w1 ⟨rfl, hb⟩
      cases q : plainB (s[k + 1].toNat : Int) with
      | true =>
        go_wp2_with fail
        go_ret
        exact ⟨ret_int (by rw [hr.out _ q]; rfl), hb⟩
      | false =>
        go_wp2_with fail
        go_ret
        exact ⟨ret_int (by rw [hr.out _ q]; rfl), hb⟩
    · have hr : Hid (stepN s k = 1) := step_end s k h1
      have j2 : ¬ (k : Int) + 1 < (s.size : Int) := by omega
      go_enter Tryz.func19, Tryz.ntmps19
      go_wp2_with fail
      go_ret
      exact ⟨ret_int (by rw [hr.out]; rfl), Below.refl _ _⟩

theorem rblank_calls (c : UInt8) (w : World) :
    Calls Tryz.prog 18 #[.int .u8 (c.toNat : Int)] w fun e w' => e = .returned (.bool (gapU c)) ∧ w' = w := by
  have u0 : ((c.toNat : Int) == 32) = (c == 32) := u8_eq c 32
  have u1 : ((c.toNat : Int) == 9) = (c == 9) := u8_eq c 9
  have u2 : ((c.toNat : Int) == 10) = (c == 10) := u8_eq c 10
  have hr : Hid (gapU c = (c == 32 || (c == 9 || c == 10))) := rfl
  cases b0 : (c == 32) with
  | true =>
    rw [b0] at u0
    go_enter Tryz.func18, Tryz.ntmps18
    go_wp2_with fail
    go_ret
    exact ⟨ret_bool (by rw [hr.out, b0]; rfl), rfl⟩
  | false =>
    rw [b0] at u0
    cases b1 : (c == 9) with
    | true =>
      rw [b1] at u1
      go_enter Tryz.func18, Tryz.ntmps18
      go_wp2_with fail
      go_ret
      exact ⟨ret_bool (by rw [hr.out, b0, b1]; rfl), rfl⟩
    | false =>
      rw [b1] at u1
      cases b2 : (c == 10) with
      | true =>
        rw [b2] at u2
        go_enter Tryz.func18, Tryz.ntmps18
        go_wp2_with fail
        go_ret
        exact ⟨ret_bool (by rw [hr.out, b0, b1, b2]; rfl), rfl⟩
      | false =>
        rw [b2] at u2
        go_enter Tryz.func18, Tryz.ntmps18
        go_wp2_with fail
        go_ret
        exact ⟨ret_bool (by rw [hr.out, b0, b1, b2]; rfl), rfl⟩

theorem skp_yes (s set : ByteArray) (u : UInt8 → Bool) (hu : ∀ c, set.data.toList.contains c = u c) (k : Nat) (h : k < s.size) (hp : u s[k] = true) : skipN s set k = skipN s set (k + 1) := by
  unfold skipN leadN leadFrom
  rw [drop_cons s k h, List.takeWhile_cons, hu, hp]
  simp only [if_true, List.length_cons]
  omega
theorem skp_no (s set : ByteArray) (u : UInt8 → Bool) (hu : ∀ c, set.data.toList.contains c = u c) (k : Nat) (h : k < s.size) (hp : u s[k] = false) : skipN s set k = k := by
  unfold skipN leadN leadFrom
  rw [drop_cons s k h, List.takeWhile_cons, hu, hp]
  simp
theorem skp_end (s set : ByteArray) (k : Nat) (h : s.size ≤ k) : skipN s set k = k := by
  unfold skipN; rw [leadN_end s set k h]; rfl

/-- how many bytes 10 stand among the blanks at a place -/
def gapC (s : ByteArray) (k : Nat) : Nat := (s.extract k (gapN s k)).data.toList.count 10
theorem gapC_zero (s : ByteArray) (k : Nat) (h : gapN s k = k) : gapC s k = 0 := by
  unfold gapC
  rw [h, Lib.extract_data]; simp
theorem gapC_step (s : ByteArray) (k : Nat) (h : k < s.size) (hp : gapU s[k] = true) : gapC s k = gapC s (k + 1) + (if s[k] = 10 then 1 else 0) := by
  have hy : gapN s k = gapN s (k + 1) := skp_yes s gapT gapU gap_contains k h hp
  have hge : k + 1 ≤ gapN s (k + 1) := skip_ge s gapT (k + 1)
  unfold gapC
  rw [hy, Lib.extract_data, Lib.extract_data, show gapN s (k + 1) - k = (gapN s (k + 1) - (k + 1)) + 1 by omega, drop_cons s k h, List.take_succ_cons, List.count_cons]
  congr 1
  by_cases h10 : s[k] = 10
  · rw [h10]; rfl
  · rw [if_neg h10, if_neg (by simpa using h10)]
theorem gapOK_eq (s : ByteArray) (k : Nat) : gapOK s k = decide (gapC s k ≤ 1) := rfl

/-- what the reference's gap answers -/
def gapI (s : ByteArray) (a : Nat) : Int := if gapOK s a = true then ((gapN s a : Nat) : Int) else -1

set_option maxHeartbeats 2000000 in
set_option maxRecDepth 100000 in
theorem rgap_calls (s : ByteArray) (a : Nat) (ha : a ≤ s.size) (w : World) (hs : s.size ≤ 1000000) :
    Calls Tryz.prog 27 #[.string s, .int .i64 a] w fun e w' => e = .returned (.int .i64 (gapI s a)) ∧ Below w.heap.size w w' := by
  have hres : Hid (gapI s a = if decide (gapC s a ≤ 1) = true then ((gapN s a : Nat) : Int) else -1) := rfl
  go_enter Tryz.func27, Tryz.ntmps27
  go_wp2_with fail
  go_loopw [1, 5] (fun i c wr => ∃ k q : Nat, k ≤ s.size ∧ q ≤ k ∧ i = .int .i64 k ∧ c = .int .i64 q ∧ Hid (gapN s a = gapN s k ∧ gapC s a = gapC s k + q) ∧ wr = w) (fun i _ _ => s.size - (RowKit.intOf i).toNat)
  case atStart => exact ⟨a, 0, ha, Nat.zero_le _, rfl, rfl, ⟨rfl, rfl⟩, rfl⟩
  case round =>
    obtain ⟨k, q, hk, hq, rfl, rfl, he, rfl⟩ := hrel
    by_cases hlt : k < s.size
    · have j0 : (0 : Int) ≤ (k : Int) := by omega
      have j1 : (k : Int) < (s.size : Int) := by omega
      have hbl := fun w => rblank_calls s[k] w
      have u2 : ((s[k].toNat : Int) == 10) = (s[k] == 10) := u8_eq s[k] 10
      have hst := Lib.hid (gapC_step s k hlt)
      cases hg : gapU s[k] with
      | true =>
        have hy : Hid (gapN s k = gapN s (k + 1)) := skp_yes s gapT gapU gap_contains k hlt hg
        rw [hg] at hbl
        cases b2 : (s[k] == 10) with
        | true =>
          rw [b2] at u2
          have hr : Hid (gapN s a = gapN s (k + 1) ∧ gapC s a = gapC s (k + 1) + (q + 1)) := by
            refine ⟨he.out.1.trans hy.out, ?_⟩
            rw [he.out.2, hst.out hg, if_pos (by simpa using b2)]; omega
          clear hst he hy hg b2
          go_wp2_with fail
          refine (hbl _).mono ?_
          rintro e w1 ⟨rfl, rfl⟩
          go_wp2_with fail
          go_round
          case measure => simp [RowKit.intOf] <;> omega
          case rel => exact ⟨k + 1, q + 1, by omega, by omega, by go_num, by go_num, hr, trivial⟩
        | false =>
          rw [b2] at u2
          have hr : Hid (gapN s a = gapN s (k + 1) ∧ gapC s a = gapC s (k + 1) + q) := by
            refine ⟨he.out.1.trans hy.out, ?_⟩
            rw [he.out.2, hst.out hg, if_neg (by simpa using b2)]; omega
          clear hst he hy hg b2
          go_wp2_with fail
          refine (hbl _).mono ?_
          rintro e w1 ⟨rfl, rfl⟩
          go_wp2_with fail
          go_round
          case measure => simp [RowKit.intOf] <;> omega
          case rel => exact ⟨k + 1, q, by omega, by omega, by go_num, rfl, hr, trivial⟩
      | false =>
        have hn : gapN s k = k := skp_no s gapT gapU gap_contains k hlt hg
        have hr : Hid (gapI s a = if decide (q ≤ 1) = true then ((k : Nat) : Int) else -1) := by
          show _ = _
          rw [hres.out, he.out.1, he.out.2, gapC_zero s k hn, hn, Nat.zero_add]
        rw [hg] at hbl
        clear hst he hn hg
        by_cases hq1 : q ≤ 1
        · have d1 : decide ((1 : Int) < (q : Int)) = false := decide_eq_false (by omega)
          have hr2 : Hid (gapI s a = k) := by show _ = _; rw [hr.out, decide_eq_true hq1]; rfl
          go_wp2_with fail
          refine (hbl _).mono ?_
          rintro e w1 ⟨rfl, rfl⟩
          go_wp2_with fail
          go_ret
          exact ⟨ret_int (by rw [hr2.out]), Below.refl _ _⟩
        · have d1 : decide ((1 : Int) < (q : Int)) = true := decide_eq_true (by omega)
          have hr2 : Hid (gapI s a = -1) := by show _ = _; rw [hr.out, decide_eq_false hq1]; rfl
          go_wp2_with fail
          refine (hbl _).mono ?_
          rintro e w1 ⟨rfl, rfl⟩
          go_wp2_with fail
          go_ret
          exact ⟨ret_int (by rw [hr2.out]), Below.refl _ _⟩
    · have hn : gapN s k = k := skp_end s gapT k (by omega)
      have hr : Hid (gapI s a = if decide (q ≤ 1) = true then ((k : Nat) : Int) else -1) := by
        show _ = _
        rw [hres.out, he.out.1, he.out.2, gapC_zero s k hn, hn, Nat.zero_add]
      clear he hn
      by_cases hq1 : q ≤ 1
      · have d1 : decide ((1 : Int) < (q : Int)) = false := decide_eq_false (by omega)
        have hr2 : Hid (gapI s a = k) := by show _ = _; rw [hr.out, decide_eq_true hq1]; rfl
        go_wp2_with fail
        go_ret
        exact ⟨ret_int (by rw [hr2.out]), Below.refl _ _⟩
      · have d1 : decide ((1 : Int) < (q : Int)) = true := decide_eq_true (by omega)
        have hr2 : Hid (gapI s a = -1) := by show _ = _; rw [hr.out, decide_eq_false hq1]; rfl
        go_wp2_with fail
        go_ret
        exact ⟨ret_int (by rw [hr2.out]), Below.refl _ _⟩

/-- what the reference's rest answers -/
def restI (s : ByteArray) (a : Nat) : Int := match restF2 s a with | some e => ((e : Nat) : Int) | none => -1
theorem restI_eq (s : ByteArray) (a k : Nat) (h : skipN s blanksT a = k) : restI s a = if s.size ≤ k then (k : Int) else if byteU s k = 10 then ((k : Int) + 1) else -1 := by
  unfold restI restF2
  simp only [h]
  by_cases h1 : s.size ≤ k
  · rw [if_pos h1, if_pos h1]
  · rw [if_neg h1, if_neg h1]
    by_cases h2 : byteU s k = 10
    · rw [if_pos h2, if_pos h2]; rfl
    · rw [if_neg h2, if_neg h2]

set_option maxHeartbeats 2000000 in
set_option maxRecDepth 100000 in
theorem rrest_calls (s : ByteArray) (a : Nat) (ha : a ≤ s.size) (w : World) (hs : s.size ≤ 1000000) :
    Calls Tryz.prog 29 #[.string s, .int .i64 a] w fun e w' => e = .returned (.int .i64 (restI s a)) ∧ w' = w := by
  go_enter Tryz.func29, Tryz.ntmps29
  go_wp2_with fail
  go_loopw [1] (fun i wr => ∃ k : Nat, k ≤ s.size ∧ i = .int .i64 k ∧ Hid (skipN s blanksT a = skipN s blanksT k) ∧ wr = w) (fun i _ => s.size - (RowKit.intOf i).toNat)
  case atStart => exact ⟨a, ha, rfl, rfl, rfl⟩
  case round =>
    obtain ⟨k, hk, rfl, he, rfl⟩ := hrel
    by_cases hlt : k < s.size
    · have j0 : (0 : Int) ≤ (k : Int) := by omega
      have j1 : (k : Int) < (s.size : Int) := by omega
      have u0 : ((s[k].toNat : Int) == 32) = (s[k] == 32) := u8_eq s[k] 32
      have u1 : ((s[k].toNat : Int) == 9) = (s[k] == 9) := u8_eq s[k] 9
      have u2 : ((s[k].toNat : Int) == 10) = (s[k] == 10) := u8_eq s[k] 10
      have d1 : ((k : Int) == (s.size : Int)) = false := beq_eq_false_iff_ne.2 (by omega)
      have d2 : decide (k = s.size) = false := decide_eq_false (by omega)
      have hyy := Lib.hid (skp_yes s blanksT blankU blanks_contains k hlt)
      have hnn := Lib.hid (skp_no s blanksT blankU blanks_contains k hlt)
      have hbu : Hid (blankU s[k] = (s[k] == 32 || s[k] == 9)) := rfl
      cases b0 : (s[k] == 32) with
      | true =>
        rw [b0] at u0
        have hr : Hid (skipN s blanksT a = skipN s blanksT (k + 1)) := he.out.trans (hyy.out (by rw [hbu.out, b0]; rfl))
        clear he hyy hnn hbu b0
        go_wp2_with fail
        go_round
        case measure => simp [RowKit.intOf] <;> omega
        case rel => exact ⟨k + 1, by omega, by go_num, hr, trivial⟩
      | false =>
        rw [b0] at u0
        cases b1 : (s[k] == 9) with
        | true =>
          rw [b1] at u1
          have hr : Hid (skipN s blanksT a = skipN s blanksT (k + 1)) := he.out.trans (hyy.out (by rw [hbu.out, b0, b1]; rfl))
          clear he hyy hnn hbu b0 b1
          go_wp2_with fail
          go_round
          case measure => simp [RowKit.intOf] <;> omega
          case rel => exact ⟨k + 1, by omega, by go_num, hr, trivial⟩
        | false =>
          rw [b1] at u1
          have hn := hnn.out (by rw [hbu.out, b0, b1]; rfl)
          have hr0 := restI_eq s a k (he.out.trans hn)
          rw [if_neg (by omega), byteU_in s k hlt] at hr0
          clear he hyy hnn hbu hn
          cases b2 : (s[k] == 10) with
          | true =>
            have hr : Hid (restI s a = (k : Int) + 1) := hr0.trans (if_pos (by simpa using b2))
            rw [b2] at u2
            clear hr0
            go_wp2_with fail
            go_ret
            exact ⟨ret_int (by rw [hr.out]), rfl⟩
          | false =>
            have hr : Hid (restI s a = -1) := hr0.trans (if_neg (by simpa using b2))
            rw [b2] at u2
            clear hr0
            go_wp2_with fail
            go_ret
            exact ⟨ret_int (by rw [hr.out]), rfl⟩
    · have hr : Hid (restI s a = k) := (restI_eq s a k (he.out.trans (skp_end s blanksT k (by omega)))).trans (if_pos (by omega))
      have hks : k = s.size := by omega
      have d1 : ((k : Int) == (s.size : Int)) = true := beq_iff_eq.2 (by omega)
      have d2 : decide (k = s.size) = true := decide_eq_true hks
      clear hks he
      go_wp2_with fail
      go_ret
      exact ⟨ret_int (by rw [hr.out]), rfl⟩

end Go.Proofs.YtcpbljhogenjoaaGreatDoor
