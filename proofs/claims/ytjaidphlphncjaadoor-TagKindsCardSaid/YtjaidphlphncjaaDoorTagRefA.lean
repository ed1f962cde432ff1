/- Walks: tag's reference: letter, digit, blank, blanks, name; Begins, upTo. -/
import Derived.Test.YtjaidphlphncjaaDoorTagRaw
import Derived.Deep.CutBlock
import Derived.BigQuiet
import Derived.BigGuard
namespace Go.Proofs.YtjaidphlphncjaaDoor
set_option linter.unusedVariables false
set_option linter.unusedSimpArgs false
open Go Go.RowKit Go.Lib

theorem letter_iff (c : UInt8) : letterU c = true ↔ (65 ≤ (c.toNat : Int) ∧ (c.toNat : Int) ≤ 90 ∨ 97 ≤ (c.toNat : Int) ∧ (c.toNat : Int) ≤ 122) := by
  unfold letterU; simp; omega
theorem dig_iff (c : UInt8) : digU c = true ↔ (48 ≤ (c.toNat : Int) ∧ (c.toNat : Int) ≤ 57) := by
  unfold digU; simp; omega
theorem gap_iff (c : UInt8) : gapU c = true ↔ ((c.toNat : Int) = 32 ∨ (c.toNat : Int) = 9 ∨ (c.toNat : Int) = 10) := by
  have h : ∀ d : UInt8, (c == d) = true ↔ (c.toNat : Int) = (d.toNat : Int) := fun d => by
    rw [beq_iff_eq]
    exact ⟨fun e => by rw [e], fun e => UInt8.toNat_inj.1 (by omega)⟩
  unfold gapU
  rw [Bool.or_eq_true, Bool.or_eq_true, h 32, h 9, h 10]; rfl

theorem refletter_calls (c : UInt8) (w : World) :
    Calls Tryd.prog 22 #[.int .u8 (c.toNat : Int)] w fun e w' => e = .returned (.bool (letterU c)) ∧ w' = w := by
  have hb := Lib.hid (letter_iff c)
  generalize (c.toNat : Int) = x at *
  go_enter Tryd.func22, Tryd.ntmps22
  go_wp2_with fail
  all_goals
    go_ret
    exact ⟨ret_bool (by rw [Bool.eq_iff_iff, hb.out]; simp <;> omega), rfl⟩

theorem refdigit_calls (c : UInt8) (w : World) :
    Calls Tryd.prog 35 #[.int .u8 (c.toNat : Int)] w fun e w' => e = .returned (.bool (digU c)) ∧ w' = w := by
  have hb := Lib.hid (dig_iff c)
  generalize (c.toNat : Int) = x at *
  go_enter Tryd.func35, Tryd.ntmps35
  go_wp2_with fail
  all_goals
    go_ret
    exact ⟨ret_bool (by rw [Bool.eq_iff_iff, hb.out]; simp <;> omega), rfl⟩

theorem refgap_calls (c : UInt8) (w : World) :
    Calls Tryd.prog 50 #[.int .u8 (c.toNat : Int)] w fun e w' => e = .returned (.bool (gapU c)) ∧ w' = w := by
  have hb := Lib.hid (gap_iff c)
  generalize (c.toNat : Int) = x at *
  go_enter Tryd.func50, Tryd.ntmps50
  go_wp2_with fail
  all_goals
    go_ret
    exact ⟨ret_bool (by rw [Bool.eq_iff_iff, hb.out]; simp <;> omega), rfl⟩

theorem leadN_at (s set : ByteArray) (u : UInt8 → Bool) (hu : ∀ c, set.data.toList.contains c = u c) (p : Nat) (h : p < s.size) : leadN s set p = if u s[p] = true then leadN s set (p + 1) + 1 else 0 := by
  rw [leadN_step s _ p h, hu]

theorem refgaps_calls (s : ByteArray) (a : Nat) (w : World) (hs : s.size ≤ 1000000) (ha : a ≤ 1000001) :
    Calls Tryd.prog 26 #[.string s, .int .i64 a] w fun e w' => e = .returned (.int .i64 (skipN s gapT a : Nat)) ∧ w' = w := by
  go_enter Tryd.func26, Tryd.ntmps26
  go_wp2_with fail
  go_loopw [1] (fun i wr => ∃ k : Nat, k ≤ 1000001 ∧ i = .int .i64 k ∧ Hid (skipN s gapT a = k + leadN s gapT k) ∧ wr = w) (fun i _ => s.size - (RowKit.intOf i).toNat)
  case atStart => exact ⟨a, ha, rfl, rfl, rfl⟩
  case round =>
    obtain ⟨k, hk, rfl, he, rfl⟩ := hrel
    by_cases hlt : k < s.size
    · have d1 : decide ((k : Int) < (s.size : Int)) = true := by simpa using hlt
      have i0 : (0 : Int) ≤ (k : Int) := by omega
      have i1 : (k : Int) < (s.size : Int) := by omega
      have hst := Lib.hid (leadN_at s gapT gapU gap_contains k hlt)
      cases hq : gapU s[k] with
      | true =>
        go_wp2_with fail
        refine (refgap_calls s[k] _).mono ?_
        rintro e w1 ⟨rfl, rfl⟩
        rw [hq]
        go_wp2_with fail
        go_round
        case measure => simp [RowKit.intOf] <;> omega
        case rel => exact ⟨k + 1, by omega, by go_num, (by show _ = _; rw [he.out, hst.out, if_pos hq]; omega), trivial⟩
      | false =>
        go_wp2_with fail
        refine (refgap_calls s[k] _).mono ?_
        rintro e w1 ⟨rfl, rfl⟩
        rw [hq]
        go_wp2_with fail
        go_ret
        exact ⟨ret_int (by rw [he.out, hst.out, if_neg (by rw [hq]; simp)]; simp), rfl⟩
    · have d1 : decide ((k : Int) < (s.size : Int)) = false := decide_eq_false (by omega)
      have hen := Lib.hid (leadN_end s gapT k (by omega))
      go_wp2_with fail
      go_ret
      exact ⟨ret_int (by rw [he.out, hen.out]; simp), rfl⟩

/-- behind a name; the place itself where there is none -/
def nameP (s : ByteArray) (a : Nat) : Nat := if a < s.size ∧ letterU (byteU s a) = true then skipN s nameT a else a

set_option maxHeartbeats 2000000 in
theorem refname_calls (s : ByteArray) (a : Nat) (w : World) (hs : s.size ≤ 1000000) (ha : a ≤ 1000000) :
    Calls Tryd.prog 25 #[.string s, .int .i64 a] w fun e w' => e = .returned (.int .i64 (nameP s a : Nat)) ∧ w' = w := by
  by_cases hlt0 : a < s.size
  · have d0 : decide (s.size ≤ a) = false := decide_eq_false (by omega)
    have g0 : (0 : Int) ≤ (a : Int) := by omega
    have g1 : (a : Int) < (s.size : Int) := by omega
    have hbu := byteU_in s a hlt0
    cases hl : letterU s[a] with
    | false =>
      have hr : Hid (nameP s a = a) := by show _ = _; unfold nameP; rw [if_neg (by rintro ⟨_, h⟩; rw [hbu, hl] at h; cases h)]
      clear hbu
      go_enter Tryd.func25, Tryd.ntmps25
      go_wp2_with fail
      refine (refletter_calls s[a] _).mono ?_
      rintro e w1 ⟨rfl, rfl⟩
      rw [hl]
      go_wp2_with fail
      go_ret
      exact ⟨ret_int (by rw [hr.out]), rfl⟩
    | true =>
      have hr : Hid (nameP s a = skipN s nameT a) := by show _ = _; unfold nameP; rw [if_pos ⟨hlt0, by rw [hbu]; exact hl⟩]
      clear hbu
      go_enter Tryd.func25, Tryd.ntmps25
      go_wp2_with fail
      refine (refletter_calls s[a] _).mono ?_
      rintro e w1 ⟨rfl, rfl⟩
      rw [hl]
      clear hl
      go_wp2_with fail
      go_loopw [1] (fun i wr => ∃ k : Nat, k ≤ s.size ∧ i = .int .i64 k ∧ Hid (skipN s nameT a = k + leadN s nameT k) ∧ wr = w1) (fun i _ => s.size - (RowKit.intOf i).toNat)
      case atStart => exact ⟨a, by omega, rfl, rfl, rfl⟩
      case round =>
        obtain ⟨k, hk, rfl, he, rfl⟩ := hrel
        by_cases hlt : k < s.size
        · have d1 : decide ((k : Int) < (s.size : Int)) = true := by simpa using hlt
          have i0 : (0 : Int) ≤ (k : Int) := by omega
          have i1 : (k : Int) < (s.size : Int) := by omega
          have hst := Lib.hid (leadN_at s nameT nameU name_contains k hlt)
          have hnu : Hid (nameU s[k] = (letterU s[k] || (digU s[k] || s[k] == 45))) := rfl
          have hu : ((s[k].toNat : Int) == 45) = (s[k] == 45) := u8_eq s[k] 45
          go_upto_region 3 with (fail)
          go_cut [38] (fun v wx => v = .bool (nameU s[k]) ∧ wx = wr)
          case first =>
            cases hl : letterU s[k] with
            | true =>
              go_wp2_with fail
              refine (refletter_calls s[k] _).mono ?_
              rintro e w1 ⟨rfl, rfl⟩
              rw [hl]
              go_wp2_with fail
              go_meet
              exact ⟨by rw [hnu.out, hl]; rfl, rfl⟩
            | false =>
              cases hd : digU s[k] with
              | true =>
                go_wp2_with fail
                refine (refletter_calls s[k] _).mono ?_
                rintro e w1 ⟨rfl, rfl⟩
                rw [hl]
                go_wp2_with fail
                refine (refdigit_calls s[k] _).mono ?_
                rintro e w1 ⟨rfl, rfl⟩
                rw [hd]
                go_wp2_with fail
                go_meet
                exact ⟨by rw [hnu.out, hl, hd]; rfl, rfl⟩
              | false =>
                go_wp2_with fail
                refine (refletter_calls s[k] _).mono ?_
                rintro e w1 ⟨rfl, rfl⟩
                rw [hl]
                go_wp2_with fail
                refine (refdigit_calls s[k] _).mono ?_
                rintro e w1 ⟨rfl, rfl⟩
                rw [hd]
                go_wp2_with fail
                go_meet
                exact ⟨by rw [hnu.out, hl, hd]; rfl, rfl⟩
          case rest =>
            obtain ⟨rfl, rfl⟩ := hcut
            cases hq : nameU s[k] with
            | true =>
              go_wp2_with fail
              go_round
              case measure => simp [RowKit.intOf] <;> omega
              case rel => exact ⟨k + 1, by omega, by go_num, (by show _ = _; rw [he.out, hst.out, if_pos hq]; omega), trivial⟩
            | false =>
              go_wp2_with fail
              go_ret
              exact ⟨ret_int (by rw [hr.out, he.out, hst.out, if_neg (by rw [hq]; simp)]; simp), rfl⟩
        · have d1 : decide ((k : Int) < (s.size : Int)) = false := decide_eq_false (by omega)
          have hen := Lib.hid (leadN_end s nameT k (by omega))
          go_wp2_with fail
          go_ret
          exact ⟨ret_int (by rw [hr.out, he.out, hen.out]; simp), rfl⟩
  · have d0 : decide ((s.size : Int) ≤ (a : Int)) = true := decide_eq_true (by omega)
    have hr : Hid (nameP s a = a) := by show _ = _; unfold nameP; rw [if_neg (by rintro ⟨h, _⟩; exact hlt0 h)]
    go_enter Tryd.func25, Tryd.ntmps25
    go_wp2_with fail
    go_ret
    exact ⟨ret_int (by rw [hr.out]), rfl⟩

end Go.Proofs.YtjaidphlphncjaaDoor
