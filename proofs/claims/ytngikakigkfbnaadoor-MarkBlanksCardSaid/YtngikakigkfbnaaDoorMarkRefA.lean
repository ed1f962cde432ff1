/- Walks: the references blank, blanks, many; mark.Closes. -/
import Derived.Test.YtngikakigkfbnaaDoorMarkUnder
import Derived.Test.YtngikakigkfbnaaDoorMarkPlain2
import Derived.OwnWalk
import Derived.Deep.DeepCutAuto
import Derived.Deep.LoopGhost
import Derived.Handy
namespace Go.Proofs.YtngikakigkfbnaaDoor
set_option linter.unusedVariables false
set_option linter.unusedSimpArgs false
open Go Go.RowKit Go.Lib

theorem blankU_i (c : UInt8) : blankU c = (((c.toNat : Int) == 32) || ((c.toNat : Int) == 9)) := by
  have h1 : (c == 32) = ((c.toNat : Int) == 32) := by
    rw [Bool.eq_iff_iff, beq_iff_eq, beq_iff_eq]
    exact ⟨fun e => by rw [e]; rfl, fun e => UInt8.toNat_inj.1 (by show c.toNat = 32; omega)⟩
  have h2 : (c == 9) = ((c.toNat : Int) == 9) := by
    rw [Bool.eq_iff_iff, beq_iff_eq, beq_iff_eq]
    exact ⟨fun e => by rw [e]; rfl, fun e => UInt8.toNat_inj.1 (by show c.toNat = 9; omega)⟩
  unfold blankU; rw [h1, h2]

theorem refblank_calls (c : UInt8) (w : World) :
    Calls Tryd.prog 25 #[.int .u8 (c.toNat : Int)] w fun e w' => e = .returned (.bool (blankU c)) ∧ w' = w := by
  have hb := Lib.hid (blankU_i c)
  generalize (c.toNat : Int) = x at *
  go_enter Tryd.func25, Tryd.ntmps25
  cases h1 : (x == 32) with
  | true =>
    go_wp2_with fail
    go_ret
    exact ⟨ret_bool (by rw [hb.out, h1]; rfl), rfl⟩
  | false =>
    go_wp2_with fail
    go_ret
    exact ⟨ret_bool (by rw [hb.out, h1]; rfl), rfl⟩

theorem all_drop (s : ByteArray) (p : Nat) (h : p < s.size) : (s.data.toList.drop p).all blankU = (blankU s[p] && (s.data.toList.drop (p + 1)).all blankU) := by
  rw [drop_cons s p h, List.all_cons]
theorem all_end (s : ByteArray) (p : Nat) (h : s.size ≤ p) : (s.data.toList.drop p).all blankU = true := by
  rw [List.drop_eq_nil_of_le (by rw [lst_size]; exact h)]; rfl

theorem refblanks_calls (s : ByteArray) (n : Nat) (w : World) (hs : s.size ≤ 1000000) (hn : n ≤ s.size) :
    Calls Tryd.prog 29 #[.string s, .int .i64 n] w fun e w' => e = .returned (.bool ((s.data.toList.drop n).all blankU)) ∧ w' = w := by
  go_enter Tryd.func29, Tryd.ntmps29
  go_wp2_with fail
  go_loopw [5] (fun i wr => ∃ k : Nat, k ≤ s.size ∧ i = .int .i64 k ∧ Hid ((s.data.toList.drop n).all blankU = (s.data.toList.drop k).all blankU) ∧ wr = w) (fun i _ => s.size - (RowKit.intOf i).toNat)
  case atStart => exact ⟨n, hn, rfl, rfl, rfl⟩
  case round =>
    obtain ⟨k, hk, rfl, he, rfl⟩ := hrel
    by_cases hlt : k < s.size
    · have d1 : decide ((k : Int) < (s.size : Int)) = true := by simpa using hlt
      have i0 : (0 : Int) ≤ (k : Int) := by omega
      have i1 : (k : Int) < (s.size : Int) := by omega
      have hst := Lib.hid (all_drop s k hlt)
      go_wp2_with fail
      refine (refblank_calls s[k] _).mono ?_
      rintro e w1 ⟨rfl, rfl⟩
      cases hb : blankU s[k] with
      | true =>
        go_wp2_with fail
        go_round
        case measure => simp [RowKit.intOf] <;> omega
        case rel => exact ⟨k + 1, by omega, by go_num, (by show _ = _; rw [he.out, hst.out, hb]; rfl), trivial⟩
      | false =>
        go_wp2_with fail
        go_ret
        exact ⟨ret_bool (by rw [he.out, hst.out, hb]; rfl), rfl⟩
    · have d1 : decide ((k : Int) < (s.size : Int)) = false := decide_eq_false (by omega)
      have hen := Lib.hid (all_end s k (by omega))
      go_wp2_with fail
      go_ret
      exact ⟨ret_bool (by rw [he.out, hen.out]), rfl⟩

theorem leadN_one (s : ByteArray) (c : UInt8) (p : Nat) (h : p < s.size) : leadN s ⟨#[c]⟩ p = if ((s[p].toNat : Int) == (c.toNat : Int)) = true then leadN s ⟨#[c]⟩ (p + 1) + 1 else 0 := by
  rw [leadN_step s _ p h, one_contains]
  have : (s[p] == c) = ((s[p].toNat : Int) == (c.toNat : Int)) := by
    rw [Bool.eq_iff_iff, beq_iff_eq, beq_iff_eq]
    exact ⟨fun e => by rw [e], fun e => UInt8.toNat_inj.1 (by omega)⟩
  rw [this]

theorem refmany_calls (s : ByteArray) (c : UInt8) (x : Int) (hx : (c.toNat : Int) = x) (w : World) (hs : s.size ≤ 1000000) :
    Calls Tryd.prog 28 #[.string s, .int .u8 x] w fun e w' => e = .returned (.int .i64 (lead s ⟨#[c]⟩ : Nat)) ∧ w' = w := by
  have hst := fun p h => Lib.hid (leadN_one s c p h)
  rw [hx] at hst
  clear hx
  go_enter Tryd.func28, Tryd.ntmps28
  go_wp2_with fail
  go_loopw [5] (fun i wr => ∃ k : Nat, k ≤ s.size ∧ i = .int .i64 k ∧ Hid (lead s ⟨#[c]⟩ = k + leadN s ⟨#[c]⟩ k) ∧ wr = w) (fun i _ => s.size - (RowKit.intOf i).toNat)
  case atStart => exact ⟨0, Nat.zero_le _, rfl, (by show _ = _; unfold lead; omega), rfl⟩
  case round =>
    obtain ⟨k, hk, rfl, he, rfl⟩ := hrel
    by_cases hlt : k < s.size
    · have d1 : decide ((k : Int) < (s.size : Int)) = true := by simpa using hlt
      have i0 : (0 : Int) ≤ (k : Int) := by omega
      have i1 : (k : Int) < (s.size : Int) := by omega
      replace hst := hst k hlt
      cases hq : ((s[k].toNat : Int) == x) with
      | true =>
        go_wp2_with fail
        go_round
        case measure => simp [RowKit.intOf] <;> omega
        case rel => exact ⟨k + 1, by omega, by go_num, (by show _ = _; rw [he.out, hst.out, if_pos hq]; omega), trivial⟩
      | false =>
        go_wp2_with fail
        go_ret
        exact ⟨ret_int (by rw [he.out, hst.out, if_neg (by rw [hq]; simp)]; simp), rfl⟩
    · have d1 : decide ((k : Int) < (s.size : Int)) = false := decide_eq_false (by omega)
      have hen := Lib.hid (leadN_end s ⟨#[c]⟩ k (by omega))
      go_wp2_with fail
      go_ret
      exact ⟨ret_int (by rw [he.out, hen.out]; simp), rfl⟩

/-- does it close a fence? -/
def closesF (s : ByteArray) (c : UInt8) (n : Int) : Bool := decide (1 ≤ n) && (decide (n ≤ (lead s ⟨#[c]⟩ : Nat)) && emptyB (s.extract (lead s ⟨#[c]⟩) s.size))

theorem Closes_calls (s : ByteArray) (c : UInt8) (x : Int) (hx : (c.toNat : Int) = x) (n : Int) (w : World) (hs : s.size ≤ 1000000) :
    Calls Tryd.prog 20 #[.string s, .int .u8 x, .int .i64 n] w fun e w' => e = .returned (.bool (closesF s c n)) ∧ Below w.heap.size w w' := by
  have hst := fun p h => Lib.hid (leadN_one s c p h)
  rw [hx] at hst
  clear hx
  have hle := lead_le s ⟨#[c]⟩
  have hF : Hid (closesF s c n = (decide (1 ≤ n) && (decide (n ≤ (lead s ⟨#[c]⟩ : Nat)) && emptyB (s.extract (lead s ⟨#[c]⟩) s.size)))) := rfl
  go_enter Tryd.func20, Tryd.ntmps20
  go_wp2_with fail
  go_loopw [7] (fun i wr => ∃ k : Nat, k ≤ s.size ∧ i = .int .i64 k ∧ Hid (lead s ⟨#[c]⟩ = k + leadN s ⟨#[c]⟩ k) ∧ wr = w) (fun i _ => s.size - (RowKit.intOf i).toNat)
  case atStart => exact ⟨0, Nat.zero_le _, rfl, (by show _ = _; unfold lead; omega), rfl⟩
  case round =>
    obtain ⟨k, hk, rfl, he, rfl⟩ := hrel
    by_cases hlt : k < s.size
    · have d1 : decide ((k : Int) < (s.size : Int)) = true := by simpa using hlt
      have i0 : (0 : Int) ≤ (k : Int) := by omega
      have i1 : (k : Int) < (s.size : Int) := by omega
      replace hst := hst k hlt
      cases hq : ((s[k].toNat : Int) == x) with
      | true =>
        go_wp2_with fail
        go_round
        case measure => simp [RowKit.intOf] <;> omega
        case rel => exact ⟨k + 1, by omega, by go_num, (by show _ = _; rw [he.out, hst.out, if_pos hq]; omega), trivial⟩
      | false =>
        have hk2 : Hid (lead s ⟨#[c]⟩ = k) := by show _ = _; rw [he.out, hst.out, if_neg (by rw [hq]; simp)]; omega
        obtain rfl : k = lead s ⟨#[c]⟩ := hk2.out.symm
        clear hk2 hst he
        generalize lead s ⟨#[c]⟩ = k at *
        cases h1 : decide (1 ≤ n) with
        | false =>
          go_wp2_with fail
          go_ret
          exact ⟨ret_bool (by rw [hF.out, h1]; rfl), Below.refl _ _⟩
        | true =>
          cases h2 : decide (n ≤ (k : Int)) with
          | false =>
            go_wp2_with fail
            go_ret
            exact ⟨ret_bool (by rw [hF.out, h1, h2]; rfl), Below.refl _ _⟩
          | true =>
            go_wp2_with fail
            refine (empty_calls _ _ (by rw [Lib.tail_size]; omega)).mono ?_
            rintro e w1 ⟨rfl, hb⟩
            go_wp2_with fail
            go_ret
            exact ⟨ret_bool (by rw [hF.out, h1, h2]; rfl), hb⟩
    · have d1 : decide ((k : Int) < (s.size : Int)) = false := decide_eq_false (by omega)
      have hk2 : Hid (lead s ⟨#[c]⟩ = k) := by show _ = _; rw [he.out, leadN_end s ⟨#[c]⟩ k (by omega)]; omega
      obtain rfl : k = lead s ⟨#[c]⟩ := hk2.out.symm
      clear hk2 hst he
      generalize lead s ⟨#[c]⟩ = k at *
      cases h1 : decide (1 ≤ n) with
      | false =>
        go_wp2_with fail
        go_ret
        exact ⟨ret_bool (by rw [hF.out, h1]; rfl), Below.refl _ _⟩
      | true =>
        cases h2 : decide (n ≤ (k : Int)) with
        | false =>
          go_wp2_with fail
          go_ret
          exact ⟨ret_bool (by rw [hF.out, h1, h2]; rfl), Below.refl _ _⟩
        | true =>
          go_wp2_with fail
          refine (empty_calls _ _ (by rw [Lib.tail_size]; omega)).mono ?_
          rintro e w1 ⟨rfl, hb⟩
          go_wp2_with fail
          go_ret
          exact ⟨ret_bool (by rw [hF.out, h1, h2]; rfl), hb⟩

end Go.Proofs.YtngikakigkfbnaaDoor
