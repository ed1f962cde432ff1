/- Walks: link.size, upTo, from. -/
import Derived.Test.YtcpbljhogenjoaaDoorLinkPlain
import Derived.Test.YtcpbljhogenjoaaDoorClass
import Derived.Test.YtcpbljhogenjoaaDoorHelp
import Derived.Test.YtcpbljhogenjoaaDoorMarkPlain3
import Derived.Handy
namespace Go.Proofs.YtcpbljhogenjoaaDoor
set_option linter.unusedVariables false
set_option linter.unusedSimpArgs false
open Go Go.RowKit Go.Shelf Go.Lib

theorem idx_set (l : List UInt8) (c : UInt8) : decide (0 ≤ Lib.indexByte l ((c.toNat : Int).toNat.toUInt8)) = l.contains c := by
  rw [show ((c.toNat : Int).toNat.toUInt8) = c from by simp]
  induction l with
  | nil => rfl
  | cons b t ih =>
    have hg := Lib.indexByte_ge t c
    unfold Lib.indexByte
    rw [List.contains_cons]
    by_cases hb : b = c
    · subst hb; simp
    · have h1 : (b == c) = false := by simpa using hb
      have h2 : (c == b) = false := by simpa using Ne.symm hb
      rw [h1, h2]
      simp only [Bool.false_eq_true, if_false, Bool.false_or, ← ih]
      by_cases h3 : Lib.indexByte t c = -1
      · rw [h3]; decide
      · rw [if_neg (by simpa using h3)]
        by_cases h4 : 0 ≤ Lib.indexByte t c
        · rw [decide_eq_true h4, decide_eq_true (by omega)]
        · omega

theorem step_no92 (s : ByteArray) (k : Nat) (hk : k < s.size) (b : (s[k] == 92) = false) : stepN s k = 1 := by
  unfold stepN escU
  rw [byteU_in s k hk, b]; rfl

theorem step_end (s : ByteArray) (k : Nat) (h1 : ¬ k + 1 < s.size) : stepN s k = 1 := by
  unfold stepN escU
  rw [decide_eq_false h1]; simp

theorem step_92 (s : ByteArray) (k : Nat) (hk : k < s.size) (b : (s[k] == 92) = true) (h1 : k + 1 < s.size) (q : Bool) (hq : plainB (s[k + 1].toNat : Int) = q) : stepN s k = if q = true then 2 else 1 := by
  unfold stepN escU plainU
  rw [byteU_in s k hk, byteU_in s (k + 1) h1, b, decide_eq_true h1, hq]; simp

set_option maxRecDepth 100000 in
theorem size_calls (s : ByteArray) (k : Nat) (hk : k < s.size) (w : World) (hs : s.size ≤ 1000000) :
    Calls Tryd.prog 32 #[.string s, .int .i64 k] w fun e w' => e = .returned (.int .i64 (stepN s k : Nat)) ∧ Below w.heap.size w w' := by
  have j0 : (0 : Int) ≤ (k : Int) := by omega
  have j1 : (k : Int) < (s.size : Int) := by omega
  have ub : ((s[k].toNat : Int) == 92) = (s[k] == 92) := u8_eq s[k] 92
  cases b : (s[k] == 92) with
  | false =>
    have hr : Hid (stepN s k = 1) := step_no92 s k hk b
    rw [b] at ub
    go_enter Tryd.func32, Tryd.ntmps32
    go_wp2_with fail
    go_ret
    exact ⟨ret_int (by rw [hr.out]; rfl), Below.refl _ _⟩
  | true =>
    rw [b] at ub
    by_cases h1 : k + 1 < s.size
    · have hr := Lib.hid (step_92 s k hk b h1)
      have j2 : (k : Int) + 1 < (s.size : Int) := by omega
      have hp := fun w => Plain_calls (s[k + 1].toNat : Int) (by omega) (by have := s[k + 1].toNat_lt; omega) w
      go_enter Tryd.func32, Tryd.ntmps32
      go_wp2_with fail
      refine (hp _).mono ?_
      rintro e w1 ⟨rfl, hb⟩
      cases q : plainB (s[k + 1].toNat : Int) with
      | true =>
        go_wp2_with fail
        go_ret
        exact ⟨ret_int (by rw [hr.out _ q]; rfl), hb⟩
      | false =>
        go_wp2_with fail
        go_ret
        exact ⟨ret_int (by rw [hr.out _ q]; rfl), hb⟩
    · have hr : Hid (stepN s k = 1) := step_end s k h1
      have j2 : ¬ (k : Int) + 1 < (s.size : Int) := by omega
      go_enter Tryd.func32, Tryd.ntmps32
      go_wp2_with fail
      go_ret
      exact ⟨ret_int (by rw [hr.out]; rfl), Below.refl _ _⟩

def upI (s : ByteArray) (p : UInt8 → Bool) (k : Nat) : Int := if upF s p k < s.size then (upF s p k : Nat) else -1

set_option maxRecDepth 100000 in
theorem upTo_calls (s set : ByteArray) (p : UInt8 → Bool) (hp : ∀ c, set.data.toList.contains c = p c) (k : Nat) (hk : k ≤ s.size) (w : World) (hs : s.size ≤ 1000000) :
    Calls Tryd.prog 15 #[.string s, .int .i64 k, .string set] w fun e w' => e = .returned (.int .i64 (upI s p k)) ∧ Below w.heap.size w w' := by
  have HP := Lib.hid hp
  clear hp
  go_enter Tryd.func15, Tryd.ntmps15
  go_wp2_with fail
  go_loopw [1] (fun i wr => ∃ j : Nat, j ≤ s.size ∧ i = .int .i64 j ∧ Hid (upF s p k = upF s p j) ∧ Below w.heap.size w wr) (fun i _ => s.size - (RowKit.intOf i).toNat)
  case atStart => exact ⟨k, hk, rfl, rfl, Below.refl _ _⟩
  case round =>
    obtain ⟨j, hj, rfl, he, hB⟩ := hrel
    by_cases hlt : j < s.size
    · have j0 : (0 : Int) ≤ (j : Int) := by omega
      have j1 : (j : Int) < (s.size : Int) := by omega
      have hi := idx_set set.data.toList s[j]
      rw [HP.out] at hi
      have hc := fun w => Tryd.strings_IndexByte set (s[j].toNat : Int) w
      generalize Lib.indexByte set.data.toList ((s[j].toNat : Int).toNat.toUInt8) = q at *
      cases hpj : p s[j] with
      | true =>
        have hr : Hid (upI s p k = (j : Int)) := by
          show _ = _
          unfold upI
          rw [he.out, upF_yes s p j hlt (by rw [byteU_in s j hlt]; exact hpj), if_pos hlt]
        rw [hpj] at hi
        go_wp2_with fail
        refine (hc _).mono ?_
        rintro e w1 ⟨rfl, rfl⟩
        go_wp2_with fail
        go_ret
        exact ⟨ret_int (by rw [hr.out]), hB⟩
      | false =>
        have hr : Hid (upF s p k = upF s p (j + stepN s j)) := by
          show _ = _
          rw [he.out, upF_no s p j hlt (by rw [byteU_in s j hlt]; exact hpj)]
        rw [hpj] at hi
        have h1 := step_pos s j
        have h2 := step_le s j hlt
        have hz := fun w => size_calls s j hlt w hs
        generalize stepN s j = d at *
        go_wp2_with fail
        refine (hc _).mono ?_
        rintro e w1 ⟨rfl, rfl⟩
        go_wp2_with fail
        refine (hz _).mono ?_
        rintro e w1 ⟨rfl, hb⟩
        clear hz hc
        go_wp2_with fail
        go_round
        case measure => simp [RowKit.intOf] <;> omega
        case rel => exact ⟨j + d, by omega, by go_num, hr, hB.trans (hb.mono hB.size)⟩
    · have hr : Hid (upI s p k = -1) := by
        show _ = _
        unfold upI
        rw [he.out, upF_end s p j (by omega), if_neg hlt]
      go_wp2_with fail
      go_ret
      exact ⟨ret_int (by rw [hr.out]), hB⟩

def fromF (s : ByteArray) (a : Int) : ByteArray := if 0 ≤ a ∧ a < s.size then s.extract a.toNat s.size else ⟨#[]⟩

set_option maxRecDepth 100000 in
theorem from_calls (s : ByteArray) (a : Int) (w : World) (hs : s.size ≤ 1000000) :
    Calls Tryd.prog 13 #[.string s, .int .i64 a] w fun e w' => e = .returned (.string (fromF s a)) ∧ w' = w := by
  by_cases h0 : a < 0
  · have hr : Hid (fromF s a = ⟨#[]⟩) := by show _ = _; unfold fromF; rw [if_neg (by omega)]
    go_enter Tryd.func13, Tryd.ntmps13
    go_wp2_with fail
    go_ret
    exact ⟨ret_str (by rw [hr.out]), rfl⟩
  · by_cases h1 : a < s.size
    · obtain ⟨n, rfl⟩ : ∃ n : Nat, a = n := ⟨a.toNat, by omega⟩
      have hr : Hid (fromF s n = s.extract n s.size) := by show _ = _; unfold fromF; rw [if_pos ⟨by omega, h1⟩]; rfl
      have h2 : (n : Int) ≤ s.size := by omega
      have hn : n ≤ s.size := by omega
      go_enter Tryd.func13, Tryd.ntmps13
      go_wp2_with fail
      go_ret
      exact ⟨ret_str (by rw [hr.out]), rfl⟩
    · have hr : Hid (fromF s a = ⟨#[]⟩) := by show _ = _; unfold fromF; rw [if_neg (by omega)]
      have h2 : (s.size : Int) ≤ a := by omega
      go_enter Tryd.func13, Tryd.ntmps13
      go_wp2_with fail
      go_ret
      exact ⟨ret_str (by rw [hr.out]), rfl⟩

end Go.Proofs.YtcpbljhogenjoaaDoor
