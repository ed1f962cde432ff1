/- Walks: the references Rune and Before. -/
import Derived.Test.YtcpbljhogenjoaaGreatDoorRune
import Derived.Handy
namespace Go.Proofs.YtcpbljhogenjoaaGreatDoor
set_option linter.unusedVariables false
set_option linter.unusedSimpArgs false
open Go Go.RowKit Go.Lib

theorem get_getElem {s : ByteArray} {i : Nat} (h : i < s.size) : (s.get! i).toNat = s[i].toNat := by rw [get!_of_lt h]

theorem refRune_out (s : ByteArray) (a : Int) (w : World) (hs : s.size ≤ 1000000) (h : ¬ (0 ≤ a ∧ a < s.size)) :
    Calls Tryz.prog 54 #[.string s, .int .i64 a] w fun e w' => e = .returned (.tuple #[.int .i64 (runeF s a).1, .int .i64 (runeF s a).2]) ∧ Below w.heap.size w w' := by
  have hr : Hid (runeF s a = (0, 0)) := by show _ = _; unfold runeF; rw [if_neg h]
  have hc : decide (a < 0) = true ∨ decide (a < 0) = false ∧ decide ((s.size : Int) ≤ a) = true := by
    by_cases h0 : a < 0
    · exact Or.inl (by simpa using h0)
    · exact Or.inr ⟨by simpa using h0, by simp; omega⟩
  clear h
  rcases hc with hc | ⟨hc, hc'⟩
  all_goals
    go_enter Tryz.func54, Tryz.ntmps54
    go_wp2_with fail
    go_ret2
    exact ⟨by rw [hr.out]; rfl, Below.refl _ _⟩

theorem refRune_one (s : ByteArray) (n : Nat) (w : World) (hs : s.size ≤ 1000000) (h : n < s.size) (c1 : (s[n].toNat : Int) < 128) :
    Calls Tryz.prog 54 #[.string s, .int .i64 n] w fun e w' => e = .returned (.tuple #[.int .i64 (runeF s n).1, .int .i64 (runeF s n).2]) ∧ Below w.heap.size w w' := by
  have hr : Hid (runeF s n = ((s[n].toNat : Int), 1)) := by
    show _ = _; unfold runeF; rw [if_pos (by omega), Int.toNat_natCast, decode_ascii s n h (by omega)]; rfl
  have c0 : decide ((n : Int) < 0) = false := by simp
  have c2 : decide (s.size ≤ n) = false := by simp; omega
  go_enter Tryz.func54, Tryz.ntmps54
  go_wp2_with fail
  go_ret2
  exact ⟨by rw [hr.out]; rfl, Below.refl _ _⟩

set_option maxHeartbeats 1000000 in
theorem runeF_of (s : ByteArray) (n : Nat) (h : n < s.size) (X Y : Int) (b0 b1 b2 b3 : Nat) (g0 : (s.get! n).toNat = b0) (g1 : (s.get! (n + 1)).toNat = b1) (g2 : (s.get! (n + 2)).toNat = b2) (g3 : (s.get! (n + 3)).toNat = b3)
    (hX : (((Lib.decodeN (s.size - n) b0 b1 b2 b3).1 : Nat) : Int) = X) (hY : (((Lib.decodeN (s.size - n) b0 b1 b2 b3).2 : Nat) : Int) = Y) : runeF s n = (X, Y) := by
  unfold runeF
  rw [if_pos (by omega), Int.toNat_natCast, Lib.decode_at, g0, g1, g2, g3, hX, hY]

theorem ret_pair {a b : Int} {p : Int × Int} (h : p = (a, b)) : Ending.returned (.tuple #[.int .i64 a, .int .i64 b]) = .returned (.tuple #[.int .i64 p.1, .int .i64 p.2]) := by rw [h]

theorem dec2_short (m b0 b1 b2 b3 : Nat) (h : m < 2) (c1 : 192 ≤ b0) (c2 : b0 < 224) : Lib.decodeN m b0 b1 b2 b3 = (65533, 1) := by
  unfold Lib.decodeN
  rw [if_neg (by omega), if_neg (by omega), if_neg (by omega), if_neg (by omega)]

theorem dec2_bad1 (m b0 b1 b2 b3 : Nat) (c1 : 192 ≤ b0) (c2 : b0 < 224) (hb : (b1 < 128 ∨ 192 ≤ b1)) : Lib.decodeN m b0 b1 b2 b3 = (65533, 1) := by
  unfold Lib.decodeN
  rw [if_neg (by omega), if_neg (by omega), if_neg (by omega), if_neg (by omega)]

theorem dec2_low (m b0 b1 b2 b3 : Nat) (h : 2 ≤ m) (c1 : 192 ≤ b0) (c2 : b0 < 224) (hb : 128 ≤ b1 ∧ b1 < 192) (hv : (((b0 : Int) - 192) * 64 + b1 - 128) < 128 ∨ 1114111 < (((b0 : Int) - 192) * 64 + b1 - 128) ∨ 55296 ≤ (((b0 : Int) - 192) * 64 + b1 - 128) ∧ (((b0 : Int) - 192) * 64 + b1 - 128) < 57344) : Lib.decodeN m b0 b1 b2 b3 = (65533, 1) := by
  unfold Lib.decodeN
  rw [if_neg (by omega), if_pos (by omega), if_neg (by omega)]

theorem dec2_ok (m b0 b1 b2 b3 : Nat) (h : 2 ≤ m) (c1 : 192 ≤ b0) (c2 : b0 < 224) (hb : 128 ≤ b1 ∧ b1 < 192) (hv : 128 ≤ (((b0 : Int) - 192) * 64 + b1 - 128) ∧ (((b0 : Int) - 192) * 64 + b1 - 128) ≤ 1114111 ∧ ((((b0 : Int) - 192) * 64 + b1 - 128) < 55296 ∨ 57344 ≤ (((b0 : Int) - 192) * 64 + b1 - 128))) : ((Lib.decodeN m b0 b1 b2 b3).1 : Int) = (((b0 : Int) - 192) * 64 + b1 - 128) ∧ (Lib.decodeN m b0 b1 b2 b3).2 = 2 := by
  unfold Lib.decodeN
  rw [if_neg (by omega), if_pos (by omega), if_pos (by omega)]
  exact ⟨by simp only []; omega, rfl⟩

theorem dec3_short (m b0 b1 b2 b3 : Nat) (h : m < 3) (c1 : 224 ≤ b0) (c2 : b0 < 240) : Lib.decodeN m b0 b1 b2 b3 = (65533, 1) := by
  unfold Lib.decodeN
  rw [if_neg (by omega), if_neg (by omega), if_neg (by omega), if_neg (by omega)]

theorem dec3_bad1 (m b0 b1 b2 b3 : Nat) (c1 : 224 ≤ b0) (c2 : b0 < 240) (hb : (b1 < 128 ∨ 192 ≤ b1)) : Lib.decodeN m b0 b1 b2 b3 = (65533, 1) := by
  unfold Lib.decodeN
  rw [if_neg (by omega), if_neg (by omega), if_neg (by omega), if_neg (by omega)]

theorem dec3_bad2 (m b0 b1 b2 b3 : Nat) (c1 : 224 ≤ b0) (c2 : b0 < 240) (hb : 128 ≤ b1 ∧ b1 < 192 ∧ (b2 < 128 ∨ 192 ≤ b2)) : Lib.decodeN m b0 b1 b2 b3 = (65533, 1) := by
  unfold Lib.decodeN
  rw [if_neg (by omega), if_neg (by omega), if_neg (by omega), if_neg (by omega)]

theorem dec3_low (m b0 b1 b2 b3 : Nat) (h : 3 ≤ m) (c1 : 224 ≤ b0) (c2 : b0 < 240) (hb : 128 ≤ b1 ∧ b1 < 192 ∧ 128 ≤ b2 ∧ b2 < 192) (hv : ((((b0 : Int) - 224) * 64 + b1 - 128) * 64 + b2 - 128) < 2048 ∨ 1114111 < ((((b0 : Int) - 224) * 64 + b1 - 128) * 64 + b2 - 128) ∨ 55296 ≤ ((((b0 : Int) - 224) * 64 + b1 - 128) * 64 + b2 - 128) ∧ ((((b0 : Int) - 224) * 64 + b1 - 128) * 64 + b2 - 128) < 57344) : Lib.decodeN m b0 b1 b2 b3 = (65533, 1) := by
  unfold Lib.decodeN
  rw [if_neg (by omega), if_neg (by omega), if_pos (by omega), if_neg (by omega)]

theorem dec3_ok (m b0 b1 b2 b3 : Nat) (h : 3 ≤ m) (c1 : 224 ≤ b0) (c2 : b0 < 240) (hb : 128 ≤ b1 ∧ b1 < 192 ∧ 128 ≤ b2 ∧ b2 < 192) (hv : 2048 ≤ ((((b0 : Int) - 224) * 64 + b1 - 128) * 64 + b2 - 128) ∧ ((((b0 : Int) - 224) * 64 + b1 - 128) * 64 + b2 - 128) ≤ 1114111 ∧ (((((b0 : Int) - 224) * 64 + b1 - 128) * 64 + b2 - 128) < 55296 ∨ 57344 ≤ ((((b0 : Int) - 224) * 64 + b1 - 128) * 64 + b2 - 128))) : ((Lib.decodeN m b0 b1 b2 b3).1 : Int) = ((((b0 : Int) - 224) * 64 + b1 - 128) * 64 + b2 - 128) ∧ (Lib.decodeN m b0 b1 b2 b3).2 = 3 := by
  unfold Lib.decodeN
  rw [if_neg (by omega), if_neg (by omega), if_pos (by omega), if_pos (by omega)]
  exact ⟨by simp only []; omega, rfl⟩

theorem dec4_short (m b0 b1 b2 b3 : Nat) (h : m < 4) (c1 : 240 ≤ b0) (c2 : b0 < 248) : Lib.decodeN m b0 b1 b2 b3 = (65533, 1) := by
  unfold Lib.decodeN
  rw [if_neg (by omega), if_neg (by omega), if_neg (by omega), if_neg (by omega)]

theorem dec4_bad1 (m b0 b1 b2 b3 : Nat) (c1 : 240 ≤ b0) (c2 : b0 < 248) (hb : (b1 < 128 ∨ 192 ≤ b1)) : Lib.decodeN m b0 b1 b2 b3 = (65533, 1) := by
  unfold Lib.decodeN
  rw [if_neg (by omega), if_neg (by omega), if_neg (by omega), if_neg (by omega)]

theorem dec4_bad2 (m b0 b1 b2 b3 : Nat) (c1 : 240 ≤ b0) (c2 : b0 < 248) (hb : 128 ≤ b1 ∧ b1 < 192 ∧ (b2 < 128 ∨ 192 ≤ b2)) : Lib.decodeN m b0 b1 b2 b3 = (65533, 1) := by
  unfold Lib.decodeN
  rw [if_neg (by omega), if_neg (by omega), if_neg (by omega), if_neg (by omega)]

theorem dec4_bad3 (m b0 b1 b2 b3 : Nat) (c1 : 240 ≤ b0) (c2 : b0 < 248) (hb : 128 ≤ b1 ∧ b1 < 192 ∧ 128 ≤ b2 ∧ b2 < 192 ∧ (b3 < 128 ∨ 192 ≤ b3)) : Lib.decodeN m b0 b1 b2 b3 = (65533, 1) := by
  unfold Lib.decodeN
  rw [if_neg (by omega), if_neg (by omega), if_neg (by omega), if_neg (by omega)]

theorem dec4_low (m b0 b1 b2 b3 : Nat) (h : 4 ≤ m) (c1 : 240 ≤ b0) (c2 : b0 < 248) (hb : 128 ≤ b1 ∧ b1 < 192 ∧ 128 ≤ b2 ∧ b2 < 192 ∧ 128 ≤ b3 ∧ b3 < 192) (hv : (((((b0 : Int) - 240) * 64 + b1 - 128) * 64 + b2 - 128) * 64 + b3 - 128) < 65536 ∨ 1114111 < (((((b0 : Int) - 240) * 64 + b1 - 128) * 64 + b2 - 128) * 64 + b3 - 128) ∨ 55296 ≤ (((((b0 : Int) - 240) * 64 + b1 - 128) * 64 + b2 - 128) * 64 + b3 - 128) ∧ (((((b0 : Int) - 240) * 64 + b1 - 128) * 64 + b2 - 128) * 64 + b3 - 128) < 57344) : Lib.decodeN m b0 b1 b2 b3 = (65533, 1) := by
  unfold Lib.decodeN
  rw [if_neg (by omega), if_neg (by omega), if_neg (by omega), if_pos (by omega), if_neg (by omega)]

theorem dec4_ok (m b0 b1 b2 b3 : Nat) (h : 4 ≤ m) (c1 : 240 ≤ b0) (c2 : b0 < 248) (hb : 128 ≤ b1 ∧ b1 < 192 ∧ 128 ≤ b2 ∧ b2 < 192 ∧ 128 ≤ b3 ∧ b3 < 192) (hv : 65536 ≤ (((((b0 : Int) - 240) * 64 + b1 - 128) * 64 + b2 - 128) * 64 + b3 - 128) ∧ (((((b0 : Int) - 240) * 64 + b1 - 128) * 64 + b2 - 128) * 64 + b3 - 128) ≤ 1114111 ∧ ((((((b0 : Int) - 240) * 64 + b1 - 128) * 64 + b2 - 128) * 64 + b3 - 128) < 55296 ∨ 57344 ≤ (((((b0 : Int) - 240) * 64 + b1 - 128) * 64 + b2 - 128) * 64 + b3 - 128))) : ((Lib.decodeN m b0 b1 b2 b3).1 : Int) = (((((b0 : Int) - 240) * 64 + b1 - 128) * 64 + b2 - 128) * 64 + b3 - 128) ∧ (Lib.decodeN m b0 b1 b2 b3).2 = 4 := by
  unfold Lib.decodeN
  rw [if_neg (by omega), if_neg (by omega), if_neg (by omega), if_pos (by omega), if_pos (by omega)]
  exact ⟨by simp only []; omega, rfl⟩

theorem dec0 (m b0 b1 b2 b3 : Nat) (h : 128 ≤ b0 ∧ b0 < 192 ∨ 248 ≤ b0) (h1 : b0 < 256) : Lib.decodeN m b0 b1 b2 b3 = (65533, 1) := by
  unfold Lib.decodeN
  rw [if_neg (by omega), if_neg (by omega), if_neg (by omega), if_neg (by omega)]

theorem runeF_dec (s : ByteArray) (n : Nat) (h : n < s.size) (b0 b1 b2 b3 : Nat) (g0 : (s.get! n).toNat = b0) (g1 : (s.get! (n + 1)).toNat = b1) (g2 : (s.get! (n + 2)).toNat = b2) (g3 : (s.get! (n + 3)).toNat = b3) :
    runeF s n = ((((Lib.decodeN (s.size - n) b0 b1 b2 b3).1 : Nat) : Int), (((Lib.decodeN (s.size - n) b0 b1 b2 b3).2 : Nat) : Int)) := by
  unfold runeF
  rw [if_pos (by omega), Int.toNat_natCast, Lib.decode_at, g0, g1, g2, g3]

theorem least_at2 (w : World) : (Instr.index 82 (.agg #[.int .i64 0, .int .i64 0, .int .i64 128, .int .i64 2048, .int .i64 65536]) (.int .i64 2)).run Tryz.prog w = .ok (.int .i64 128) w := by kernel_rfl

theorem least_at3 (w : World) : (Instr.index 82 (.agg #[.int .i64 0, .int .i64 0, .int .i64 128, .int .i64 2048, .int .i64 65536]) (.int .i64 3)).run Tryz.prog w = .ok (.int .i64 2048) w := by kernel_rfl

theorem least_at4 (w : World) : (Instr.index 82 (.agg #[.int .i64 0, .int .i64 0, .int .i64 128, .int .i64 2048, .int .i64 65536]) (.int .i64 4)).run Tryz.prog w = .ok (.int .i64 65536) w := by kernel_rfl

set_option maxRecDepth 100000 in
set_option maxHeartbeats 1000000 in
theorem refRune_zero (s : ByteArray) (n : Nat) (w : World) (hs : s.size ≤ 1000000) (h : n < s.size) (c1 : 128 ≤ (s[n].toNat : Int) ∧ (s[n].toNat : Int) < 192 ∨ 248 ≤ (s[n].toNat : Int)) :
    Calls Tryz.prog 54 #[.string s, .int .i64 n] w fun e w' => e = .returned (.tuple #[.int .i64 (runeF s n).1, .int .i64 (runeF s n).2]) ∧ Below w.heap.size w w' := by
  have hr : Hid (runeF s n = (65533, 1)) := by
    show _ = _
    rw [runeF_dec s n h _ _ _ _ (get_getElem h) rfl rfl rfl, dec0 _ _ _ _ _ (by omega) (by have := s[n].toNat_lt; omega)]; rfl
  have u0 : (s[n].toNat : Int) ≤ 255 := by have := s[n].toNat_lt; omega
  rcases c1 with c1 | c1
  all_goals
    have c0 : decide ((n : Int) < 0) = false := by simp
    have c2 : decide (s.size ≤ n) = false := by simp; omega
    go_enter Tryz.func54, Tryz.ntmps54
    go_wp2_with fail
    all_goals
      go_ret2
      exact ⟨by rw [hr.out]; rfl, by go_grown⟩

set_option maxRecDepth 100000 in
set_option maxHeartbeats 1000000 in
theorem refRune2_short (s : ByteArray) (n : Nat) (w : World) (hs : s.size ≤ 1000000) (h : n < s.size) (c1 : 192 ≤ (s[n].toNat : Int)) (c3 : (s[n].toNat : Int) < 224) (ht : (s.size : Int) - n < 2) :
    Calls Tryz.prog 54 #[.string s, .int .i64 n] w fun e w' => e = .returned (.tuple #[.int .i64 (runeF s n).1, .int .i64 (runeF s n).2]) ∧ Below w.heap.size w w' := by
  have hr : Hid (runeF s n = (65533, 1)) := by
    show _ = _
    rw [runeF_dec s n h _ _ _ _ (get_getElem h) rfl rfl rfl, dec2_short _ _ _ _ _ (by omega) (by omega) (by omega)]; rfl
  have c0 : decide ((n : Int) < 0) = false := by simp
  have c2 : decide (s.size ≤ n) = false := by simp; omega
  go_enter Tryz.func54, Tryz.ntmps54
  go_wp2_with fail
  all_goals
    go_ret2
    exact ⟨by rw [hr.out]; rfl, by go_grown⟩

set_option maxRecDepth 100000 in
set_option maxHeartbeats 1000000 in
theorem refRune2_bad1 (s : ByteArray) (n : Nat) (w : World) (hs : s.size ≤ 1000000) (h : n + 1 < s.size) (c1 : 192 ≤ (s[n].toNat : Int)) (c3 : (s[n].toNat : Int) < 224)  (b : (s[n + 1].toNat : Int) < 128 ∨ 192 ≤ (s[n + 1].toNat : Int)) :
    Calls Tryz.prog 54 #[.string s, .int .i64 n] w fun e w' => e = .returned (.tuple #[.int .i64 (runeF s n).1, .int .i64 (runeF s n).2]) ∧ Below w.heap.size w w' := by
  have hr : Hid (runeF s n = (65533, 1)) := by
    show _ = _
    rw [runeF_dec s n (by omega) _ _ _ _ (get_getElem (by omega)) (get_getElem (by omega)) rfl rfl, dec2_bad1 _ _ _ _ _ (by omega) (by omega) (by omega)]; rfl
  have i1 : (0 : Int) ≤ (n : Int) + 1 := by omega
  have j1 : (n : Int) + 1 < s.size := by omega
  have u1 : (s[n + 1].toNat : Int) ≤ 255 := by have := s[n + 1].toNat_lt; omega
  rcases b with b | b
  all_goals
    have c0 : decide ((n : Int) < 0) = false := by simp
    have c2 : decide (s.size ≤ n) = false := by simp; omega
    go_enter Tryz.func54, Tryz.ntmps54
    go_wp2_with fail
    all_goals
      refine wp_loop_rounds 1 ?_
      rw [rounds_succ]
      go_wp2_with fail
      go_ret2
      exact ⟨by rw [hr.out]; rfl, by go_grown⟩

set_option maxRecDepth 100000 in
set_option maxHeartbeats 1000000 in
theorem refRune2_low (s : ByteArray) (n : Nat) (w : World) (hs : s.size ≤ 1000000) (h : n + 1 < s.size) (c1 : 192 ≤ (s[n].toNat : Int)) (c3 : (s[n].toNat : Int) < 224) (a1 : 128 ≤ (s[n + 1].toNat : Int)) (d1 : (s[n + 1].toNat : Int) < 192) (hv : (((s[n].toNat : Int) - 192) * 64 + (s[n + 1].toNat : Int) - 128) < 128 ∨ 1114111 < (((s[n].toNat : Int) - 192) * 64 + (s[n + 1].toNat : Int) - 128) ∨ 55296 ≤ (((s[n].toNat : Int) - 192) * 64 + (s[n + 1].toNat : Int) - 128) ∧ (((s[n].toNat : Int) - 192) * 64 + (s[n + 1].toNat : Int) - 128) < 57344) :
    Calls Tryz.prog 54 #[.string s, .int .i64 n] w fun e w' => e = .returned (.tuple #[.int .i64 (runeF s n).1, .int .i64 (runeF s n).2]) ∧ Below w.heap.size w w' := by
  have hr : Hid (runeF s n = (65533, 1)) := by
    show _ = _
    rw [runeF_dec s n (by omega) _ _ _ _ (get_getElem (by omega)) (get_getElem (by omega)) rfl rfl, dec2_low _ _ _ _ _ (by omega) (by omega) (by omega) (by omega) (by omega)]; rfl
  have i1 : (0 : Int) ≤ (n : Int) + 1 := by omega
  have j1 : (n : Int) + 1 < s.size := by omega
  have u1 : (s[n + 1].toNat : Int) ≤ 255 := by have := s[n + 1].toNat_lt; omega
  rcases hv with hv | hv | ⟨hv, hv'⟩
  all_goals
    have c0 : decide ((n : Int) < 0) = false := by simp
    have c2 : decide (s.size ≤ n) = false := by simp; omega
    go_enter Tryz.func54, Tryz.ntmps54
    go_wp2_with fail
    all_goals
      refine wp_loop_rounds 2 ?_
      rw [rounds_succ]
      go_wp2_with fail
      rw [rounds_succ]
      go_wp2_with fail
      go_ret2
      exact ⟨by rw [hr.out]; rfl, by go_grown⟩

set_option maxRecDepth 100000 in
set_option maxHeartbeats 1000000 in
theorem refRune2_ok (s : ByteArray) (n : Nat) (w : World) (hs : s.size ≤ 1000000) (h : n + 1 < s.size) (c1 : 192 ≤ (s[n].toNat : Int)) (c3 : (s[n].toNat : Int) < 224) (a1 : 128 ≤ (s[n + 1].toNat : Int)) (d1 : (s[n + 1].toNat : Int) < 192) (v1 : 128 ≤ (((s[n].toNat : Int) - 192) * 64 + (s[n + 1].toNat : Int) - 128)) (v2 : (((s[n].toNat : Int) - 192) * 64 + (s[n + 1].toNat : Int) - 128) ≤ 1114111) (v3 : (((s[n].toNat : Int) - 192) * 64 + (s[n + 1].toNat : Int) - 128) < 55296 ∨ 57344 ≤ (((s[n].toNat : Int) - 192) * 64 + (s[n + 1].toNat : Int) - 128)) :
    Calls Tryz.prog 54 #[.string s, .int .i64 n] w fun e w' => e = .returned (.tuple #[.int .i64 (runeF s n).1, .int .i64 (runeF s n).2]) ∧ Below w.heap.size w w' := by
  have hr : Hid (runeF s n = ((((s[n].toNat : Int) - 192) * 64 + (s[n + 1].toNat : Int) - 128), 2)) := by
    show _ = _
    have hd := dec2_ok (s.size - n) s[n].toNat s[n + 1].toNat (s.get! (n + 2)).toNat (s.get! (n + 3)).toNat (by omega) (by omega) (by omega) (by omega) (by omega)
    rw [runeF_dec s n (by omega) _ _ _ _ (get_getElem (by omega)) (get_getElem (by omega)) rfl rfl]
    exact Prod.ext (by simp only []; rw [hd.1]) (by simp only []; rw [hd.2]; rfl)
  have i1 : (0 : Int) ≤ (n : Int) + 1 := by omega
  have j1 : (n : Int) + 1 < s.size := by omega
  have u1 : (s[n + 1].toNat : Int) ≤ 255 := by have := s[n + 1].toNat_lt; omega
  rcases v3 with v3 | v3
  all_goals
    have c0 : decide ((n : Int) < 0) = false := by simp
    have c2 : decide (s.size ≤ n) = false := by simp; omega
    go_enter Tryz.func54, Tryz.ntmps54
    go_wp2_with fail
    all_goals
      refine wp_loop_rounds 2 ?_
      rw [rounds_succ]
      go_wp2_with fail
      rw [rounds_succ]
      go_wp2_with fail
      go_ret2
      exact ⟨by rw [hr.out]; rfl, by go_grown⟩

set_option maxRecDepth 100000 in
set_option maxHeartbeats 1000000 in
theorem refRune3_short (s : ByteArray) (n : Nat) (w : World) (hs : s.size ≤ 1000000) (h : n < s.size) (c1 : 224 ≤ (s[n].toNat : Int)) (c3 : (s[n].toNat : Int) < 240) (ht : (s.size : Int) - n < 3) :
    Calls Tryz.prog 54 #[.string s, .int .i64 n] w fun e w' => e = .returned (.tuple #[.int .i64 (runeF s n).1, .int .i64 (runeF s n).2]) ∧ Below w.heap.size w w' := by
  have hr : Hid (runeF s n = (65533, 1)) := by
    show _ = _
    rw [runeF_dec s n h _ _ _ _ (get_getElem h) rfl rfl rfl, dec3_short _ _ _ _ _ (by omega) (by omega) (by omega)]; rfl
  have c0 : decide ((n : Int) < 0) = false := by simp
  have c2 : decide (s.size ≤ n) = false := by simp; omega
  go_enter Tryz.func54, Tryz.ntmps54
  go_wp2_with fail
  all_goals
    go_ret2
    exact ⟨by rw [hr.out]; rfl, by go_grown⟩

set_option maxRecDepth 100000 in
set_option maxHeartbeats 1000000 in
theorem refRune3_bad1 (s : ByteArray) (n : Nat) (w : World) (hs : s.size ≤ 1000000) (h : n + 2 < s.size) (c1 : 224 ≤ (s[n].toNat : Int)) (c3 : (s[n].toNat : Int) < 240)  (b : (s[n + 1].toNat : Int) < 128 ∨ 192 ≤ (s[n + 1].toNat : Int)) :
    Calls Tryz.prog 54 #[.string s, .int .i64 n] w fun e w' => e = .returned (.tuple #[.int .i64 (runeF s n).1, .int .i64 (runeF s n).2]) ∧ Below w.heap.size w w' := by
  have hr : Hid (runeF s n = (65533, 1)) := by
    show _ = _
    rw [runeF_dec s n (by omega) _ _ _ _ (get_getElem (by omega)) (get_getElem (by omega)) (get_getElem (by omega)) rfl, dec3_bad1 _ _ _ _ _ (by omega) (by omega) (by omega)]; rfl
  have i1 : (0 : Int) ≤ (n : Int) + 1 := by omega
  have j1 : (n : Int) + 1 < s.size := by omega
  have u1 : (s[n + 1].toNat : Int) ≤ 255 := by have := s[n + 1].toNat_lt; omega
  have i2 : (0 : Int) ≤ (n : Int) + 2 := by omega
  have j2 : (n : Int) + 2 < s.size := by omega
  have u2 : (s[n + 2].toNat : Int) ≤ 255 := by have := s[n + 2].toNat_lt; omega
  rcases b with b | b
  all_goals
    have c0 : decide ((n : Int) < 0) = false := by simp
    have c2 : decide (s.size ≤ n) = false := by simp; omega
    go_enter Tryz.func54, Tryz.ntmps54
    go_wp2_with fail
    all_goals
      refine wp_loop_rounds 1 ?_
      rw [rounds_succ]
      go_wp2_with fail
      go_ret2
      exact ⟨by rw [hr.out]; rfl, by go_grown⟩

set_option maxRecDepth 100000 in
set_option maxHeartbeats 1000000 in
theorem refRune3_bad2 (s : ByteArray) (n : Nat) (w : World) (hs : s.size ≤ 1000000) (h : n + 2 < s.size) (c1 : 224 ≤ (s[n].toNat : Int)) (c3 : (s[n].toNat : Int) < 240) (a1 : 128 ≤ (s[n + 1].toNat : Int)) (d1 : (s[n + 1].toNat : Int) < 192) (b : (s[n + 2].toNat : Int) < 128 ∨ 192 ≤ (s[n + 2].toNat : Int)) :
    Calls Tryz.prog 54 #[.string s, .int .i64 n] w fun e w' => e = .returned (.tuple #[.int .i64 (runeF s n).1, .int .i64 (runeF s n).2]) ∧ Below w.heap.size w w' := by
  have hr : Hid (runeF s n = (65533, 1)) := by
    show _ = _
    rw [runeF_dec s n (by omega) _ _ _ _ (get_getElem (by omega)) (get_getElem (by omega)) (get_getElem (by omega)) rfl, dec3_bad2 _ _ _ _ _ (by omega) (by omega) (by omega)]; rfl
  have i1 : (0 : Int) ≤ (n : Int) + 1 := by omega
  have j1 : (n : Int) + 1 < s.size := by omega
  have u1 : (s[n + 1].toNat : Int) ≤ 255 := by have := s[n + 1].toNat_lt; omega
  have i2 : (0 : Int) ≤ (n : Int) + 2 := by omega
  have j2 : (n : Int) + 2 < s.size := by omega
  have u2 : (s[n + 2].toNat : Int) ≤ 255 := by have := s[n + 2].toNat_lt; omega
  rcases b with b | b
  all_goals
    have c0 : decide ((n : Int) < 0) = false := by simp
    have c2 : decide (s.size ≤ n) = false := by simp; omega
    go_enter Tryz.func54, Tryz.ntmps54
    go_wp2_with fail
    all_goals
      refine wp_loop_rounds 2 ?_
      rw [rounds_succ]
      go_wp2_with fail
      rw [rounds_succ]
      go_wp2_with fail
      go_ret2
      exact ⟨by rw [hr.out]; rfl, by go_grown⟩

set_option maxRecDepth 100000 in
set_option maxHeartbeats 1000000 in
theorem refRune3_low (s : ByteArray) (n : Nat) (w : World) (hs : s.size ≤ 1000000) (h : n + 2 < s.size) (c1 : 224 ≤ (s[n].toNat : Int)) (c3 : (s[n].toNat : Int) < 240) (a1 : 128 ≤ (s[n + 1].toNat : Int)) (d1 : (s[n + 1].toNat : Int) < 192) (a2 : 128 ≤ (s[n + 2].toNat : Int)) (d2 : (s[n + 2].toNat : Int) < 192) (hv : ((((s[n].toNat : Int) - 224) * 64 + (s[n + 1].toNat : Int) - 128) * 64 + (s[n + 2].toNat : Int) - 128) < 2048 ∨ 1114111 < ((((s[n].toNat : Int) - 224) * 64 + (s[n + 1].toNat : Int) - 128) * 64 + (s[n + 2].toNat : Int) - 128) ∨ 55296 ≤ ((((s[n].toNat : Int) - 224) * 64 + (s[n + 1].toNat : Int) - 128) * 64 + (s[n + 2].toNat : Int) - 128) ∧ ((((s[n].toNat : Int) - 224) * 64 + (s[n + 1].toNat : Int) - 128) * 64 + (s[n + 2].toNat : Int) - 128) < 57344) :
    Calls Tryz.prog 54 #[.string s, .int .i64 n] w fun e w' => e = .returned (.tuple #[.int .i64 (runeF s n).1, .int .i64 (runeF s n).2]) ∧ Below w.heap.size w w' := by
  have hr : Hid (runeF s n = (65533, 1)) := by
    show _ = _
    rw [runeF_dec s n (by omega) _ _ _ _ (get_getElem (by omega)) (get_getElem (by omega)) (get_getElem (by omega)) rfl, dec3_low _ _ _ _ _ (by omega) (by omega) (by omega) (by omega) (by omega)]; rfl
  have i1 : (0 : Int) ≤ (n : Int) + 1 := by omega
  have j1 : (n : Int) + 1 < s.size := by omega
  have u1 : (s[n + 1].toNat : Int) ≤ 255 := by have := s[n + 1].toNat_lt; omega
  have i2 : (0 : Int) ≤ (n : Int) + 2 := by omega
  have j2 : (n : Int) + 2 < s.size := by omega
  have u2 : (s[n + 2].toNat : Int) ≤ 255 := by have := s[n + 2].toNat_lt; omega
  rcases hv with hv | hv | ⟨hv, hv'⟩
  all_goals
    have c0 : decide ((n : Int) < 0) = false := by simp
    have c2 : decide (s.size ≤ n) = false := by simp; omega
    go_enter Tryz.func54, Tryz.ntmps54
    go_wp2_with fail
    all_goals
      refine wp_loop_rounds 3 ?_
      rw [rounds_succ]
      go_wp2_with fail
      rw [rounds_succ]
      go_wp2_with fail
      rw [rounds_succ]
      go_wp2_with fail
      go_ret2
      exact ⟨by rw [hr.out]; rfl, by go_grown⟩

set_option maxRecDepth 100000 in
set_option maxHeartbeats 1000000 in
theorem refRune3_ok (s : ByteArray) (n : Nat) (w : World) (hs : s.size ≤ 1000000) (h : n + 2 < s.size) (c1 : 224 ≤ (s[n].toNat : Int)) (c3 : (s[n].toNat : Int) < 240) (a1 : 128 ≤ (s[n + 1].toNat : Int)) (d1 : (s[n + 1].toNat : Int) < 192) (a2 : 128 ≤ (s[n + 2].toNat : Int)) (d2 : (s[n + 2].toNat : Int) < 192) (v1 : 2048 ≤ ((((s[n].toNat : Int) - 224) * 64 + (s[n + 1].toNat : Int) - 128) * 64 + (s[n + 2].toNat : Int) - 128)) (v2 : ((((s[n].toNat : Int) - 224) * 64 + (s[n + 1].toNat : Int) - 128) * 64 + (s[n + 2].toNat : Int) - 128) ≤ 1114111) (v3 : ((((s[n].toNat : Int) - 224) * 64 + (s[n + 1].toNat : Int) - 128) * 64 + (s[n + 2].toNat : Int) - 128) < 55296 ∨ 57344 ≤ ((((s[n].toNat : Int) - 224) * 64 + (s[n + 1].toNat : Int) - 128) * 64 + (s[n + 2].toNat : Int) - 128)) :
    Calls Tryz.prog 54 #[.string s, .int .i64 n] w fun e w' => e = .returned (.tuple #[.int .i64 (runeF s n).1, .int .i64 (runeF s n).2]) ∧ Below w.heap.size w w' := by
  have hr : Hid (runeF s n = (((((s[n].toNat : Int) - 224) * 64 + (s[n + 1].toNat : Int) - 128) * 64 + (s[n + 2].toNat : Int) - 128), 3)) := by
    show _ = _
    have hd := dec3_ok (s.size - n) s[n].toNat s[n + 1].toNat s[n + 2].toNat (s.get! (n + 3)).toNat (by omega) (by omega) (by omega) (by omega) (by omega)
    rw [runeF_dec s n (by omega) _ _ _ _ (get_getElem (by omega)) (get_getElem (by omega)) (get_getElem (by omega)) rfl]
    exact Prod.ext (by simp only []; rw [hd.1]) (by simp only []; rw [hd.2]; rfl)
  have i1 : (0 : Int) ≤ (n : Int) + 1 := by omega
  have j1 : (n : Int) + 1 < s.size := by omega
  have u1 : (s[n + 1].toNat : Int) ≤ 255 := by have := s[n + 1].toNat_lt; omega
  have i2 : (0 : Int) ≤ (n : Int) + 2 := by omega
  have j2 : (n : Int) + 2 < s.size := by omega
  have u2 : (s[n + 2].toNat : Int) ≤ 255 := by have := s[n + 2].toNat_lt; omega
  rcases v3 with v3 | v3
  all_goals
    have c0 : decide ((n : Int) < 0) = false := by simp
    have c2 : decide (s.size ≤ n) = false := by simp; omega
    go_enter Tryz.func54, Tryz.ntmps54
    go_wp2_with fail
    all_goals
      refine wp_loop_rounds 3 ?_
      rw [rounds_succ]
      go_wp2_with fail
      rw [rounds_succ]
      go_wp2_with fail
      rw [rounds_succ]
      go_wp2_with fail
      go_ret2
      exact ⟨by rw [hr.out]; rfl, by go_grown⟩

set_option maxRecDepth 100000 in
set_option maxHeartbeats 1000000 in
theorem refRune4_short (s : ByteArray) (n : Nat) (w : World) (hs : s.size ≤ 1000000) (h : n < s.size) (c1 : 240 ≤ (s[n].toNat : Int)) (c3 : (s[n].toNat : Int) < 248) (ht : (s.size : Int) - n < 4) :
    Calls Tryz.prog 54 #[.string s, .int .i64 n] w fun e w' => e = .returned (.tuple #[.int .i64 (runeF s n).1, .int .i64 (runeF s n).2]) ∧ Below w.heap.size w w' := by
  have hr : Hid (runeF s n = (65533, 1)) := by
    show _ = _
    rw [runeF_dec s n h _ _ _ _ (get_getElem h) rfl rfl rfl, dec4_short _ _ _ _ _ (by omega) (by omega) (by omega)]; rfl
  have c0 : decide ((n : Int) < 0) = false := by simp
  have c2 : decide (s.size ≤ n) = false := by simp; omega
  go_enter Tryz.func54, Tryz.ntmps54
  go_wp2_with fail
  all_goals
    go_ret2
    exact ⟨by rw [hr.out]; rfl, by go_grown⟩

set_option maxRecDepth 100000 in
set_option maxHeartbeats 1000000 in
theorem refRune4_bad1 (s : ByteArray) (n : Nat) (w : World) (hs : s.size ≤ 1000000) (h : n + 3 < s.size) (c1 : 240 ≤ (s[n].toNat : Int)) (c3 : (s[n].toNat : Int) < 248)  (b : (s[n + 1].toNat : Int) < 128 ∨ 192 ≤ (s[n + 1].toNat : Int)) :
    Calls Tryz.prog 54 #[.string s, .int .i64 n] w fun e w' => e = .returned (.tuple #[.int .i64 (runeF s n).1, .int .i64 (runeF s n).2]) ∧ Below w.heap.size w w' := by
  have hr : Hid (runeF s n = (65533, 1)) := by
    show _ = _
    rw [runeF_dec s n (by omega) _ _ _ _ (get_getElem (by omega)) (get_getElem (by omega)) (get_getElem (by omega)) (get_getElem (by omega)), dec4_bad1 _ _ _ _ _ (by omega) (by omega) (by omega)]; rfl
  have i1 : (0 : Int) ≤ (n : Int) + 1 := by omega
  have j1 : (n : Int) + 1 < s.size := by omega
  have u1 : (s[n + 1].toNat : Int) ≤ 255 := by have := s[n + 1].toNat_lt; omega
  have i2 : (0 : Int) ≤ (n : Int) + 2 := by omega
  have j2 : (n : Int) + 2 < s.size := by omega
  have u2 : (s[n + 2].toNat : Int) ≤ 255 := by have := s[n + 2].toNat_lt; omega
  have i3 : (0 : Int) ≤ (n : Int) + 3 := by omega
  have j3 : (n : Int) + 3 < s.size := by omega
  have u3 : (s[n + 3].toNat : Int) ≤ 255 := by have := s[n + 3].toNat_lt; omega
  rcases b with b | b
  all_goals
    have c0 : decide ((n : Int) < 0) = false := by simp
    have c2 : decide (s.size ≤ n) = false := by simp; omega
    go_enter Tryz.func54, Tryz.ntmps54
    go_wp2_with fail
    all_goals
      refine wp_loop_rounds 1 ?_
      rw [rounds_succ]
      go_wp2_with fail
      go_ret2
      exact ⟨by rw [hr.out]; rfl, by go_grown⟩

set_option maxRecDepth 100000 in
set_option maxHeartbeats 1000000 in
theorem refRune4_bad2 (s : ByteArray) (n : Nat) (w : World) (hs : s.size ≤ 1000000) (h : n + 3 < s.size) (c1 : 240 ≤ (s[n].toNat : Int)) (c3 : (s[n].toNat : Int) < 248) (a1 : 128 ≤ (s[n + 1].toNat : Int)) (d1 : (s[n + 1].toNat : Int) < 192) (b : (s[n + 2].toNat : Int) < 128 ∨ 192 ≤ (s[n + 2].toNat : Int)) :
    Calls Tryz.prog 54 #[.string s, .int .i64 n] w fun e w' => e = .returned (.tuple #[.int .i64 (runeF s n).1, .int .i64 (runeF s n).2]) ∧ Below w.heap.size w w' := by
  have hr : Hid (runeF s n = (65533, 1)) := by
    show _ = _
    rw [runeF_dec s n (by omega) _ _ _ _ (get_getElem (by omega)) (get_getElem (by omega)) (get_getElem (by omega)) (get_getElem (by omega)), dec4_bad2 _ _ _ _ _ (by omega) (by omega) (by omega)]; rfl
  have i1 : (0 : Int) ≤ (n : Int) + 1 := by omega
  have j1 : (n : Int) + 1 < s.size := by omega
  have u1 : (s[n + 1].toNat : Int) ≤ 255 := by have := s[n + 1].toNat_lt; omega
  have i2 : (0 : Int) ≤ (n : Int) + 2 := by omega
  have j2 : (n : Int) + 2 < s.size := by omega
  have u2 : (s[n + 2].toNat : Int) ≤ 255 := by have := s[n + 2].toNat_lt; omega
  have i3 : (0 : Int) ≤ (n : Int) + 3 := by omega
  have j3 : (n : Int) + 3 < s.size := by omega
  have u3 : (s[n + 3].toNat : Int) ≤ 255 := by have := s[n + 3].toNat_lt; omega
  rcases b with b | b
  all_goals
    have c0 : decide ((n : Int) < 0) = false := by simp
    have c2 : decide (s.size ≤ n) = false := by simp; omega
    go_enter Tryz.func54, Tryz.ntmps54
    go_wp2_with fail
    all_goals
      refine wp_loop_rounds 2 ?_
      rw [rounds_succ]
      go_wp2_with fail
      rw [rounds_succ]
      go_wp2_with fail
      go_ret2
      exact ⟨by rw [hr.out]; rfl, by go_grown⟩

set_option maxRecDepth 100000 in
set_option maxHeartbeats 1000000 in
theorem refRune4_bad3 (s : ByteArray) (n : Nat) (w : World) (hs : s.size ≤ 1000000) (h : n + 3 < s.size) (c1 : 240 ≤ (s[n].toNat : Int)) (c3 : (s[n].toNat : Int) < 248) (a1 : 128 ≤ (s[n + 1].toNat : Int)) (d1 : (s[n + 1].toNat : Int) < 192) (a2 : 128 ≤ (s[n + 2].toNat : Int)) (d2 : (s[n + 2].toNat : Int) < 192) (b : (s[n + 3].toNat : Int) < 128 ∨ 192 ≤ (s[n + 3].toNat : Int)) :
    Calls Tryz.prog 54 #[.string s, .int .i64 n] w fun e w' => e = .returned (.tuple #[.int .i64 (runeF s n).1, .int .i64 (runeF s n).2]) ∧ Below w.heap.size w w' := by
  have hr : Hid (runeF s n = (65533, 1)) := by
    show _ = _
    rw [runeF_dec s n (by omega) _ _ _ _ (get_getElem (by omega)) (get_getElem (by omega)) (get_getElem (by omega)) (get_getElem (by omega)), dec4_bad3 _ _ _ _ _ (by omega) (by omega) (by omega)]; rfl
  have i1 : (0 : Int) ≤ (n : Int) + 1 := by omega
  have j1 : (n : Int) + 1 < s.size := by omega
  have u1 : (s[n + 1].toNat : Int) ≤ 255 := by have := s[n + 1].toNat_lt; omega
  have i2 : (0 : Int) ≤ (n : Int) + 2 := by omega
  have j2 : (n : Int) + 2 < s.size := by omega
  have u2 : (s[n + 2].toNat : Int) ≤ 255 := by have := s[n + 2].toNat_lt; omega
  have i3 : (0 : Int) ≤ (n : Int) + 3 := by omega
  have j3 : (n : Int) + 3 < s.size := by omega
  have u3 : (s[n + 3].toNat : Int) ≤ 255 := by have := s[n + 3].toNat_lt; omega
  rcases b with b | b
  all_goals
    have c0 : decide ((n : Int) < 0) = false := by simp
    have c2 : decide (s.size ≤ n) = false := by simp; omega
    go_enter Tryz.func54, Tryz.ntmps54
    go_wp2_with fail
    all_goals
      refine wp_loop_rounds 3 ?_
      rw [rounds_succ]
      go_wp2_with fail
      rw [rounds_succ]
      go_wp2_with fail
      rw [rounds_succ]
      go_wp2_with fail
      go_ret2
      exact ⟨by rw [hr.out]; rfl, by go_grown⟩

set_option maxRecDepth 100000 in
set_option maxHeartbeats 1000000 in
theorem refRune4_low (s : ByteArray) (n : Nat) (w : World) (hs : s.size ≤ 1000000) (h : n + 3 < s.size) (c1 : 240 ≤ (s[n].toNat : Int)) (c3 : (s[n].toNat : Int) < 248) (a1 : 128 ≤ (s[n + 1].toNat : Int)) (d1 : (s[n + 1].toNat : Int) < 192) (a2 : 128 ≤ (s[n + 2].toNat : Int)) (d2 : (s[n + 2].toNat : Int) < 192) (a3 : 128 ≤ (s[n + 3].toNat : Int)) (d3 : (s[n + 3].toNat : Int) < 192) (hv : (((((s[n].toNat : Int) - 240) * 64 + (s[n + 1].toNat : Int) - 128) * 64 + (s[n + 2].toNat : Int) - 128) * 64 + (s[n + 3].toNat : Int) - 128) < 65536 ∨ 1114111 < (((((s[n].toNat : Int) - 240) * 64 + (s[n + 1].toNat : Int) - 128) * 64 + (s[n + 2].toNat : Int) - 128) * 64 + (s[n + 3].toNat : Int) - 128) ∨ 55296 ≤ (((((s[n].toNat : Int) - 240) * 64 + (s[n + 1].toNat : Int) - 128) * 64 + (s[n + 2].toNat : Int) - 128) * 64 + (s[n + 3].toNat : Int) - 128) ∧ (((((s[n].toNat : Int) - 240) * 64 + (s[n + 1].toNat : Int) - 128) * 64 + (s[n + 2].toNat : Int) - 128) * 64 + (s[n + 3].toNat : Int) - 128) < 57344) :
    Calls Tryz.prog 54 #[.string s, .int .i64 n] w fun e w' => e = .returned (.tuple #[.int .i64 (runeF s n).1, .int .i64 (runeF s n).2]) ∧ Below w.heap.size w w' := by
  have hr : Hid (runeF s n = (65533, 1)) := by
    show _ = _
    rw [runeF_dec s n (by omega) _ _ _ _ (get_getElem (by omega)) (get_getElem (by omega)) (get_getElem (by omega)) (get_getElem (by omega)), dec4_low _ _ _ _ _ (by omega) (by omega) (by omega) (by omega) (by omega)]; rfl
  have i1 : (0 : Int) ≤ (n : Int) + 1 := by omega
  have j1 : (n : Int) + 1 < s.size := by omega
  have u1 : (s[n + 1].toNat : Int) ≤ 255 := by have := s[n + 1].toNat_lt; omega
  have i2 : (0 : Int) ≤ (n : Int) + 2 := by omega
  have j2 : (n : Int) + 2 < s.size := by omega
  have u2 : (s[n + 2].toNat : Int) ≤ 255 := by have := s[n + 2].toNat_lt; omega
  have i3 : (0 : Int) ≤ (n : Int) + 3 := by omega
  have j3 : (n : Int) + 3 < s.size := by omega
  have u3 : (s[n + 3].toNat : Int) ≤ 255 := by have := s[n + 3].toNat_lt; omega
  rcases hv with hv | hv | ⟨hv, hv'⟩
  all_goals
    have c0 : decide ((n : Int) < 0) = false := by simp
    have c2 : decide (s.size ≤ n) = false := by simp; omega
    go_enter Tryz.func54, Tryz.ntmps54
    go_wp2_with fail
    all_goals
      refine wp_loop_rounds 4 ?_
      rw [rounds_succ]
      go_wp2_with fail
      rw [rounds_succ]
      go_wp2_with fail
      rw [rounds_succ]
      go_wp2_with fail
      rw [rounds_succ]
      go_wp2_with fail
      go_ret2
      exact ⟨by rw [hr.out]; rfl, by go_grown⟩

set_option maxRecDepth 100000 in
set_option maxHeartbeats 1000000 in
theorem refRune4_ok (s : ByteArray) (n : Nat) (w : World) (hs : s.size ≤ 1000000) (h : n + 3 < s.size) (c1 : 240 ≤ (s[n].toNat : Int)) (c3 : (s[n].toNat : Int) < 248) (a1 : 128 ≤ (s[n + 1].toNat : Int)) (d1 : (s[n + 1].toNat : Int) < 192) (a2 : 128 ≤ (s[n + 2].toNat : Int)) (d2 : (s[n + 2].toNat : Int) < 192) (a3 : 128 ≤ (s[n + 3].toNat : Int)) (d3 : (s[n + 3].toNat : Int) < 192) (v1 : 65536 ≤ (((((s[n].toNat : Int) - 240) * 64 + (s[n + 1].toNat : Int) - 128) * 64 + (s[n + 2].toNat : Int) - 128) * 64 + (s[n + 3].toNat : Int) - 128)) (v2 : (((((s[n].toNat : Int) - 240) * 64 + (s[n + 1].toNat : Int) - 128) * 64 + (s[n + 2].toNat : Int) - 128) * 64 + (s[n + 3].toNat : Int) - 128) ≤ 1114111) (v3 : (((((s[n].toNat : Int) - 240) * 64 + (s[n + 1].toNat : Int) - 128) * 64 + (s[n + 2].toNat : Int) - 128) * 64 + (s[n + 3].toNat : Int) - 128) < 55296 ∨ 57344 ≤ (((((s[n].toNat : Int) - 240) * 64 + (s[n + 1].toNat : Int) - 128) * 64 + (s[n + 2].toNat : Int) - 128) * 64 + (s[n + 3].toNat : Int) - 128)) :
    Calls Tryz.prog 54 #[.string s, .int .i64 n] w fun e w' => e = .returned (.tuple #[.int .i64 (runeF s n).1, .int .i64 (runeF s n).2]) ∧ Below w.heap.size w w' := by
  have hr : Hid (runeF s n = ((((((s[n].toNat : Int) - 240) * 64 + (s[n + 1].toNat : Int) - 128) * 64 + (s[n + 2].toNat : Int) - 128) * 64 + (s[n + 3].toNat : Int) - 128), 4)) := by
    show _ = _
    have hd := dec4_ok (s.size - n) s[n].toNat s[n + 1].toNat s[n + 2].toNat s[n + 3].toNat  (by omega) (by omega) (by omega) (by omega) (by omega)
    rw [runeF_dec s n (by omega) _ _ _ _ (get_getElem (by omega)) (get_getElem (by omega)) (get_getElem (by omega)) (get_getElem (by omega))]
    exact Prod.ext (by simp only []; rw [hd.1]) (by simp only []; rw [hd.2]; rfl)
  have i1 : (0 : Int) ≤ (n : Int) + 1 := by omega
  have j1 : (n : Int) + 1 < s.size := by omega
  have u1 : (s[n + 1].toNat : Int) ≤ 255 := by have := s[n + 1].toNat_lt; omega
  have i2 : (0 : Int) ≤ (n : Int) + 2 := by omega
  have j2 : (n : Int) + 2 < s.size := by omega
  have u2 : (s[n + 2].toNat : Int) ≤ 255 := by have := s[n + 2].toNat_lt; omega
  have i3 : (0 : Int) ≤ (n : Int) + 3 := by omega
  have j3 : (n : Int) + 3 < s.size := by omega
  have u3 : (s[n + 3].toNat : Int) ≤ 255 := by have := s[n + 3].toNat_lt; omega
  rcases v3 with v3 | v3
  all_goals
    have c0 : decide ((n : Int) < 0) = false := by simp
    have c2 : decide (s.size ≤ n) = false := by simp; omega
    go_enter Tryz.func54, Tryz.ntmps54
    go_wp2_with fail
    all_goals
      refine wp_loop_rounds 4 ?_
      rw [rounds_succ]
      go_wp2_with fail
      rw [rounds_succ]
      go_wp2_with fail
      rw [rounds_succ]
      go_wp2_with fail
      rw [rounds_succ]
      go_wp2_with fail
      go_ret2
      exact ⟨by rw [hr.out]; rfl, by go_grown⟩

theorem refRune_calls (s : ByteArray) (a : Int) (w : World) (hs : s.size ≤ 1000000) :
    Calls Tryz.prog 54 #[.string s, .int .i64 a] w fun e w' => e = .returned (.tuple #[.int .i64 (runeF s a).1, .int .i64 (runeF s a).2]) ∧ Below w.heap.size w w' := by
  by_cases h : 0 ≤ a ∧ a < s.size
  · obtain ⟨n, rfl⟩ := Int.eq_ofNat_of_zero_le h.1
    have hn : n < s.size := by omega
    have hb := s[n].toNat_lt
    by_cases h1 : (s[n].toNat : Int) < 128
    · exact refRune_one s n w hs hn h1
    by_cases h0 : (s[n].toNat : Int) < 192 ∨ 248 ≤ (s[n].toNat : Int)
    · exact refRune_zero s n w hs hn (by omega)
    by_cases k2 : (s[n].toNat : Int) < 224
    · by_cases ht : (s.size : Int) - n < 2
      · exact refRune2_short s n w hs hn (by omega) (by omega) ht
      by_cases b1 : (s[n + 1].toNat : Int) < 128 ∨ 192 ≤ (s[n + 1].toNat : Int)
      · exact refRune2_bad1 s n w hs (by omega) (by omega) (by omega)  b1
      by_cases hv : (((s[n].toNat : Int) - 192) * 64 + (s[n + 1].toNat : Int) - 128) < 128 ∨ 1114111 < (((s[n].toNat : Int) - 192) * 64 + (s[n + 1].toNat : Int) - 128) ∨ 55296 ≤ (((s[n].toNat : Int) - 192) * 64 + (s[n + 1].toNat : Int) - 128) ∧ (((s[n].toNat : Int) - 192) * 64 + (s[n + 1].toNat : Int) - 128) < 57344
      · exact refRune2_low s n w hs (by omega) (by omega) (by omega) (by omega) (by omega) hv
      exact refRune2_ok s n w hs (by omega) (by omega) (by omega) (by omega) (by omega) (by omega) (by omega) (by omega)
    by_cases k3 : (s[n].toNat : Int) < 240
    · by_cases ht : (s.size : Int) - n < 3
      · exact refRune3_short s n w hs hn (by omega) (by omega) ht
      by_cases b1 : (s[n + 1].toNat : Int) < 128 ∨ 192 ≤ (s[n + 1].toNat : Int)
      · exact refRune3_bad1 s n w hs (by omega) (by omega) (by omega)  b1
      by_cases b2 : (s[n + 2].toNat : Int) < 128 ∨ 192 ≤ (s[n + 2].toNat : Int)
      · exact refRune3_bad2 s n w hs (by omega) (by omega) (by omega) (by omega) (by omega) b2
      by_cases hv : ((((s[n].toNat : Int) - 224) * 64 + (s[n + 1].toNat : Int) - 128) * 64 + (s[n + 2].toNat : Int) - 128) < 2048 ∨ 1114111 < ((((s[n].toNat : Int) - 224) * 64 + (s[n + 1].toNat : Int) - 128) * 64 + (s[n + 2].toNat : Int) - 128) ∨ 55296 ≤ ((((s[n].toNat : Int) - 224) * 64 + (s[n + 1].toNat : Int) - 128) * 64 + (s[n + 2].toNat : Int) - 128) ∧ ((((s[n].toNat : Int) - 224) * 64 + (s[n + 1].toNat : Int) - 128) * 64 + (s[n + 2].toNat : Int) - 128) < 57344
      · exact refRune3_low s n w hs (by omega) (by omega) (by omega) (by omega) (by omega) (by omega) (by omega) hv
      exact refRune3_ok s n w hs (by omega) (by omega) (by omega) (by omega) (by omega) (by omega) (by omega) (by omega) (by omega) (by omega)
    by_cases ht : (s.size : Int) - n < 4
    · exact refRune4_short s n w hs hn (by omega) (by omega) ht
    by_cases b1 : (s[n + 1].toNat : Int) < 128 ∨ 192 ≤ (s[n + 1].toNat : Int)
    · exact refRune4_bad1 s n w hs (by omega) (by omega) (by omega)  b1
    by_cases b2 : (s[n + 2].toNat : Int) < 128 ∨ 192 ≤ (s[n + 2].toNat : Int)
    · exact refRune4_bad2 s n w hs (by omega) (by omega) (by omega) (by omega) (by omega) b2
    by_cases b3 : (s[n + 3].toNat : Int) < 128 ∨ 192 ≤ (s[n + 3].toNat : Int)
    · exact refRune4_bad3 s n w hs (by omega) (by omega) (by omega) (by omega) (by omega) (by omega) (by omega) b3
    by_cases hv : (((((s[n].toNat : Int) - 240) * 64 + (s[n + 1].toNat : Int) - 128) * 64 + (s[n + 2].toNat : Int) - 128) * 64 + (s[n + 3].toNat : Int) - 128) < 65536 ∨ 1114111 < (((((s[n].toNat : Int) - 240) * 64 + (s[n + 1].toNat : Int) - 128) * 64 + (s[n + 2].toNat : Int) - 128) * 64 + (s[n + 3].toNat : Int) - 128) ∨ 55296 ≤ (((((s[n].toNat : Int) - 240) * 64 + (s[n + 1].toNat : Int) - 128) * 64 + (s[n + 2].toNat : Int) - 128) * 64 + (s[n + 3].toNat : Int) - 128) ∧ (((((s[n].toNat : Int) - 240) * 64 + (s[n + 1].toNat : Int) - 128) * 64 + (s[n + 2].toNat : Int) - 128) * 64 + (s[n + 3].toNat : Int) - 128) < 57344
    · exact refRune4_low s n w hs (by omega) (by omega) (by omega) (by omega) (by omega) (by omega) (by omega) (by omega) (by omega) hv
    exact refRune4_ok s n w hs (by omega) (by omega) (by omega) (by omega) (by omega) (by omega) (by omega) (by omega) (by omega) (by omega) (by omega) (by omega)
  · exact refRune_out s a w hs h

end Go.Proofs.YtcpbljhogenjoaaGreatDoor
