/- Walk: mark.Item. -/
import Derived.Test.YtngikakigkfbnaaDoorMarkUnder
import Derived.Test.YtngikakigkfbnaaDoorMarkPlain2
import Derived.OwnWalk
import Derived.Lib.AtoiErrMem
namespace Go.Proofs.YtngikakigkfbnaaDoor
set_option linter.unusedVariables false
set_option linter.unusedSimpArgs false
open Go Go.RowKit Go.Lib

theorem idx_one (l : List UInt8) (c : UInt8) : decide (Lib.indexByte l c < 0) = !l.contains c := by
  induction l with
  | nil => rfl
  | cons b t ih =>
    have hg := Lib.indexByte_ge t c
    unfold Lib.indexByte
    rw [List.contains_cons]
    by_cases hb : b = c
    · subst hb; simp
    · have h1 : (b == c) = false := by simpa using hb
      have h2 : (c == b) = false := by simpa using Ne.symm hb
      rw [h1, h2]
      simp only [Bool.false_eq_true, if_false, Bool.false_or, ← ih]
      by_cases h3 : Lib.indexByte t c = -1
      · rw [h3]; decide
      · rw [if_neg (by simpa using h3)]
        rw [decide_eq_false (by omega), decide_eq_false (by omega)]

theorem marks0 (c : UInt8) : decide (Lib.indexByte (ByteArray.mk #[45, 43, 42]).data.toList ((c.toNat : Int).toNat.toUInt8) < 0) = !(markOK 0 c) := by
  rw [show ((c.toNat : Int).toNat.toUInt8) = c from by simp, idx_one]
  show (![45, 43, 42].contains c) = _
  unfold markOK
  simp only [List.contains, List.elem, if_true]
  cases (c == 45) <;> cases (c == 43) <;> cases (c == 42) <;> rfl
theorem marks1 (n : Nat) (h : 0 < n) (c : UInt8) : decide (Lib.indexByte (ByteArray.mk #[46, 41]).data.toList ((c.toNat : Int).toNat.toUInt8) < 0) = !(markOK n c) := by
  rw [show ((c.toNat : Int).toNat.toUInt8) = c from by simp, idx_one]
  show (![46, 41].contains c) = _
  unfold markOK
  rw [if_neg (by omega)]
  simp only [List.contains, List.elem]
  cases (c == 46) <;> cases (c == 41) <;> rfl

theorem take_data (s : ByteArray) (n : Nat) : (s.extract 0 n).data.toList = s.data.toList.take n := by
  rw [Lib.extract_data]; simp

theorem atoi_take (s : ByteArray) (n : Nat) (h0 : 0 < n) (h : n ≤ lead s digitsT) : Lib.atoi (s.extract 0 n).data.toList = some ((decV (s.data.toList.take n) : Nat) : Int) := by
  have hl := lead_le s digitsT
  rw [take_data]
  refine atoi_of _ ?_ (take_digits s n h)
  intro e
  have := congrArg List.length e
  rw [List.length_take, lst_size, List.length_nil] at this
  omega

theorem Item_zend (s : ByteArray) (w : World) (hs : s.size ≤ 1000000) (h0 : lead s digitsT = 0) (h9 : lead s digitsT ≤ 9) (hn : lead s digitsT = s.size) :
    Calls Tryd.prog 17 #[.string s] w fun e w' => e = .returned (.tuple #[.int .u8 0, .int .i64 0, .int .i64 0]) ∧ Below w.heap.size w w' := by
  have hq := fun w => row_calls s digitsT w hs (by decide) digits_ascii
  have hle := lead_le s digitsT
  generalize hN : lead s digitsT = n at *
  clear hN
  subst h0
  have d0 : decide ((0 : Int) < (((0 : Nat) : Int) : Int)) = false := by decide
  have d9 : decide ((9 : Int) < ((0 : Int) : Int)) = false := by decide
  have dn : (((0 : Int) : Int) == (s.size : Int)) = true := by simp; omega
  clear hn
  go_enter Tryd.func17, Tryd.ntmps17
  go_wp2_with fail
  refine (hq w).mono ?_
  rintro e w1 ⟨rfl, hb⟩
  clear hq
  go_wp2_with fail
  go_ret3
  exact ⟨rfl, hb⟩

theorem Item_zmark (s : ByteArray) (w : World) (hs : s.size ≤ 1000000) (h0 : lead s digitsT = 0) (h9 : lead s digitsT ≤ 9) (hn : lead s digitsT < s.size) (hm : markOK (lead s digitsT) s[lead s digitsT] = false) :
    Calls Tryd.prog 17 #[.string s] w fun e w' => e = .returned (.tuple #[.int .u8 0, .int .i64 0, .int .i64 0]) ∧ Below w.heap.size w w' := by
  have hq := fun w => row_calls s digitsT w hs (by decide) digits_ascii
  have hle := lead_le s digitsT
  generalize hN : lead s digitsT = n at *
  clear hN
  subst h0
  have d0 : decide ((0 : Int) < (((0 : Nat) : Int) : Int)) = false := by decide
  have d9 : decide ((9 : Int) < ((0 : Int) : Int)) = false := by decide
  have dn : (((0 : Int) : Int) == (s.size : Int)) = false := by simp; omega
  have i0 : (0 : Int) ≤ ((0 : Int) : Int) := by omega
  have i1 : ((0 : Int) : Int) < (s.size : Int) := by omega
  have hix := Lib.hid (marks0 s[0])
  rw [hm] at hix
  have HM := Lib.hid hm
  clear hm
  go_enter Tryd.func17, Tryd.ntmps17
  go_wp2_with fail
  refine (hq w).mono ?_
  rintro e w1 ⟨rfl, hb⟩
  clear hq
  go_wp2_with fail
  refine (Tryd.strings_IndexByte _ _ _).mono ?_
  rintro e w3 ⟨rfl, rfl⟩
  obtain ⟨i, hi⟩ : ∃ i, Lib.indexByte (ByteArray.mk #[45, 43, 42]).data.toList ((s[0].toNat : Int).toNat.toUInt8) = i := ⟨_, rfl⟩
  have hix2 : decide (i < 0) = true := by rw [← hi]; exact hix.out
  rw [hi]
  clear hi hix
  go_wp2_with fail
  go_ret3
  exact ⟨rfl, hb⟩

theorem Item_zends (s : ByteArray) (w : World) (hs : s.size ≤ 1000000) (h0 : lead s digitsT = 0) (h9 : lead s digitsT ≤ 9) (hn : lead s digitsT < s.size) (hm : markOK (lead s digitsT) s[lead s digitsT] = true) (he : endsB (s.extract (lead s digitsT + 1) s.size) = false) :
    Calls Tryd.prog 17 #[.string s] w fun e w' => e = .returned (.tuple #[.int .u8 0, .int .i64 0, .int .i64 0]) ∧ Below w.heap.size w w' := by
  have hq := fun w => row_calls s digitsT w hs (by decide) digits_ascii
  have hle := lead_le s digitsT
  generalize hN : lead s digitsT = n at *
  clear hN
  subst h0
  have d0 : decide ((0 : Int) < (((0 : Nat) : Int) : Int)) = false := by decide
  have d9 : decide ((9 : Int) < ((0 : Int) : Int)) = false := by decide
  have dn : (((0 : Int) : Int) == (s.size : Int)) = false := by simp; omega
  have i0 : (0 : Int) ≤ ((0 : Int) : Int) := by omega
  have i1 : ((0 : Int) : Int) < (s.size : Int) := by omega
  have hix := Lib.hid (marks0 s[0])
  rw [hm] at hix
  have HM := Lib.hid hm
  clear hm
  have hen := fun w => ends_calls (s.extract (0 + 1) s.size) w (by rw [Lib.tail_size]; omega)
  rw [he] at hen
  have hw : wrap64 (((0 : Int) : Int) + 1) = ((0 + 1 : Nat) : Int) := by unfold wrap64; omega
  have HW := Lib.hid hw
  clear he hw
  go_enter Tryd.func17, Tryd.ntmps17
  go_wp2_with fail
  refine (hq w).mono ?_
  rintro e w1 ⟨rfl, hb⟩
  clear hq
  go_wp2_with fail
  refine (Tryd.strings_IndexByte _ _ _).mono ?_
  rintro e w3 ⟨rfl, rfl⟩
  obtain ⟨i, hi⟩ : ∃ i, Lib.indexByte (ByteArray.mk #[45, 43, 42]).data.toList ((s[0].toNat : Int).toNat.toUInt8) = i := ⟨_, rfl⟩
  have hix2 : decide (i < 0) = false := by rw [← hi]; exact hix.out
  rw [hi]
  clear hi hix
  go_wp2_with fail
  refine (hen _).mono ?_
  rintro e w4 ⟨rfl, hb4⟩
  replace hb := hb.trans (hb4.mono hb.size)
  clear hen hb4
  go_wp2_with fail
  go_ret3
  exact ⟨rfl, hb⟩

theorem Item_zyes (s : ByteArray) (w : World) (hs : s.size ≤ 1000000) (h0 : lead s digitsT = 0) (h9 : lead s digitsT ≤ 9) (hn : lead s digitsT < s.size) (hm : markOK (lead s digitsT) s[lead s digitsT] = true) (he : endsB (s.extract (lead s digitsT + 1) s.size) = true) :
    Calls Tryd.prog 17 #[.string s] w fun e w' => e = .returned (.tuple #[.int .u8 ((s[lead s digitsT].toNat : Nat) : Int), .int .i64 (-1), .int .i64 ((lead s digitsT : Nat) + 1 : Int)]) ∧ Below w.heap.size w w' := by
  have hq := fun w => row_calls s digitsT w hs (by decide) digits_ascii
  have hle := lead_le s digitsT
  generalize hN : lead s digitsT = n at *
  clear hN
  subst h0
  have d0 : decide ((0 : Int) < (((0 : Nat) : Int) : Int)) = false := by decide
  have d9 : decide ((9 : Int) < ((0 : Int) : Int)) = false := by decide
  have dn : (((0 : Int) : Int) == (s.size : Int)) = false := by simp; omega
  have i0 : (0 : Int) ≤ ((0 : Int) : Int) := by omega
  have i1 : ((0 : Int) : Int) < (s.size : Int) := by omega
  have hix := Lib.hid (marks0 s[0])
  rw [hm] at hix
  have HM := Lib.hid hm
  clear hm
  have hen := fun w => ends_calls (s.extract (0 + 1) s.size) w (by rw [Lib.tail_size]; omega)
  rw [he] at hen
  have hw : wrap64 (((0 : Int) : Int) + 1) = ((0 + 1 : Nat) : Int) := by unfold wrap64; omega
  have HW := Lib.hid hw
  clear he hw
  go_enter Tryd.func17, Tryd.ntmps17
  go_wp2_with fail
  refine (hq w).mono ?_
  rintro e w1 ⟨rfl, hb⟩
  clear hq
  go_wp2_with fail
  refine (Tryd.strings_IndexByte _ _ _).mono ?_
  rintro e w3 ⟨rfl, rfl⟩
  obtain ⟨i, hi⟩ : ∃ i, Lib.indexByte (ByteArray.mk #[45, 43, 42]).data.toList ((s[0].toNat : Int).toNat.toUInt8) = i := ⟨_, rfl⟩
  have hix2 : decide (i < 0) = false := by rw [← hi]; exact hix.out
  rw [hi]
  clear hi hix
  go_wp2_with fail
  refine (hen _).mono ?_
  rintro e w4 ⟨rfl, hb4⟩
  replace hb := hb.trans (hb4.mono hb.size)
  clear hen hb4
  go_wp2_with fail
  go_ret3
  exact ⟨rfl, hb⟩

theorem Item_pgt (s : ByteArray) (w : World) (hs : s.size ≤ 1000000) (h0 : 0 < lead s digitsT) (h9 : 9 < lead s digitsT) :
    Calls Tryd.prog 17 #[.string s] w fun e w' => e = .returned (.tuple #[.int .u8 0, .int .i64 0, .int .i64 0]) ∧ Below w.heap.size w w' := by
  have hq := fun w => row_calls s digitsT w hs (by decide) digits_ascii
  have hle := lead_le s digitsT
  have hat := atoi_take s (min (lead s digitsT) 9) (by omega) (by omega)
  generalize hN : lead s digitsT = n at *
  clear hN
  rw [Nat.min_eq_right (by omega)] at hat
  have hmin : min (n : Int) 9 = 9 := by omega
  have d0 : decide ((0 : Int) < (n : Int)) = true := decide_eq_true (by omega)
  have d9 : decide ((9 : Int) < (n : Int)) = true := decide_eq_true (by omega)
  go_enter Tryd.func17, Tryd.ntmps17
  go_wp2_with fail
  refine (hq w).mono ?_
  rintro e w1 ⟨rfl, hb⟩
  clear hq
  go_wp2_with fail
  refine (Tryd.strconv_Atoi _ _ (by rw [ByteArray.size_extract]; omega) hat w1).mono ?_
  rintro e w2 ⟨rfl, t, rfl⟩
  have hb2 := Lib.bytesWorld_below w1 5 t
  replace hb := hb.trans (hb2.mono hb.size)
  generalize Lib.bytesWorld w1 5 t = w2 at *
  clear hb2 hat
  go_wp2_with fail
  go_ret3
  exact ⟨rfl, hb⟩

theorem Item_pend (s : ByteArray) (w : World) (hs : s.size ≤ 1000000) (h0 : 0 < lead s digitsT) (h9 : lead s digitsT ≤ 9) (hn : lead s digitsT = s.size) :
    Calls Tryd.prog 17 #[.string s] w fun e w' => e = .returned (.tuple #[.int .u8 0, .int .i64 0, .int .i64 0]) ∧ Below w.heap.size w w' := by
  have hq := fun w => row_calls s digitsT w hs (by decide) digits_ascii
  have hle := lead_le s digitsT
  have hat := atoi_take s (min (lead s digitsT) 9) (by omega) (by omega)
  generalize hN : lead s digitsT = n at *
  clear hN
  rw [Nat.min_eq_left h9] at hat
  have hmin : min (n : Int) 9 = (n : Int) := by omega
  have d0 : decide ((0 : Int) < (n : Int)) = true := decide_eq_true (by omega)
  have d9 : decide ((9 : Int) < (n : Int)) = false := decide_eq_false (by omega)
  have dn : ((n : Int) == (s.size : Int)) = true := by simp; omega
  clear hn
  go_enter Tryd.func17, Tryd.ntmps17
  go_wp2_with fail
  refine (hq w).mono ?_
  rintro e w1 ⟨rfl, hb⟩
  clear hq
  go_wp2_with fail
  refine (Tryd.strconv_Atoi _ _ (by rw [ByteArray.size_extract]; omega) hat w1).mono ?_
  rintro e w2 ⟨rfl, t, rfl⟩
  have hb2 := Lib.bytesWorld_below w1 5 t
  replace hb := hb.trans (hb2.mono hb.size)
  generalize Lib.bytesWorld w1 5 t = w2 at *
  clear hb2 hat
  go_wp2_with fail
  go_ret3
  exact ⟨rfl, hb⟩

theorem Item_pmark (s : ByteArray) (w : World) (hs : s.size ≤ 1000000) (h0 : 0 < lead s digitsT) (h9 : lead s digitsT ≤ 9) (hn : lead s digitsT < s.size) (hm : markOK (lead s digitsT) s[lead s digitsT] = false) :
    Calls Tryd.prog 17 #[.string s] w fun e w' => e = .returned (.tuple #[.int .u8 0, .int .i64 0, .int .i64 0]) ∧ Below w.heap.size w w' := by
  have hq := fun w => row_calls s digitsT w hs (by decide) digits_ascii
  have hle := lead_le s digitsT
  have hat := atoi_take s (min (lead s digitsT) 9) (by omega) (by omega)
  generalize hN : lead s digitsT = n at *
  clear hN
  rw [Nat.min_eq_left h9] at hat
  have hmin : min (n : Int) 9 = (n : Int) := by omega
  have d0 : decide ((0 : Int) < (n : Int)) = true := decide_eq_true (by omega)
  have d9 : decide ((9 : Int) < (n : Int)) = false := decide_eq_false (by omega)
  have dn : ((n : Int) == (s.size : Int)) = false := by simp; omega
  have i0 : (0 : Int) ≤ (n : Int) := by omega
  have i1 : (n : Int) < (s.size : Int) := by omega
  have hix := Lib.hid (marks1 n h0 s[n])
  rw [hm] at hix
  have HM := Lib.hid hm
  clear hm
  go_enter Tryd.func17, Tryd.ntmps17
  go_wp2_with fail
  refine (hq w).mono ?_
  rintro e w1 ⟨rfl, hb⟩
  clear hq
  go_wp2_with fail
  refine (Tryd.strconv_Atoi _ _ (by rw [ByteArray.size_extract]; omega) hat w1).mono ?_
  rintro e w2 ⟨rfl, t, rfl⟩
  have hb2 := Lib.bytesWorld_below w1 5 t
  replace hb := hb.trans (hb2.mono hb.size)
  generalize Lib.bytesWorld w1 5 t = w2 at *
  clear hb2 hat
  go_wp2_with fail
  refine (Tryd.strings_IndexByte _ _ _).mono ?_
  rintro e w3 ⟨rfl, rfl⟩
  obtain ⟨i, hi⟩ : ∃ i, Lib.indexByte (ByteArray.mk #[46, 41]).data.toList ((s[n].toNat : Int).toNat.toUInt8) = i := ⟨_, rfl⟩
  have hix2 : decide (i < 0) = true := by rw [← hi]; exact hix.out
  rw [hi]
  clear hi hix
  go_wp2_with fail
  go_ret3
  exact ⟨rfl, hb⟩

theorem Item_pends (s : ByteArray) (w : World) (hs : s.size ≤ 1000000) (h0 : 0 < lead s digitsT) (h9 : lead s digitsT ≤ 9) (hn : lead s digitsT < s.size) (hm : markOK (lead s digitsT) s[lead s digitsT] = true) (he : endsB (s.extract (lead s digitsT + 1) s.size) = false) :
    Calls Tryd.prog 17 #[.string s] w fun e w' => e = .returned (.tuple #[.int .u8 0, .int .i64 0, .int .i64 0]) ∧ Below w.heap.size w w' := by
  have hq := fun w => row_calls s digitsT w hs (by decide) digits_ascii
  have hle := lead_le s digitsT
  have hat := atoi_take s (min (lead s digitsT) 9) (by omega) (by omega)
  generalize hN : lead s digitsT = n at *
  clear hN
  rw [Nat.min_eq_left h9] at hat
  have hmin : min (n : Int) 9 = (n : Int) := by omega
  have d0 : decide ((0 : Int) < (n : Int)) = true := decide_eq_true (by omega)
  have d9 : decide ((9 : Int) < (n : Int)) = false := decide_eq_false (by omega)
  have dn : ((n : Int) == (s.size : Int)) = false := by simp; omega
  have i0 : (0 : Int) ≤ (n : Int) := by omega
  have i1 : (n : Int) < (s.size : Int) := by omega
  have hix := Lib.hid (marks1 n h0 s[n])
  rw [hm] at hix
  have HM := Lib.hid hm
  clear hm
  have hen := fun w => ends_calls (s.extract (n + 1) s.size) w (by rw [Lib.tail_size]; omega)
  rw [he] at hen
  have hw : wrap64 ((n : Int) + 1) = ((n + 1 : Nat) : Int) := by unfold wrap64; omega
  have HW := Lib.hid hw
  clear he hw
  go_enter Tryd.func17, Tryd.ntmps17
  go_wp2_with fail
  refine (hq w).mono ?_
  rintro e w1 ⟨rfl, hb⟩
  clear hq
  go_wp2_with fail
  refine (Tryd.strconv_Atoi _ _ (by rw [ByteArray.size_extract]; omega) hat w1).mono ?_
  rintro e w2 ⟨rfl, t, rfl⟩
  have hb2 := Lib.bytesWorld_below w1 5 t
  replace hb := hb.trans (hb2.mono hb.size)
  generalize Lib.bytesWorld w1 5 t = w2 at *
  clear hb2 hat
  go_wp2_with fail
  refine (Tryd.strings_IndexByte _ _ _).mono ?_
  rintro e w3 ⟨rfl, rfl⟩
  obtain ⟨i, hi⟩ : ∃ i, Lib.indexByte (ByteArray.mk #[46, 41]).data.toList ((s[n].toNat : Int).toNat.toUInt8) = i := ⟨_, rfl⟩
  have hix2 : decide (i < 0) = false := by rw [← hi]; exact hix.out
  rw [hi]
  clear hi hix
  go_wp2_with fail
  refine (hen _).mono ?_
  rintro e w4 ⟨rfl, hb4⟩
  replace hb := hb.trans (hb4.mono hb.size)
  clear hen hb4
  go_wp2_with fail
  go_ret3
  exact ⟨rfl, hb⟩

theorem Item_pyes (s : ByteArray) (w : World) (hs : s.size ≤ 1000000) (h0 : 0 < lead s digitsT) (h9 : lead s digitsT ≤ 9) (hn : lead s digitsT < s.size) (hm : markOK (lead s digitsT) s[lead s digitsT] = true) (he : endsB (s.extract (lead s digitsT + 1) s.size) = true) :
    Calls Tryd.prog 17 #[.string s] w fun e w' => e = .returned (.tuple #[.int .u8 ((s[lead s digitsT].toNat : Nat) : Int), .int .i64 ((decV (s.data.toList.take (lead s digitsT)) : Nat)), .int .i64 ((lead s digitsT : Nat) + 1 : Int)]) ∧ Below w.heap.size w w' := by
  have hq := fun w => row_calls s digitsT w hs (by decide) digits_ascii
  have hle := lead_le s digitsT
  have hat := atoi_take s (min (lead s digitsT) 9) (by omega) (by omega)
  generalize hN : lead s digitsT = n at *
  clear hN
  rw [Nat.min_eq_left h9] at hat
  have hmin : min (n : Int) 9 = (n : Int) := by omega
  have d0 : decide ((0 : Int) < (n : Int)) = true := decide_eq_true (by omega)
  have d9 : decide ((9 : Int) < (n : Int)) = false := decide_eq_false (by omega)
  have dn : ((n : Int) == (s.size : Int)) = false := by simp; omega
  have i0 : (0 : Int) ≤ (n : Int) := by omega
  have i1 : (n : Int) < (s.size : Int) := by omega
  have hix := Lib.hid (marks1 n h0 s[n])
  rw [hm] at hix
  have HM := Lib.hid hm
  clear hm
  have hen := fun w => ends_calls (s.extract (n + 1) s.size) w (by rw [Lib.tail_size]; omega)
  rw [he] at hen
  have hw : wrap64 ((n : Int) + 1) = ((n + 1 : Nat) : Int) := by unfold wrap64; omega
  have HW := Lib.hid hw
  clear he hw
  go_enter Tryd.func17, Tryd.ntmps17
  go_wp2_with fail
  refine (hq w).mono ?_
  rintro e w1 ⟨rfl, hb⟩
  clear hq
  go_wp2_with fail
  refine (Tryd.strconv_Atoi _ _ (by rw [ByteArray.size_extract]; omega) hat w1).mono ?_
  rintro e w2 ⟨rfl, t, rfl⟩
  have hb2 := Lib.bytesWorld_below w1 5 t
  replace hb := hb.trans (hb2.mono hb.size)
  generalize Lib.bytesWorld w1 5 t = w2 at *
  clear hb2 hat
  go_wp2_with fail
  refine (Tryd.strings_IndexByte _ _ _).mono ?_
  rintro e w3 ⟨rfl, rfl⟩
  obtain ⟨i, hi⟩ : ∃ i, Lib.indexByte (ByteArray.mk #[46, 41]).data.toList ((s[n].toNat : Int).toNat.toUInt8) = i := ⟨_, rfl⟩
  have hix2 : decide (i < 0) = false := by rw [← hi]; exact hix.out
  rw [hi]
  clear hi hix
  go_wp2_with fail
  refine (hen _).mono ?_
  rintro e w4 ⟨rfl, hb4⟩
  replace hb := hb.trans (hb4.mono hb.size)
  clear hen hb4
  go_wp2_with fail
  go_ret3
  exact ⟨rfl, hb⟩

theorem Item_calls (s : ByteArray) (w : World) (hs : s.size ≤ 1000000) :
    Calls Tryd.prog 17 #[.string s] w fun e w' => e = .returned (.tuple #[.int .u8 (itemF s).1, .int .i64 (itemF s).2.1, .int .i64 (itemF s).2.2]) ∧ Below w.heap.size w w' := by
  have hl := lead_le s digitsT
  by_cases h9 : lead s digitsT ≤ 9
  · by_cases hn : lead s digitsT < s.size
    · cases hm : markOK (lead s digitsT) s[lead s digitsT] with
      | false =>
        have e0 : itemF s = (0, 0, 0) := itemF_no s (by unfold itemIs; rw [get!_of_lt hn, hm]; simp)
        rw [e0]
        by_cases h0 : lead s digitsT = 0
        · exact Item_zmark s w hs h0 h9 hn hm
        · exact Item_pmark s w hs (by omega) h9 hn hm
      | true =>
        cases he : endsB (s.extract (lead s digitsT + 1) s.size) with
        | false =>
          have e0 : itemF s = (0, 0, 0) := itemF_no s (by unfold itemIs; rw [he]; simp)
          rw [e0]
          by_cases h0 : lead s digitsT = 0
          · exact Item_zends s w hs h0 h9 hn hm he
          · exact Item_pends s w hs (by omega) h9 hn hm he
        | true =>
          have e1 := itemF_yes s (by unfold itemIs; rw [get!_of_lt hn, hm, he, decide_eq_true h9, decide_eq_true hn]; rfl)
          rw [e1, get!_of_lt hn]
          by_cases h0 : lead s digitsT = 0
          · have e2 : itemNum s = -1 := by unfold itemNum; rw [if_pos h0]
            rw [e2]
            exact Item_zyes s w hs h0 h9 hn hm he
          · have e2 : itemNum s = (decV (s.data.toList.take (lead s digitsT)) : Nat) := by unfold itemNum; rw [if_neg h0]
            rw [e2]
            exact Item_pyes s w hs (by omega) h9 hn hm he
    · have e0 : itemF s = (0, 0, 0) := itemF_no s (by unfold itemIs; rw [decide_eq_false hn]; simp)
      rw [e0]
      by_cases h0 : lead s digitsT = 0
      · exact Item_zend s w hs h0 h9 (by omega)
      · exact Item_pend s w hs (by omega) h9 (by omega)
  · have e0 : itemF s = (0, 0, 0) := itemF_no s (by unfold itemIs; rw [decide_eq_false h9]; rfl)
    rw [e0]
    exact Item_pgt s w hs (by omega) (by omega)

end Go.Proofs.YtngikakigkfbnaaDoor
