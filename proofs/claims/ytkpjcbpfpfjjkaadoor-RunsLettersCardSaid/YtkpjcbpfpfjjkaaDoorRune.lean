/- Walks: unicode/utf8.DecodeRuneInString, text.Rune, text.Before. -/
import Derived.Test.YtkpjcbpfpfjjkaaDoorClass
import Derived.Test.YtkpjcbpfpfjjkaaDoorShelf
import Derived.WalkKit
import Derived.WalkSpells
import Derived.Shelf.Unicode.DecodeSlow
import Derived.Lib.Hide
namespace Go.Proofs.YtkpjcbpfpfjjkaaDoor
set_option linter.unusedVariables false
set_option linter.unusedSimpArgs false
open Go Go.RowKit Go.Shelf Go.Lib

/-- the tables of unicode/utf8 lie as its text lays them -/
abbrev Tabs (w : World) : Prop := Lib.Utf8Tabs 0 1 w

theorem DecodeRuneInString_calls (s : ByteArray) (w : World) (hT : Tabs w) :
    Calls Tryd.prog 19 #[.string s] w fun e w' => e = .returned (.tuple #[.int .i32 (Lib.decodeGo s).1, .int .i64 (Lib.decodeGo s).2]) ∧ Below w.heap.size w w' := by
  have HT := Lib.hid hT
  clear hT
  by_cases h0 : s.size = 0
  · have hl : s.toList = [] := toList_nil h0
    go_enter Tryd.func19, Tryd.ntmps19
    go_wp2_with fail
    refine (Tryd.utf8_decodeRuneInStringSlow s w HT.out).mono ?_
    rintro e w1 ⟨rfl, hb⟩
    go_wp2
    go_ret2
    exact ⟨rfl, hb⟩
  · have hp : 0 < s.size := by omega
    have hl : s.toList.isEmpty = false := toList_ne hp
    clear h0
    by_cases ha : (s[0].toNat : Int) < 128
    · have hd : Hid (Lib.decodeGo s = (s[0].toNat, 1)) := by
        show _ = _
        unfold Lib.decodeGo; rw [if_neg (by omega), decode_ascii s 0 hp (by omega)]
      go_enter Tryd.func19, Tryd.ntmps19
      go_wp2_with fail
      go_ret2
      exact ⟨by rw [hd.out]; rfl, Below.refl _ _⟩
    · go_enter Tryd.func19, Tryd.ntmps19
      go_wp2_with fail
      refine (Tryd.utf8_decodeRuneInStringSlow s w HT.out).mono ?_
      rintro e w1 ⟨rfl, hb⟩
      go_wp2
      go_ret2
      exact ⟨rfl, hb⟩

theorem decodeGo_tail (s : ByteArray) (n : Nat) (h : n < s.size) : Lib.decodeGo (s.extract n s.size) = Utf8.decode s n := by
  unfold Lib.decodeGo
  rw [if_neg (by rw [Lib.tail_size]; omega), Lib.tail_decode]; rfl

theorem Rune_calls (s : ByteArray) (a : Int) (w : World) (hs : s.size ≤ 1000000) (hT : Tabs w) :
    Calls Tryd.prog 11 #[.string s, .int .i64 a] w fun e w' => e = .returned (.tuple #[.int .i64 (runeF s a).1, .int .i64 (runeF s a).2]) ∧ Below w.heap.size w w' := by
  have HT := Lib.hid hT
  clear hT
  by_cases h : 0 ≤ a ∧ a < s.size
  · obtain ⟨n, rfl⟩ := Int.eq_ofNat_of_zero_le h.1
    have hn : n < s.size := by omega
    have hd := Lib.hid (decodeGo_tail s n hn)
    have hr : Hid (runeF s n = ((((Utf8.decode s n).1 : Nat) : Int), (((Utf8.decode s n).2 : Nat) : Int))) := by show _ = _; unfold runeF; rw [if_pos (by omega)]; rfl
    have hle := Lib.rune_le s n
    clear h
    go_enter Tryd.func11, Tryd.ntmps11
    go_wp2_with fail
    refine (DecodeRuneInString_calls (s.extract n s.size) w HT.out).mono ?_
    rintro e w1 ⟨rfl, hb⟩
    rw [hd.out]
    go_wp2
    go_ret2
    exact ⟨by rw [hr.out]; rfl, hb⟩
  · have hr : Hid (runeF s a = (0, 0)) := by show _ = _; unfold runeF; rw [if_neg h]
    have hc : decide (a < 0) = true ∨ decide (a < 0) = false ∧ decide ((s.size : Int) ≤ a) = true := by
      by_cases h0 : a < 0
      · exact Or.inl (by simpa using h0)
      · exact Or.inr ⟨by simpa using h0, by simp; omega⟩
    clear h
    rcases hc with hc | ⟨hc, hc'⟩
    all_goals
      go_enter Tryd.func11, Tryd.ntmps11
      go_wp2_with fail
      go_ret2
      exact ⟨by rw [hr.out]; rfl, Below.refl _ _⟩

theorem Tabs.below {w w' : World} (h : Tabs w) (hb : Below w.heap.size w w') : Tabs w' := Utf8Tabs_below h hb

theorem beforeFrom_step (s : ByteArray) (a : Int) (n : Nat) : beforeFrom s a (n + 1) = if (runeF s (a - ((n : Int) + 1))).2 = (n : Int) + 1 then (runeF s (a - ((n : Int) + 1))).1 else beforeFrom s a n := rfl

theorem runeF_bd (s : ByteArray) (a : Int) : 0 ≤ (runeF s a).1 ∧ (runeF s a).1 ≤ 1114111 ∧ 0 ≤ (runeF s a).2 ∧ (runeF s a).2 ≤ 4 := by
  have h1 := Lib.rune_le s a.toNat
  have h2 : (Utf8.decode s a.toNat).2 ≤ 4 := by
    rw [Lib.decode_at]; unfold Lib.decodeN
    repeat' split
    all_goals simp
  unfold runeF
  split <;> simp <;> omega

theorem Before_calls (s : ByteArray) (a : Int) (w : World) (hs : s.size ≤ 1000000) (hT : Tabs w) :
    Calls Tryd.prog 13 #[.string s, .int .i64 a] w fun e w' => e = .returned (.int .i64 (beforeF s a)) ∧ Below w.heap.size w w' := by
  have HT := Lib.hid hT
  clear hT
  by_cases h : a < 1 ∨ (s.size : Int) < a
  · have hr : Hid (beforeF s a = -1) := by show _ = _; unfold beforeF; rw [if_pos h]
    have hc : decide (a < 1) = true ∨ decide (a < 1) = false ∧ decide ((s.size : Int) < a) = true := by
      by_cases h0 : a < 1
      · exact Or.inl (by simpa using h0)
      · exact Or.inr ⟨by simpa using h0, by simp; omega⟩
    clear h
    rcases hc with hc | ⟨hc, hc'⟩
    all_goals
      go_enter Tryd.func13, Tryd.ntmps13
      go_wp2_with fail
      go_ret
      exact ⟨by rw [hr.out]; rfl, Below.refl _ _⟩
  · obtain ⟨n, rfl⟩ := Int.eq_ofNat_of_zero_le (show 0 ≤ a by omega)
    have hn0 : 1 ≤ n := by omega
    have hn1 : n ≤ s.size := by omega
    have hr : Hid (beforeF s n = beforeFrom s n (min n 4)) := by show _ = _; unfold beforeF; rw [if_neg (by omega)]; rfl
    have c1 : decide ((n : Int) < 1) = false := by simp; omega
    have c2 : decide (s.size < n) = false := by simp; omega
    clear h
    go_enter Tryd.func13, Tryd.ntmps13
    go_wp2_with fail
    go_loopw [5] (fun i wr => ∃ k : Nat, k ≤ n ∧ k ≤ 4 ∧ i = .int .i64 k ∧ Hid (beforeFrom s n (min n 4) = beforeFrom s n k) ∧ Below w.heap.size w wr) (fun i _ => (RowKit.intOf i).toNat)
    case atStart => exact ⟨min n 4, by omega, by omega, by go_num, rfl, Below.refl _ _⟩
    case round =>
      obtain ⟨k, hk, hk4, rfl, hw, hb⟩ := hrel
      cases k with
      | zero =>
        go_wp2_with fail
        go_ret
        exact ⟨by rw [hr.out, hw.out]; rfl, hb⟩
      | succ k =>
        have hst := Lib.hid (beforeFrom_step s n k)
        go_wp2_with fail
        refine (Rune_calls s _ _ hs (HT.out.below hb)).mono ?_
        rintro e w1 ⟨rfl, hb1⟩
        have hbd := runeF_bd s ((n : Int) - ((k : Int) + 1))
        by_cases hq : (runeF s ((n : Int) - ((k : Int) + 1))).2 = (k : Int) + 1
        · have hv : Hid (beforeFrom s n (k + 1) = (runeF s ((n : Int) - ((k : Int) + 1))).1) := by show _ = _; rw [hst.out, if_pos hq]
          have hq' : ((runeF s ((n : Int) - ((k : Int) + 1))).2 == (k : Int) + 1) = true := by simpa using hq
          clear hq
          generalize runeF s ((n : Int) - ((k : Int) + 1)) = q at *
          go_wp2_with fail
          go_ret
          exact ⟨by rw [hr.out, hw.out, hv.out]; rfl, hb.trans (hb1.mono hb.size)⟩
        · have hv : Hid (beforeFrom s n (k + 1) = beforeFrom s n k) := by show _ = _; rw [hst.out, if_neg hq]
          have hq' : ((runeF s ((n : Int) - ((k : Int) + 1))).2 == (k : Int) + 1) = false := by simpa using hq
          clear hq
          generalize runeF s ((n : Int) - ((k : Int) + 1)) = q at *
          go_wp2_with fail
          go_roundw
          case rel => exact ⟨k, by omega, by omega, by go_num, (by show _ = _; rw [hw.out, hv.out]), hb.trans (hb1.mono hb.size)⟩
          case measure => simp [RowKit.intOf] <;> omega

end Go.Proofs.YtkpjcbpfpfjjkaaDoor
