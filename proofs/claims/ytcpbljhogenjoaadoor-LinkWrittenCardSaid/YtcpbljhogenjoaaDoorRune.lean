/- Walks: unicode/utf8.DecodeRuneInString, text.Rune, text.Before. -/
import Derived.Test.YtcpbljhogenjoaaDoorClass
import Derived.Test.YtcpbljhogenjoaaDoorHelp
import Derived.Test.YtcpbljhogenjoaaDoorShelf
import Derived.WalkKit
import Derived.WalkSpells
import Derived.Shelf.Unicode.DecodeSlow
import Derived.Lib.Hide
namespace Go.Proofs.YtcpbljhogenjoaaDoor
set_option linter.unusedVariables false
set_option linter.unusedSimpArgs false
open Go Go.RowKit Go.Shelf Go.Lib

theorem DecodeRuneInString_calls (s : ByteArray) (w : World) (hT : Tabs w) :
    Calls Tryd.prog 50 #[.string s] w fun e w' => e = .returned (.tuple #[.int .i32 (Lib.decodeGo s).1, .int .i64 (Lib.decodeGo s).2]) ∧ Below w.heap.size w w' := by
  have HT := Lib.hid hT
  clear hT
  by_cases h0 : s.size = 0
  · have hl : s.toList = [] := toList_nil h0
    go_enter Tryd.func50, Tryd.ntmps50
    go_wp2_with fail
    refine (Tryd.utf8_decodeRuneInStringSlow s w HT.out).mono ?_
    rintro e w1 ⟨rfl, hb⟩
    go_wp2
    go_ret2
    exact ⟨rfl, hb⟩
  · have hp : 0 < s.size := by omega
    have hl : s.toList.isEmpty = false := toList_ne hp
    clear h0
    by_cases ha : (s[0].toNat : Int) < 128
    · have hd : Hid (Lib.decodeGo s = (s[0].toNat, 1)) := by
        show _ = _
        unfold Lib.decodeGo; rw [if_neg (by omega), decode_ascii s 0 hp (by omega)]
      go_enter Tryd.func50, Tryd.ntmps50
      go_wp2_with fail
      go_ret2
      exact ⟨by rw [hd.out]; rfl, Below.refl _ _⟩
    · go_enter Tryd.func50, Tryd.ntmps50
      go_wp2_with fail
      refine (Tryd.utf8_decodeRuneInStringSlow s w HT.out).mono ?_
      rintro e w1 ⟨rfl, hb⟩
      go_wp2
      go_ret2
      exact ⟨rfl, hb⟩

theorem decodeGo_tail (s : ByteArray) (n : Nat) (h : n < s.size) : Lib.decodeGo (s.extract n s.size) = Utf8.decode s n := by
  unfold Lib.decodeGo
  rw [if_neg (by rw [Lib.tail_size]; omega), Lib.tail_decode]; rfl

theorem Rune_calls (s : ByteArray) (a : Int) (w : World) (hs : s.size ≤ 1000000) (hT : Tabs w) :
    Calls Tryd.prog 26 #[.string s, .int .i64 a] w fun e w' => e = .returned (.tuple #[.int .i64 (runeF s a).1, .int .i64 (runeF s a).2]) ∧ Below w.heap.size w w' := by
  have HT := Lib.hid hT
  clear hT
  by_cases h : 0 ≤ a ∧ a < s.size
  · obtain ⟨n, rfl⟩ := Int.eq_ofNat_of_zero_le h.1
    have hn : n < s.size := by omega
    have hd := Lib.hid (decodeGo_tail s n hn)
    have hr : Hid (runeF s n = ((((Utf8.decode s n).1 : Nat) : Int), (((Utf8.decode s n).2 : Nat) : Int))) := by show _ = _; unfold runeF; rw [if_pos (by omega)]; rfl
    have hle := Lib.rune_le s n
    clear h
    go_enter Tryd.func26, Tryd.ntmps26
    go_wp2_with fail
    refine (DecodeRuneInString_calls (s.extract n s.size) w HT.out).mono ?_
    rintro e w1 ⟨rfl, hb⟩
    rw [hd.out]
    go_wp2
    go_ret2
    exact ⟨by rw [hr.out]; rfl, hb⟩
  · have hr : Hid (runeF s a = (0, 0)) := by show _ = _; unfold runeF; rw [if_neg h]
    have hc : decide (a < 0) = true ∨ decide (a < 0) = false ∧ decide ((s.size : Int) ≤ a) = true := by
      by_cases h0 : a < 0
      · exact Or.inl (by simpa using h0)
      · exact Or.inr ⟨by simpa using h0, by simp; omega⟩
    clear h
    rcases hc with hc | ⟨hc, hc'⟩
    all_goals
      go_enter Tryd.func26, Tryd.ntmps26
      go_wp2_with fail
      go_ret2
      exact ⟨by rw [hr.out]; rfl, Below.refl _ _⟩

theorem runeF_bd (s : ByteArray) (a : Int) : 0 ≤ (runeF s a).1 ∧ (runeF s a).1 ≤ 1114111 ∧ 0 ≤ (runeF s a).2 ∧ (runeF s a).2 ≤ 4 := by
  have h1 := Lib.rune_le s a.toNat
  have h2 : (Utf8.decode s a.toNat).2 ≤ 4 := by
    rw [Lib.decode_at]; unfold Lib.decodeN
    repeat' split
    all_goals simp
  unfold runeF
  split <;> simp <;> omega

end Go.Proofs.YtcpbljhogenjoaaDoor
