/- Walks: the reference's small, Has, Ends. -/
import Derived.Test.YtjaidphlphncjaaDoorTagHas
import Derived.Test.YtjaidphlphncjaaDoorBytes
import Derived.Test.YtjaidphlphncjaaDoorTagEndsK
namespace Go.Proofs.YtjaidphlphncjaaDoor
set_option linter.unusedVariables false
set_option linter.unusedSimpArgs false
open Go Go.RowKit Go.Lib

theorem low_no1 (c : UInt8) (h : ¬ 65 ≤ (c.toNat : Int)) : lowU c = c := by unfold lowU; rw [if_neg (by omega)]
theorem low_no2 (c : UInt8) (h : ¬ (c.toNat : Int) ≤ 90) : lowU c = c := by unfold lowU; rw [if_neg (by omega)]
theorem low_yes (c : UInt8) (h1 : 65 ≤ (c.toNat : Int)) (h2 : (c.toNat : Int) ≤ 90) : (c.toNat : Int) + 32 = ((lowU c).toNat : Int) := by
  unfold lowU; rw [if_pos (by omega)]; simp; omega
theorem up_no1 (c : UInt8) (h : ¬ 97 ≤ (c.toNat : Int)) : upU c = c := by unfold upU; rw [if_neg (by omega)]
theorem up_no2 (c : UInt8) (h : ¬ (c.toNat : Int) ≤ 122) : upU c = c := by unfold upU; rw [if_neg (by omega)]
theorem up_yes (c : UInt8) (h1 : 97 ≤ (c.toNat : Int)) (h2 : (c.toNat : Int) ≤ 122) : (c.toNat : Int) - 32 = ((upU c).toNat : Int) := by
  unfold upU; rw [if_pos (by omega)]
  have h : (32 : UInt8) ≤ c := by rw [UInt8.le_iff_toNat_le]; show 32 ≤ _; omega
  rw [UInt8.toNat_sub_of_le _ _ h]; show _ = ((c.toNat - 32 : Nat) : Int); omega

theorem take_map_snoc (f : UInt8 → UInt8) (s : ByteArray) (k : Nat) (h : k < s.size) : (s.data.toList.take k).map f ++ [f s[k]] = (s.data.toList.take (k + 1)).map f := by
  have hl : k < s.data.toList.length := by rw [lst_size]; exact h
  have e : s.data.toList.take (k + 1) = s.data.toList.take k ++ [s[k]] := by
    rw [List.take_add_one, List.getElem?_eq_getElem hl]; rfl
  rw [e, List.map_append]; rfl

set_option maxHeartbeats 2000000 in
set_option maxRecDepth 100000 in
theorem small_calls (s : ByteArray) (w : World) (hs : s.size ≤ 1000000) :
    Calls Tryd.prog 36 #[.string s] w fun e w' => e = .returned (.string ⟨(s.data.toList.map lowU).toArray⟩) ∧ Below w.heap.size w w' := by
  go_enter Tryd.func36, Tryd.ntmps36
  go_wp2_with fail
  have hO := Own.new w.heap.size w (Nat.le_refl _)
  have hW2 := (Below.refl w.heap.size w).alloc (Nat.le_refl _) (.cells #[] 5)
  generalize (w.alloc (.cells #[] 5)) = W2 at *
  generalize Value.slice (some { block := w.heap.size, off := 0 }) 0 0 = v0 at *
  go_loopg [3, 4] s.size (fun gk v i wr => ∃ k : Nat, Aside (gk + k = s.size) ∧ k ≤ s.size ∧ i = .int .i64 k ∧ Aside (Own w.heap.size v ((s.data.toList.take k).map lowU) wr) ∧ Below w.heap.size w wr)
  case atStart => exact ⟨0, rfl, Nat.zero_le _, rfl, hO, hW2⟩
  case round =>
    obtain ⟨k, hgk, hk, rfl, hOw, hL⟩ := hrel
    clear hO hW2
    by_cases hlt : k < s.size
    · have HR := Lib.hid (take_map_snoc lowU s k hlt)
      have hll : ((s.data.toList.take k).map lowU).length ≤ 1000000 := by rw [List.length_map, List.length_take, lst_size]; omega
      have zL := hL.size
      by_cases h1 : 65 ≤ (s[k].toNat : Int)
      · by_cases h2 : (s[k].toNat : Int) ≤ 90
        · have hy := low_yes _ h1 h2
          have ez := IntWalk.u8_in ((s[k].toNat : Int) + 32) (by omega)
          go_wp2_with (at_builtin; refine append_byte rfl (.tmp 24) (.tmp 26) rfl w.heap.size _ _ (lowU s[k]) _ wr (by rw [← hy]) rfl hOw.out rfl hll zL ?_; intro v' w' hO' hB' _)
          go_roundg (s.size - (k + 1))
          case measure => have := hgk.out; omega
          case rel => exact ⟨k + 1, by show _ = _; omega, by omega, by go_num, by rw [← HR.out]; exact hO', hL.trans hB'⟩
        · have hy := low_no2 _ h2
          go_wp2_with (at_builtin; refine append_byte rfl (.tmp 24) (.tmp 26) rfl w.heap.size _ _ (lowU s[k]) _ wr (by rw [hy]) rfl hOw.out rfl hll zL ?_; intro v' w' hO' hB' _)
          go_roundg (s.size - (k + 1))
          case measure => have := hgk.out; omega
          case rel => exact ⟨k + 1, by show _ = _; omega, by omega, by go_num, by rw [← HR.out]; exact hO', hL.trans hB'⟩
      · have hy := low_no1 _ h1
        go_wp2_with (at_builtin; refine append_byte rfl (.tmp 24) (.tmp 26) rfl w.heap.size _ _ (lowU s[k]) _ wr (by rw [hy]) rfl hOw.out rfl hll zL ?_; intro v' w' hO' hB' _)
        go_roundg (s.size - (k + 1))
        case measure => have := hgk.out; omega
        case rel => exact ⟨k + 1, by show _ = _; omega, by omega, by go_num, by rw [← HR.out]; exact hO', hL.trans hB'⟩
    · have hl' : (s.data.toList.take k).map lowU = s.data.toList.map lowU := by rw [List.take_of_length_le (by rw [lst_size]; omega)]
      obtain ⟨g, c, hv⟩ := hOw.out.2
      have hO3 := hOw.out
      rw [hv] at hO3
      have htx := text_of hO3
      rw [← hv, hl'] at htx
      clear hO3 hv hOw hgk hl'
      go_wp2_with fail
      go_ret
      exact ⟨rfl, hL⟩

end Go.Proofs.YtjaidphlphncjaaDoor
