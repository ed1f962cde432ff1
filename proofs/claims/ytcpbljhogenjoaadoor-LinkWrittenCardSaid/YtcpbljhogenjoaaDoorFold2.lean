/- Walks: class.Fold. -/
import Derived.Test.YtcpbljhogenjoaaDoorFold
import Derived.Lib.FieldsU
namespace Go.Proofs.YtcpbljhogenjoaaDoor
set_option linter.unusedVariables false
set_option linter.unusedSimpArgs false
open Go Go.RowKit Go.Shelf Go.Lib

theorem rune_step (s : ByteArray) (k : Nat) (h : k < s.size) : ∃ m : Nat, (runeF s k).2 = m ∧ 1 ≤ m ∧ k + m ≤ s.size := by
  refine ⟨(Utf8.decode s k).2, ?_, Lib.width_pos s k, ?_⟩
  · unfold runeF; rw [if_pos (by omega)]; simp
  · have := decodeN_le_n' (s.size - k) (s.get! k).toNat (s.get! (k + 1)).toNat (s.get! (k + 2)).toNat (s.get! (k + 3)).toNat (by omega)
    rw [← decode_at] at this
    omega

theorem foldG_out (s : ByteArray) (f a : Nat) (out : List UInt8) (g : Bool) (h : s.size ≤ a) : foldG s f a out g = out := by
  cases f with
  | zero => rfl
  | succ f => rw [foldG, if_neg (by omega)]

theorem foldG_fuel (s : ByteArray) : ∀ (f g a : Nat) (out : List UInt8) (b : Bool), s.size - a ≤ f → s.size - a ≤ g → foldG s f a out b = foldG s g a out b := by
  intro f
  induction f with
  | zero =>
    intro g a out b hf _
    rw [foldG_out s 0 a _ _ (by omega), foldG_out s g a _ _ (by omega)]
  | succ f ih =>
    intro g a out b hf hg
    by_cases ha : a < s.size
    · obtain ⟨g, rfl⟩ : ∃ g', g = g' + 1 := ⟨g - 1, by omega⟩
      obtain ⟨m, hm, h1, h2⟩ := rune_step s a ha
      rw [foldG, foldG, if_pos ha, if_pos ha, hm]
      simp only [Int.toNat_natCast]
      split
      · exact ih g _ _ _ (by omega) (by omega)
      · exact ih g _ _ _ (by omega) (by omega)
    · rw [foldG_out s _ a _ _ (by omega), foldG_out s _ a _ _ (by omega)]

/-- what a label is folded to, from a place on -/
def foldT (s : ByteArray) (a : Nat) (out : List UInt8) (g : Bool) : List UInt8 := foldG s (s.size - a) a out g
theorem foldT_all (s : ByteArray) : foldF s = ⟨(foldT s 0 [] false).toArray⟩ := rfl
theorem foldT_end (s : ByteArray) (a : Nat) (out : List UInt8) (g : Bool) (h : s.size ≤ a) : foldT s a out g = out := foldG_out s _ a _ _ h
theorem foldT_blank (s : ByteArray) (a : Nat) (out : List UInt8) (g : Bool) (ha : a < s.size) (m : Nat) (hm : (runeF s a).2 = m) (h1 : 1 ≤ m) (hb : blankB (runeF s a).1 = true) : foldT s a out g = foldT s (a + m) out true := by
  unfold foldT
  obtain ⟨f, e⟩ : ∃ f, s.size - a = f + 1 := ⟨s.size - a - 1, by omega⟩
  rw [e, foldG, if_pos ha, if_pos hb, hm, Int.toNat_natCast]
  exact foldG_fuel s _ _ _ _ _ (by omega) (Nat.le_refl _)
theorem foldT_char (s : ByteArray) (a : Nat) (out : List UInt8) (g : Bool) (ha : a < s.size) (m : Nat) (hm : (runeF s a).2 = m) (h1 : 1 ≤ m) (hb : blankB (runeF s a).1 = false) : foldT s a out g = foldT s (a + m) ((if (g && !out.isEmpty) = true then out ++ [32] else out) ++ (foldR (runeF s a).1).data.toList) false := by
  unfold foldT
  obtain ⟨f, e⟩ : ∃ f, s.size - a = f + 1 := ⟨s.size - a - 1, by omega⟩
  rw [e, foldG, if_pos ha, if_neg (by rw [hb]; decide), hm, Int.toNat_natCast]
  exact foldG_fuel s _ _ _ _ _ (by omega) (Nat.le_refl _)

theorem len_pos (l : List UInt8) : decide ((0 : Int) < (l.length : Int)) = !l.isEmpty := by cases l <;> simp

set_option maxHeartbeats 4000000 in
set_option maxRecDepth 100000 in
theorem Fold_calls (s : ByteArray) (w : World) (hT : Tabs w) (hs : s.size ≤ 1000000) :
    Calls Tryd.prog 11 #[.string s] w fun e w' => e = .returned (.string (foldF s)) ∧ Below w.heap.size w w' := by
  have HT := Lib.hid hT
  clear hT
  have hNew := Bld.new w
  have hBel0 : Below w.heap.size w (w.alloc (.cells #[.pointer none, .slice none 0 0] 40)) := (Below.refl _ _).alloc (Nat.le_refl _) _
  go_enter Tryd.func11, Tryd.ntmps11
  go_wp2_with fail
  have HN := Lib.hid hNew
  have HB := Lib.hid hBel0
  clear hNew hBel0
  go_loopw [4, 5] (fun v i wr => ∃ (k : Nat) (acc : List UInt8) (g : Bool), k ≤ s.size ∧ i = .int .i64 k ∧ v = .bool (g && !acc.isEmpty) ∧ Hid (foldT s k acc g = foldT s 0 [] false) ∧ acc.length ≤ 5 * k ∧ Hid (Bld w.heap.size w.heap.size acc wr) ∧ Hid (Below w.heap.size w wr)) (fun _ i _ => s.size - (RowKit.intOf i).toNat)
  case atStart => exact ⟨0, [], false, Nat.zero_le _, rfl, rfl, rfl, Nat.zero_le _, HN, HB⟩
  case round =>
    obtain ⟨k, acc, g, hk, rfl, rfl, hacc, hal, hbl, hbe⟩ := hrel
    have hwz := hbe.out.size
    by_cases hlt : k < s.size
    · have j0 : (0 : Int) ≤ (k : Int) := by omega
      have j1 : (k : Int) < (s.size : Int) := by omega
      obtain ⟨m, hm, hm1, hm2⟩ := rune_step s k hlt
      have hfb := Lib.hid (foldT_blank s k acc g hlt m hm hm1)
      have hfc := Lib.hid (foldT_char s k acc g hlt m hm hm1)
      have hbd := runeF_bd s k
      have hru := fun w hT => Rune_calls s k w hs hT
      have hbk := fun w => Blank_calls (runeF s k).1 w
      have hfo := fun w => fold_calls (runeF s k).1 w hbd.1 hbd.2.1
      have hfl := foldR_le (runeF s k).1
      rw [hm] at hru
      generalize (runeF s k).1 = r at *
      have e1 : IntKind.i64.wrap ((k : Int) + (m : Int)) = ((k + m : Nat) : Int) := by rw [IntWalk.i64_in _ (by omega)]; omega
      go_wp2_with fail
      refine (hru _ (HT.out.below (hbe.out))).mono ?_
      rintro e w1 ⟨rfl, hB1⟩
      have hbl1 := Lib.hid (hbl.out.below hB1)
      have hbe1 := Lib.hid (hbe.out.trans (hB1.mono hwz))
      have hwz1 := hbe1.out.size
      clear hru hbl hbe hB1 hwz
      go_wp2_with fail
      refine (hbk _).mono ?_
      rintro e w2 ⟨rfl, hB1⟩
      have hbl2 := Lib.hid (hbl1.out.below hB1)
      have hbe2 := Lib.hid (hbe1.out.trans (hB1.mono hwz1))
      have hwz2 := hbe2.out.size
      clear hbk hbl1 hbe1 hB1 hwz1
      cases hb : blankB r with
      | true =>
        have hst : Hid (foldT s (k + m) acc true = foldT s 0 [] false) := by show _ = _; rw [← hacc.out, hfb.out hb]
        have hln := Tryd.Builder_Len_f w.heap.size w.heap.size _ w2 hbl2.out
        rw [Lib.byteCells_length] at hln
        have hlp := len_pos acc
        clear hfb hfc hacc hb hbd hfl
        go_wp2_with fail
        refine hln.mono ?_
        rintro e w3 ⟨rfl, rfl⟩
        go_wp2_with fail
        go_round
        case measure => simp [RowKit.intOf] <;> omega
        case rel => exact ⟨k + m, acc, true, hm2, by go_num, by cases acc <;> simp, hst, by omega, hbl2, hbe2⟩
      | false =>
        cases hg : (g && !acc.isEmpty) with
        | true =>
          have hst : Hid (foldT s (k + m) ((acc ++ [32]) ++ (foldR r).data.toList) false = foldT s 0 [] false) := by show _ = _; rw [← hacc.out, hfc.out hb, if_pos hg]
          have hwb := bld_byte w.heap.size w.heap.size acc 32 32 w2 rfl hbl2.out (by omega) hwz2
          have hfz : (foldR r).data.toList.length = (foldR r).size := lst_size _
          have hal2 : ((acc ++ [32]) ++ (foldR r).data.toList).length ≤ 5 * (k + m) := by
            rw [List.length_append, List.length_append]; simp at hfz ⊢; omega
          clear hfb hfc hacc hb hbd
          go_wp2_with fail
          refine hwb.mono ?_
          rintro e w3 ⟨rfl, hbl3, hB3⟩
          have hbe3 := Lib.hid (hbe2.out.trans hB3)
          have hwz3 := hbe3.out.size
          clear hbl2 hbe2 hwz2 hB3 hwb
          go_wp2_with fail
          refine (hfo _).mono ?_
          rintro e w4 ⟨rfl, hB4⟩
          have hbl4 := Lib.hid (hbl3.below hB4)
          have hbe4 := Lib.hid (hbe3.out.trans (hB4.mono hwz3))
          have hwz4 := hbe4.out.size
          have hws := bld_str w.heap.size w.heap.size (acc ++ [32]) (foldR r) w4 hbl4.out (by rw [List.length_append]; simp; omega) (by omega) hwz4
          clear hbl3 hbe3 hwz3 hB4 hfo
          go_wp2_with fail
          refine hws.mono ?_
          rintro e w5 ⟨rfl, hbl5, hB5⟩
          go_wp2_with fail
          go_round
          case measure => simp [RowKit.intOf] <;> omega
          case rel => exact ⟨k + m, _, false, hm2, by go_num, rfl, hst, hal2, hbl5, hbe4.out.trans hB5⟩
        | false =>
          have hst : Hid (foldT s (k + m) (acc ++ (foldR r).data.toList) false = foldT s 0 [] false) := by show _ = _; rw [← hacc.out, hfc.out hb, if_neg (by rw [hg]; decide)]
          have hfz : (foldR r).data.toList.length = (foldR r).size := lst_size _
          have hal2 : (acc ++ (foldR r).data.toList).length ≤ 5 * (k + m) := by
            rw [List.length_append]; omega
          clear hfb hfc hacc hb hbd
          go_wp2_with fail
          refine (hfo _).mono ?_
          rintro e w4 ⟨rfl, hB4⟩
          have hbl4 := Lib.hid (hbl2.out.below hB4)
          have hbe4 := Lib.hid (hbe2.out.trans (hB4.mono hwz2))
          have hwz4 := hbe4.out.size
          have hws := bld_str w.heap.size w.heap.size acc (foldR r) w4 hbl4.out (by omega) (by omega) hwz4
          clear hbl2 hbe2 hwz2 hB4 hfo
          go_wp2_with fail
          refine hws.mono ?_
          rintro e w5 ⟨rfl, hbl5, hB5⟩
          go_wp2_with fail
          go_round
          case measure => simp [RowKit.intOf] <;> omega
          case rel => exact ⟨k + m, _, false, hm2, by go_num, rfl, hst, hal2, hbl5, hbe4.out.trans hB5⟩
    · have hr : Hid (foldF s = ⟨acc.toArray⟩) := by
        show _ = _
        rw [foldT_all, ← hacc.out, foldT_end s k _ _ (by omega)]
      have hst := Tryd.Builder_String_any_k w.heap.size w.heap.size acc _ hbl.out hwz
      go_wp2_with fail
      refine hst.mono ?_
      rintro e w1 ⟨rfl, _, hB, _⟩
      go_wp2_with fail
      go_ret
      exact ⟨ret_str (by rw [hr.out]), hbe.out.trans hB⟩

end Go.Proofs.YtcpbljhogenjoaaDoor
