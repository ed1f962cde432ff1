/- Walks: escape.Plain. -/
import Derived.Test.YtcpbljhogenjoaaDoorEscEnt
import Derived.Test.YtcpbljhogenjoaaDoorBuild
namespace Go.Proofs.YtcpbljhogenjoaaDoor
set_option linter.unusedVariables false
set_option linter.unusedSimpArgs false
open Go Go.RowKit Go.Shelf Go.Lib

theorem encode_le (r : Int) : (Utf8.encode r).size ≤ 4 := by
  unfold Utf8.encode
  simp only []
  generalize (if Utf8.valid r = true then r.toNat else Utf8.runeError) = c
  by_cases h1 : c < 128
  · rw [if_pos h1]; show 1 ≤ 4; omega
  · rw [if_neg h1]
    by_cases h2 : c < 2048
    · rw [if_pos h2]; show 2 ≤ 4; omega
    · rw [if_neg h2]
      by_cases h3 : c < 65536
      · rw [if_pos h3]; show 3 ≤ 4; omega
      · rw [if_neg h3]; show 4 ≤ 4; omega
theorem charF_le (v : Nat) : (charF v).size ≤ 4 := encode_le _

theorem numF_bd (t : ByteArray) (a : Nat) : (numF t a).1.size ≤ 4 ∧ (numF t a).2 ≤ max t.size 0 ∧ ((numF t a).2 ≠ 0 → a < (numF t a).2) := by
  unfold numF
  simp only []
  split
  · rename_i h
    simp only [Bool.and_eq_true, decide_eq_true_eq] at h
    have ha : a ≤ atOf (byteU t a == 120 || byteU t a == 88) a := by unfold atOf; split <;> omega
    dsimp only
    refine ⟨charF_le _, ?_, fun _ => ?_⟩
    · omega
    · omega
  · exact ⟨by decide, Nat.zero_le _, fun h => absurd rfl h⟩

theorem entF_bd (s : ByteArray) (a : Nat) (ha : a ≤ s.size) : (entF s a).1.size ≤ 4 ∧ a + (entF s a).2 ≤ s.size := by
  unfold entF
  split
  · split
    · obtain ⟨h1, h2, h3⟩ := numF_bd s (a + 2)
      split
      · exact ⟨by decide, ha⟩
      · rename_i h
        have := h3 h
        dsimp only
        refine ⟨h1, ?_⟩
        omega
    · simp only []
      split
      · split
        · rename_i h
          simp only [Bool.and_eq_true, decide_eq_true_eq] at h
          dsimp only
          refine ⟨charF_le _, ?_⟩
          omega
        · exact ⟨by decide, ha⟩
      · exact ⟨by decide, ha⟩
  · exact ⟨by decide, ha⟩

theorem plainG_out (s : ByteArray) (f a : Nat) (h : s.size ≤ a) : plainG s f a = [] := by
  cases f with
  | zero => rfl
  | succ f => rw [plainG, if_neg (by omega)]

theorem plainG_fuel (s : ByteArray) : ∀ (f g a : Nat), s.size - a ≤ f → s.size - a ≤ g → plainG s f a = plainG s g a := by
  intro f
  induction f with
  | zero =>
    intro g a hf _
    rw [plainG_out s 0 a (by omega), plainG_out s g a (by omega)]
  | succ f ih =>
    intro g a hf hg
    by_cases ha : a < s.size
    · obtain ⟨g, rfl⟩ : ∃ g', g = g' + 1 := ⟨g - 1, by omega⟩
      rw [plainG, plainG, if_pos ha, if_pos ha]
      split
      · rename_i h; rw [ih g _ (by omega) (by omega)]
      · split
        · rw [ih g _ (by omega) (by omega)]
        · rw [ih g _ (by omega) (by omega)]
    · rw [plainG_out s _ a (by omega), plainG_out s _ a (by omega)]

/-- what a text says from a place on -/
def plainT (s : ByteArray) (a : Nat) : List UInt8 := plainG s (s.size - a) a

theorem plainT_all (s : ByteArray) : plainF s = ⟨(plainT s 0).toArray⟩ := rfl
theorem plainT_end (s : ByteArray) (a : Nat) (h : s.size ≤ a) : plainT s a = [] := plainG_out s _ a h
theorem plainT_ent (s : ByteArray) (a : Nat) (ha : a < s.size) (h : 0 < (entF s a).2) : plainT s a = (entF s a).1.data.toList ++ plainT s (a + (entF s a).2) := by
  unfold plainT
  obtain ⟨f, e⟩ : ∃ f, s.size - a = f + 1 := ⟨s.size - a - 1, by omega⟩
  rw [e, plainG, if_pos ha, if_pos h]
  congr 1
  exact plainG_fuel s _ _ _ (by omega) (Nat.le_refl _)
theorem plainT_esc (s : ByteArray) (a : Nat) (ha : a < s.size) (h : (entF s a).2 = 0) (he : escU s a = true) : plainT s a = byteU s (a + 1) :: plainT s (a + 2) := by
  unfold plainT
  obtain ⟨f, e⟩ : ∃ f, s.size - a = f + 1 := ⟨s.size - a - 1, by omega⟩
  rw [e, plainG, if_pos ha, if_neg (by omega), if_pos he]
  congr 1
  exact plainG_fuel s _ _ _ (by omega) (Nat.le_refl _)
theorem plainT_one (s : ByteArray) (a : Nat) (ha : a < s.size) (h : (entF s a).2 = 0) (he : escU s a = false) : plainT s a = byteU s a :: plainT s (a + 1) := by
  unfold plainT
  obtain ⟨f, e⟩ : ∃ f, s.size - a = f + 1 := ⟨s.size - a - 1, by omega⟩
  rw [e, plainG, if_pos ha, if_neg (by omega), if_neg (by rw [he]; decide)]
  congr 1
  exact plainG_fuel s _ _ _ (by omega) (Nat.le_refl _)

theorem esc_no92 (s : ByteArray) (k : Nat) (hk : k < s.size) (b : (s[k] == 92) = false) : escU s k = false := by
  unfold escU
  rw [byteU_in s k hk, b]; rfl
theorem esc_end (s : ByteArray) (k : Nat) (h1 : ¬ k + 1 < s.size) : escU s k = false := by
  unfold escU
  rw [decide_eq_false h1]; simp
theorem esc_92 (s : ByteArray) (k : Nat) (hk : k < s.size) (b : (s[k] == 92) = true) (h1 : k + 1 < s.size) : escU s k = plainB (s[k + 1].toNat : Int) := by
  unfold escU plainU
  rw [byteU_in s k hk, byteU_in s (k + 1) h1, b, decide_eq_true h1]; simp

set_option maxHeartbeats 4000000 in
set_option maxRecDepth 100000 in
theorem Plain_calls' (s : ByteArray) (w : World) (hE : EnvE w) (hs : s.size ≤ 1000000) :
    Calls Tryd.prog 9 #[.string s] w fun e w' => e = .returned (.string (plainF s)) ∧ Below w.heap.size w w' := by
  have HE := Lib.hid hE
  have hlt0 := hE.2.2
  clear hE
  have hNew := Bld.new w
  have hBel0 : Below w.heap.size w (w.alloc (.cells #[.pointer none, .slice none 0 0] 40)) := (Below.refl _ _).alloc (Nat.le_refl _) _
  go_enter Tryd.func9, Tryd.ntmps9
  go_wp2_with fail
  have HN := Lib.hid hNew
  have HB := Lib.hid hBel0
  clear hNew hBel0
  go_loopw [4] (fun i wr => ∃ (k : Nat) (acc : List UInt8), k ≤ s.size ∧ i = .int .i64 k ∧ Hid (acc ++ plainT s k = plainT s 0) ∧ acc.length ≤ 4 * k ∧ Hid (Bld w.heap.size w.heap.size acc wr) ∧ Hid (Below w.heap.size w wr)) (fun i _ => s.size - (RowKit.intOf i).toNat)
  case atStart => exact ⟨0, [], Nat.zero_le _, rfl, rfl, Nat.zero_le _, HN, HB⟩
  case round =>
    obtain ⟨k, acc, hk, rfl, hacc, hal, hbl, hbe⟩ := hrel
    have hwz := hbe.out.size
    by_cases hlt : k < s.size
    · have j0 : (0 : Int) ≤ (k : Int) := by omega
      have j1 : (k : Int) < (s.size : Int) := by omega
      have hbd := entF_bd s k hk
      have hent := fun w hE => Entity_in s k hlt w hE hs
      have he1 := Lib.hid (plainT_ent s k hlt)
      have he2 := Lib.hid (plainT_esc s k hlt)
      have he3 := Lib.hid (plainT_one s k hlt)
      generalize entF s k = p at *
      go_wp2_with fail
      refine (hent _ (HE.out.below hbe.out)).mono ?_
      rintro e w1 ⟨rfl, hB1⟩
      have hbl1 := Lib.hid (hbl.out.below hB1)
      have hbe1 := Lib.hid (hbe.out.trans (hB1.mono hwz))
      have hwz1 := hbe1.out.size
      clear hent hbl hbe hB1 hwz
      by_cases h0 : 0 < p.2
      · have hst : Hid ((acc ++ p.1.data.toList) ++ plainT s (k + p.2) = plainT s 0) := by show _ = _; rw [← hacc.out, he1.out h0, List.append_assoc]
        have hpl : p.1.data.toList.length = p.1.size := lst_size _
        have hal' : (acc ++ p.1.data.toList).length ≤ 4 * (k + p.2) := by rw [List.length_append]; omega
        have hws := bld_str w.heap.size w.heap.size acc p.1 w1 hbl1.out (by omega) (by omega) hwz1
        have hkp : k + p.2 ≤ s.size := hbd.2
        have d0 : (0 : Int) < (p.2 : Int) := by omega
        have e1 : IntKind.i64.wrap ((p.2 : Int) - 1) = (p.2 : Int) - 1 := IntWalk.i64_in _ (by omega)
        have e2 : IntKind.i64.wrap ((k : Int) + ((p.2 : Int) - 1)) = (k : Int) + ((p.2 : Int) - 1) := IntWalk.i64_in _ (by omega)
        have e3 : IntKind.i64.wrap ((k : Int) + ((p.2 : Int) - 1) + 1) = ((k + p.2 : Nat) : Int) := by rw [IntWalk.i64_in _ (by omega)]; omega
        obtain ⟨P1, P2⟩ := p
        simp only at *
        clear hbd he1 he2 he3 hacc hpl
        go_wp2_with fail
        refine hws.mono ?_
        rintro e w2 ⟨rfl, hbl2, hB2⟩
        go_wp2_with fail
        go_round
        case measure => simp [RowKit.intOf] <;> omega
        case rel => exact ⟨k + P2, _, hkp, by go_num, hst, hal', hbl2, hbe1.out.trans hB2⟩
      · have hp0 : p.2 = 0 := by omega
        have d0 : ¬ (0 : Int) < (p.2 : Int) := by omega
        have ub : ((s[k].toNat : Int) == 92) = (s[k] == 92) := u8_eq s[k] 92
        obtain ⟨P1, P2⟩ := p
        simp only at *
        clear he1 hbd h0
        have hwb := fun c m hm => bld_byte w.heap.size w.heap.size acc c m w1 hm hbl1.out (by omega) hwz1
        cases b : (s[k] == 92) with
        | false =>
          have hst : Hid ((acc ++ [s[k]]) ++ plainT s (k + 1) = plainT s 0) := by
            show _ = _
            rw [← hacc.out, he3.out hp0 (esc_no92 s k hlt b), byteU_in s k hlt, List.append_assoc]; rfl
          have hal' : (acc ++ [s[k]]).length ≤ 4 * (k + 1) := by rw [List.length_append]; simp; omega
          rw [b] at ub
          have hw1 := hwb s[k] _ rfl
          clear he2 he3 hacc hwb
          go_wp2_with fail
          refine hw1.mono ?_
          rintro e w2 ⟨rfl, hbl2, hB2⟩
          go_wp2_with fail
          go_round
          case measure => simp [RowKit.intOf] <;> omega
          case rel => exact ⟨k + 1, _, by omega, by go_num, hst, hal', hbl2, hbe1.out.trans hB2⟩
        | true =>
          rw [b] at ub
          by_cases h1 : k + 1 < s.size
          · have j2 : (k : Int) + 1 < (s.size : Int) := by omega
            have hq := fun w => Plain_calls (s[k + 1].toNat : Int) (by omega) (by have := s[k + 1].toNat_lt; omega) w
            have hee := esc_92 s k hlt b h1
            cases hp : plainB (s[k + 1].toNat : Int) with
            | true =>
              have hst : Hid ((acc ++ [s[k + 1]]) ++ plainT s (k + 2) = plainT s 0) := by
                show _ = _
                rw [← hacc.out, he2.out hp0 (hee.trans hp), byteU_in s (k + 1) h1, List.append_assoc]; rfl
              have hal' : (acc ++ [s[k + 1]]).length ≤ 4 * (k + 2) := by rw [List.length_append]; simp; omega
              rw [hp] at hq
              clear he2 he3 hacc hwb hee hp b
              go_wp2_with fail
              refine (hq _).mono ?_
              rintro e w2 ⟨rfl, hB2⟩
              have hbl2 := Lib.hid (hbl1.out.below hB2)
              have hbe2 := Lib.hid (hbe1.out.trans (hB2.mono hwz1))
              have hwz2 := hbe2.out.size
              have hw1 := bld_byte w.heap.size w.heap.size acc s[k + 1] _ w2 rfl hbl2.out (by omega) hwz2
              clear hB2 hbl1 hbe1 hwz1
              go_wp2_with fail
              refine hw1.mono ?_
              rintro e w3 ⟨rfl, hbl3, hB3⟩
              go_wp2_with fail
              go_round
              case measure => simp [RowKit.intOf] <;> omega
              case rel => exact ⟨k + 2, _, by omega, by go_num, hst, hal', hbl3, hbe2.out.trans hB3⟩
            | false =>
              have hst : Hid ((acc ++ [s[k]]) ++ plainT s (k + 1) = plainT s 0) := by
                show _ = _
                rw [← hacc.out, he3.out hp0 (hee.trans hp), byteU_in s k hlt, List.append_assoc]; rfl
              have hal' : (acc ++ [s[k]]).length ≤ 4 * (k + 1) := by rw [List.length_append]; simp; omega
              rw [hp] at hq
              clear he2 he3 hacc hwb hee hp b
              go_wp2_with fail
              refine (hq _).mono ?_
              rintro e w2 ⟨rfl, hB2⟩
              have hbl2 := Lib.hid (hbl1.out.below hB2)
              have hbe2 := Lib.hid (hbe1.out.trans (hB2.mono hwz1))
              have hwz2 := hbe2.out.size
              have hw1 := bld_byte w.heap.size w.heap.size acc s[k] _ w2 rfl hbl2.out (by omega) hwz2
              clear hB2 hbl1 hbe1 hwz1
              go_wp2_with fail
              refine hw1.mono ?_
              rintro e w3 ⟨rfl, hbl3, hB3⟩
              go_wp2_with fail
              go_round
              case measure => simp [RowKit.intOf] <;> omega
              case rel => exact ⟨k + 1, _, by omega, by go_num, hst, hal', hbl3, hbe2.out.trans hB3⟩
          · have hst : Hid ((acc ++ [s[k]]) ++ plainT s (k + 1) = plainT s 0) := by
              show _ = _
              rw [← hacc.out, he3.out hp0 (esc_end s k h1), byteU_in s k hlt, List.append_assoc]; rfl
            have hal' : (acc ++ [s[k]]).length ≤ 4 * (k + 1) := by rw [List.length_append]; simp; omega
            have j2 : ¬ (k : Int) + 1 < (s.size : Int) := by omega
            have hw1 := hwb s[k] _ rfl
            clear he2 he3 hacc hwb b
            go_wp2_with fail
            refine hw1.mono ?_
            rintro e w2 ⟨rfl, hbl2, hB2⟩
            go_wp2_with fail
            go_round
            case measure => simp [RowKit.intOf] <;> omega
            case rel => exact ⟨k + 1, _, by omega, by go_num, hst, hal', hbl2, hbe1.out.trans hB2⟩
    · have hr : Hid (plainF s = ⟨acc.toArray⟩) := by
        show _ = _
        rw [plainT_all, ← hacc.out, plainT_end s k (by omega), List.append_nil]
      have hst := Tryd.Builder_String_any_k w.heap.size w.heap.size acc _ hbl.out hwz
      go_wp2_with fail
      refine hst.mono ?_
      rintro e w1 ⟨rfl, _, hB, _⟩
      go_wp2_with fail
      go_ret
      exact ⟨ret_str (by rw [hr.out]), hbe.out.trans hB⟩

end Go.Proofs.YtcpbljhogenjoaaDoor
