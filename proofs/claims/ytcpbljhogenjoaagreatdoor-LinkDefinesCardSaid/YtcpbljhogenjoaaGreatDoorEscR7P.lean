/- Walks: escape's reference: Plain. -/
import Derived.Test.YtcpbljhogenjoaaGreatDoorEscR7G
import Derived.Test.YtcpbljhogenjoaaGreatDoorAppend
import Derived.Deep.LoopGhost
namespace Go.Proofs.YtcpbljhogenjoaaGreatDoor
set_option linter.unusedVariables false
set_option linter.unusedSimpArgs false
open Go Go.RowKit Go.Shelf Go.Lib

set_option maxHeartbeats 8000000 in
set_option maxRecDepth 100000 in
theorem r7Plain_calls (s : ByteArray) (w : World) (hs : s.size ≤ 200000) :
    Calls Tryz.prog 22 #[.string s] w fun e w' => e = .returned (.string (plainF s)) ∧ Below w.heap.size w w' := by
  go_enter Tryz.func22, Tryz.ntmps22
  go_wp2_with fail
  have hO := Own.new w.heap.size w (Nat.le_refl _)
  have hW2 := (Below.refl w.heap.size w).alloc (Nat.le_refl _) (.cells #[] 5)
  generalize (w.alloc (.cells #[] 5)) = W2 at *
  generalize Value.slice (some { block := w.heap.size, off := 0 }) 0 0 = v0 at *
  go_loopg [3, 4] s.size (fun gk v i wr => ∃ (k : Nat) (acc : List UInt8), Aside (gk + k = s.size) ∧ k ≤ s.size ∧ i = .int .i64 k ∧ Hid (acc ++ plainT s k = plainT s 0) ∧ acc.length ≤ 4 * k ∧ Aside (Own w.heap.size v acc wr) ∧ Hid (Below w.heap.size w wr))
  case atStart => exact ⟨0, [], rfl, Nat.zero_le _, rfl, rfl, Nat.zero_le _, hO, hW2⟩
  case round =>
    obtain ⟨k, acc, hgk, hk, rfl, hacc, hal, hOw, hbe⟩ := hrel
    clear hO hW2
    have hwz := hbe.out.size
    have hOw0 := Lib.hid hOw.out
    clear hOw
    by_cases hlt : k < s.size
    · have j0 : (0 : Int) ≤ (k : Int) := by omega
      have j1 : (k : Int) < (s.size : Int) := by omega
      have hbd := entF_bd s k hk
      have hent := fun w => r7Entity_calls s k hlt w (by omega)
      have he1 := Lib.hid (plainT_ent s k hlt)
      have he2 := Lib.hid (plainT_esc s k hlt)
      have he3 := Lib.hid (plainT_one s k hlt)
      generalize entF s k = p at *
      go_wp2_with fail
      refine (hent _).mono ?_
      rintro e w1 ⟨rfl, hB1⟩
      have hOw1 := Lib.hid (hOw0.out.below hB1)
      have hbe1 := Lib.hid (hbe.out.trans (hB1.mono hwz))
      have hwz1 := hbe1.out.size
      clear hent hbe hB1 hwz hOw0
      by_cases h0 : 0 < p.2
      · have hst : Hid ((acc ++ p.1.data.toList) ++ plainT s (k + p.2) = plainT s 0) := by show _ = _; rw [← hacc.out, he1.out h0, List.append_assoc]
        have hpl : p.1.data.toList.length = p.1.size := lst_size _
        have hal' : (acc ++ p.1.data.toList).length ≤ 4 * (k + p.2) := by rw [List.length_append]; omega
        have hkp : k + p.2 ≤ s.size := hbd.2
        have hp4 : p.1.size ≤ 4 := hbd.1
        have d0 : (0 : Int) < (p.2 : Int) := by omega
        have e3 : IntKind.i64.wrap ((k : Int) + (p.2 : Int)) = ((k + p.2 : Nat) : Int) := by rw [IntWalk.i64_in _ (by omega)]; omega
        obtain ⟨P1, P2⟩ := p
        simp only at *
        clear hbd he1 he2 he3 hacc hpl
        go_wp2_with (at_builtin; refine append_text rfl (.tmp 20) (.tmp 21) rfl w.heap.size _ acc P1 w1 rfl hOw1.out rfl (by omega) (by omega) hwz1 ?_; intro v' w' hO' hB')
        go_roundg (s.size - (k + P2))
        case measure => have := hgk.out; omega
        case rel => exact ⟨k + P2, _, by show _ = _; omega, hkp, by go_num, hst, hal', hO', hbe1.out.trans hB'⟩
      · have hp0 : p.2 = 0 := by omega
        have d0 : ¬ (0 : Int) < (p.2 : Int) := by omega
        have ub : ((s[k].toNat : Int) == 92) = (s[k] == 92) := u8_eq s[k] 92
        obtain ⟨P1, P2⟩ := p
        simp only at *
        clear he1 hbd h0
        cases b : (s[k] == 92) with
        | false =>
          have hst : Hid ((acc ++ [s[k]]) ++ plainT s (k + 1) = plainT s 0) := by
            show _ = _
            rw [← hacc.out, he3.out hp0 (esc_no92 s k hlt b), byteU_in s k hlt, List.append_assoc]; rfl
          have hal' : (acc ++ [s[k]]).length ≤ 4 * (k + 1) := by rw [List.length_append]; simp; omega
          rw [b] at ub
          clear he2 he3 hacc
          go_wp2_with (at_builtin; refine append_byte rfl (.tmp 53) (.tmp 57) rfl w.heap.size _ acc s[k] _ w1 rfl rfl hOw1.out rfl (by omega) hwz1 ?_; intro v' w' hO' hB' _)
          go_roundg (s.size - (k + 1))
          case measure => have := hgk.out; omega
          case rel => exact ⟨k + 1, _, by show _ = _; omega, by omega, by go_num, hst, hal', hO', hbe1.out.trans hB'⟩
        | true =>
          rw [b] at ub
          by_cases h1 : k + 1 < s.size
          · have j2 : (k : Int) + 1 < (s.size : Int) := by omega
            have hq := fun w => refPlain_calls (s[k + 1].toNat : Int) (by omega) (by have := s[k + 1].toNat_lt; omega) w
            have hee := esc_92 s k hlt b h1
            cases hp : plainB (s[k + 1].toNat : Int) with
            | true =>
              have hst : Hid ((acc ++ [s[k + 1]]) ++ plainT s (k + 2) = plainT s 0) := by
                show _ = _
                rw [← hacc.out, he2.out hp0 (hee.trans hp), byteU_in s (k + 1) h1, List.append_assoc]; rfl
              have hal' : (acc ++ [s[k + 1]]).length ≤ 4 * (k + 2) := by rw [List.length_append]; simp; omega
              rw [hp] at hq
              clear he2 he3 hacc hee hp b
              go_wp2_with fail
              refine (hq _).mono ?_
              rintro e w2 ⟨rfl, hB2⟩
              have hOw2 := Lib.hid (hOw1.out.below hB2)
              have hbe2 := Lib.hid (hbe1.out.trans (hB2.mono hwz1))
              have hwz2 := hbe2.out.size
              clear hB2 hOw1 hbe1 hwz1
              go_wp2_with (at_builtin; refine append_byte rfl (.tmp 44) (.tmp 49) rfl w.heap.size _ acc s[k + 1] _ w2 rfl rfl hOw2.out rfl (by omega) hwz2 ?_; intro v' w' hO' hB' _)
              go_roundg (s.size - (k + 2))
              case measure => have := hgk.out; omega
              case rel => exact ⟨k + 2, _, by show _ = _; omega, by omega, by go_num, hst, hal', hO', hbe2.out.trans hB'⟩
            | false =>
              have hst : Hid ((acc ++ [s[k]]) ++ plainT s (k + 1) = plainT s 0) := by
                show _ = _
                rw [← hacc.out, he3.out hp0 (hee.trans hp), byteU_in s k hlt, List.append_assoc]; rfl
              have hal' : (acc ++ [s[k]]).length ≤ 4 * (k + 1) := by rw [List.length_append]; simp; omega
              rw [hp] at hq
              clear he2 he3 hacc hee hp b
              go_wp2_with fail
              refine (hq _).mono ?_
              rintro e w2 ⟨rfl, hB2⟩
              have hOw2 := Lib.hid (hOw1.out.below hB2)
              have hbe2 := Lib.hid (hbe1.out.trans (hB2.mono hwz1))
              have hwz2 := hbe2.out.size
              clear hB2 hOw1 hbe1 hwz1
              go_wp2_with (at_builtin; refine append_byte rfl (.tmp 53) (.tmp 57) rfl w.heap.size _ acc s[k] _ w2 rfl rfl hOw2.out rfl (by omega) hwz2 ?_; intro v' w' hO' hB' _)
              go_roundg (s.size - (k + 1))
              case measure => have := hgk.out; omega
              case rel => exact ⟨k + 1, _, by show _ = _; omega, by omega, by go_num, hst, hal', hO', hbe2.out.trans hB'⟩
          · have hst : Hid ((acc ++ [s[k]]) ++ plainT s (k + 1) = plainT s 0) := by
              show _ = _
              rw [← hacc.out, he3.out hp0 (esc_end s k h1), byteU_in s k hlt, List.append_assoc]; rfl
            have hal' : (acc ++ [s[k]]).length ≤ 4 * (k + 1) := by rw [List.length_append]; simp; omega
            have j2 : ¬ (k : Int) + 1 < (s.size : Int) := by omega
            clear he2 he3 hacc b
            go_wp2_with (at_builtin; refine append_byte rfl (.tmp 53) (.tmp 57) rfl w.heap.size _ acc s[k] _ w1 rfl rfl hOw1.out rfl (by omega) hwz1 ?_; intro v' w' hO' hB' _)
            go_roundg (s.size - (k + 1))
            case measure => have := hgk.out; omega
            case rel => exact ⟨k + 1, _, by show _ = _; omega, by omega, by go_num, hst, hal', hO', hbe1.out.trans hB'⟩
    · have hr : Hid (plainF s = ⟨acc.toArray⟩) := by
        show _ = _
        rw [plainT_all, ← hacc.out, plainT_end s k (by omega), List.append_nil]
      have hcv := own_text hOw0.out
      go_wp2_with fail
      go_ret
      exact ⟨ret_str (by rw [hr.out]), hbe.out⟩

end Go.Proofs.YtcpbljhogenjoaaGreatDoor
