/- Walks: strconv.ParseInt at base 10 and 16 over at most seven digits, and at the empty text. -/
import Derived.Test.YtcpbljhogenjoaaDoorEscA
import Derived.Shelf.Strconv.ParseIntEmpty
import Derived.Shelf.Strconv.ToError
import Derived.Laws.Strings3
import Derived.Laws.Closers25
import Derived.Lib.ConvBytes
import Derived.Lib.ItoaWalk
import Derived.Lib.AtoiAllMem
import Derived.Lib.AtoiErrMem
import Derived.Lib.IfaceNeq
import Derived.BigCall
import Derived.BigGuard
namespace Go.Proofs.YtcpbljhogenjoaaDoor
set_option linter.unusedVariables false
set_option linter.unusedSimpArgs false
open Go Go.RowKit Go.Shelf Go.Lib

theorem hexV_dig (c : UInt8) (h : 48 ≤ c.toNat ∧ c.toNat ≤ 57) : hexV c = c.toNat - 48 := by
  unfold hexV digU; rw [decide_eq_true h.1, decide_eq_true h.2]; rfl
theorem digU_iff (c : UInt8) : digU c = true ↔ 48 ≤ c.toNat ∧ c.toNat ≤ 57 := by unfold digU; simp
theorem hex_fin : ∀ c : Fin 256, hexU (UInt8.ofNat c.val) = true → digU (UInt8.ofNat c.val) = false → bits .or .u8 (c.val : Int) 32 = ((hexV (UInt8.ofNat c.val) + 87 : Nat) : Int) ∧ 10 ≤ hexV (UInt8.ofNat c.val) ∧ hexV (UInt8.ofNat c.val) ≤ 15 ∧ 65 ≤ c.val := by decide +kernel
theorem hex_let (c : UInt8) (h : hexU c = true) (h2 : digU c = false) : bits .or .u8 (c.toNat : Int) 32 = ((hexV c + 87 : Nat) : Int) ∧ 10 ≤ hexV c ∧ hexV c ≤ 15 ∧ 65 ≤ c.toNat := by
  have := hex_fin ⟨c.toNat, c.toNat_lt⟩
  simp only [UInt8.ofNat_toNat] at this
  exact this h h2

theorem valB_snoc (b : Nat) (l : List UInt8) (c : UInt8) : valB b (l ++ [c]) = valB b l * b + hexV c := by unfold valB; rw [List.foldl_append]; rfl
theorem hexV_lt (x : Bool) (c : UInt8) (h : digIn x c = true) : hexV c < baseOf x := by
  cases x
  · have := (digU_iff c).1 h
    rw [hexV_dig c this]; show _ < 10; omega
  · show _ < 16
    cases hd : digU c with
    | true => have := (digU_iff c).1 hd; rw [hexV_dig c this]; omega
    | false => have := hex_let c h hd; omega
theorem valB_lt (x : Bool) : ∀ (n : Nat) (l : List UInt8), l.length ≤ n → (∀ c ∈ l, digIn x c = true) → valB (baseOf x) l < baseOf x ^ n := by
  intro n
  induction n with
  | zero =>
    intro l hl _
    have : l = [] := List.length_eq_zero_iff.1 (by omega)
    subst this; simp [valB]
  | succ n ih =>
    intro l hl h
    rcases List.eq_nil_or_concat l with rfl | ⟨m, c, rfl⟩
    · have : (0 : Nat) < baseOf x ^ (n + 1) := Nat.pow_pos (by cases x <;> decide)
      simpa [valB] using this
    · rw [List.concat_eq_append] at *
      rw [valB_snoc, Nat.pow_succ]
      have h1 := ih m (by simp at hl; omega) (fun d hd => h d (List.mem_append_left _ hd))
      have h2 := hexV_lt x c (h c (by simp))
      have h3 : (valB (baseOf x) m + 1) * baseOf x ≤ baseOf x ^ n * baseOf x := Nat.mul_le_mul_right _ h1
      rw [Nat.succ_mul] at h3
      omega
theorem valB_small (x : Bool) (l : List UInt8) (hl : l.length ≤ 7) (h : ∀ c ∈ l, digIn x c = true) : valB (baseOf x) l ≤ 268435455 := by
  have h1 := valB_lt x 7 l hl h
  cases x
  · have : baseOf false ^ 7 = 10000000 := by decide
    omega
  · have : baseOf true ^ 7 = 268435456 := by decide
    omega


set_option maxHeartbeats 32000000 in
set_option maxRecDepth 100000 in
theorem parseUint10 (t : ByteArray) (hne : t.size ≠ 0) (h7 : t.size ≤ 7) (hd : ∀ c ∈ t.data.toList, digIn false c = true) (w : World) :
    Calls Tryd.prog 74 #[.string t, .int .i64 10, .int .i64 64] w fun e w' => e = .returned (.tuple #[.int .u64 (valB 10 t.data.toList : Nat), .nilIface]) ∧ Below w.heap.size w w' := by
  have hemp : t.toList.isEmpty = false := by
    rw [← decide_eq_emptyBytes]
    exact decide_eq_false (fun h => hne (by rw [h]; rfl))
  have hcv := Lib.run_convert_string_bytes (P := Tryd.prog) w 9 38 5 t (u := .string) Tryd.underlying9 Tryd.underlying38 Tryd.underlying5
  have hB : ∀ j, j < t.size → (Lib.bytesWorld w 5 t).cell? ⟨w.heap.size, j, none⟩ = some (.int .u8 (t.data.toList.getD j 0).toNat) := fun j hj => Lib.bytesWorld_cell w 5 t j hj
  have hBel : Below w.heap.size w (Lib.bytesWorld w 5 t) := Lib.bytesWorld_below _ _ _
  have hHB := Lib.hid hB
  have hBel := Lib.hid hBel
  clear hB
  generalize Lib.bytesWorld w 5 t = W1 at *
  have hLn : t.data.toList.length = t.size := by rw [Lib.size_eq]
  have hval : Hid (∀ k, k ≤ t.size → valB 10 (t.data.toList.take k) ≤ 268435455) := fun k _ => valB_small false _ (by rw [List.length_take]; omega) (fun c hc => hd c (List.mem_of_mem_take hc))
  have hD := Lib.hid hd
  clear hd
  have hmv : IntKind.u64.wrap (IntKind.u64.wrap 18446744073709551616 - 1) = 18446744073709551615 := by
    rw [IntKind.wrap_u64, IntKind.wrap_u64]
    decide
  have htake : Hid (t.data.toList.take t.size = t.data.toList) := List.take_of_length_le (by omega)
  go_enter Tryd.func74, Tryd.ntmps74
  go_wp2
  go_loop [12, 13, 101] (fun vu vn vi => ∃ (k : Nat) (a : Int), vu = .bool false ∧ vn = .int .u64 a ∧ vi = .int .i64 k ∧ k ≤ t.size ∧ Hid (a = (valB 10 (t.data.toList.take k) : Nat)))
    (fun _ _ vi => t.size - (RowKit.intOf vi).toNat)
  case atStart => exact ⟨0, 0, rfl, rfl, rfl, by omega, rfl⟩
  case round =>
    obtain ⟨k, a, rfl, rfl, rfl, hk, ha⟩ := hrel
    have hab := hval.out k hk
    have a0 : 0 ≤ a := by rw [ha.out]; omega
    have a1 : a ≤ 268435455 := by rw [ha.out]; omega
    clear hab
    by_cases hkn : k < t.size
    · have hc := hHB.out k hkn
      have hget : t.data.toList.getD k 0 = t.data.toList[k]'(by omega) := by simp [List.getD, List.getElem?_eq_getElem (show k < t.data.toList.length by omega)]
      rw [hget] at hc
      have hdc := hD.out _ (List.getElem_mem (show k < t.data.toList.length by omega))
      have hsn : Hid (valB 10 (t.data.toList.take (k + 1)) = valB 10 (t.data.toList.take k) * 10 + hexV (t.data.toList[k]'(by omega))) := by
        show _ = _
        rw [List.take_succ_eq_append_getElem (by omega), valB_snoc]
      generalize t.data.toList[k]'(by omega) = c at *
      have hc256 : c.toNat < 256 := c.toNat_lt
      clear hget
      cases hdig : digU c with
      | true =>
        obtain ⟨hd0, hd1⟩ := (digU_iff c).1 hdig
        have hv := Lib.hid (hexV_dig c ⟨hd0, hd1⟩)
        have icut : a < 1844674407370955162 := by omega
        have iov : a * 10 + ((c.toNat : Int) - 48) ≤ 18446744073709551615 := by omega
        have HN : Hid (a * 10 + ((c.toNat : Int) - 48) = (valB 10 (t.data.toList.take (k + 1)) : Nat)) := by
          show _ = _
          rw [hsn.out, hv.out, ha.out]; omega
        clear ha hdc hdig
        go_wp2
        refine ⟨⟨k + 1, a * 10 + ((c.toNat : Int) - 48), rfl, (by first | rfl | (congr 1; omega)), (by first | rfl | (congr 1; omega)), by omega, HN⟩, by simp [RowKit.intOf]; omega⟩

      | false => exact absurd hdc (by show ¬ digU c = true; rw [hdig]; decide)
    · have hkk : k = t.size := by omega
      subst hkk
      have hF : Hid (a = (valB 10 t.data.toList : Nat)) := by show _ = _; rw [ha.out, htake.out]
      clear ha
      go_wp2
      go_ret2
      exact ⟨by show Ending.returned (.tuple #[.int .u64 a, .nilIface]) = _; rw [hF.out], hBel.out⟩

set_option maxHeartbeats 32000000 in
set_option maxRecDepth 100000 in
theorem parseUint16 (t : ByteArray) (hne : t.size ≠ 0) (h7 : t.size ≤ 7) (hd : ∀ c ∈ t.data.toList, digIn true c = true) (w : World) :
    Calls Tryd.prog 74 #[.string t, .int .i64 16, .int .i64 64] w fun e w' => e = .returned (.tuple #[.int .u64 (valB 16 t.data.toList : Nat), .nilIface]) ∧ Below w.heap.size w w' := by
  have hemp : t.toList.isEmpty = false := by
    rw [← decide_eq_emptyBytes]
    exact decide_eq_false (fun h => hne (by rw [h]; rfl))
  have hcv := Lib.run_convert_string_bytes (P := Tryd.prog) w 9 38 5 t (u := .string) Tryd.underlying9 Tryd.underlying38 Tryd.underlying5
  have hB : ∀ j, j < t.size → (Lib.bytesWorld w 5 t).cell? ⟨w.heap.size, j, none⟩ = some (.int .u8 (t.data.toList.getD j 0).toNat) := fun j hj => Lib.bytesWorld_cell w 5 t j hj
  have hBel : Below w.heap.size w (Lib.bytesWorld w 5 t) := Lib.bytesWorld_below _ _ _
  have hHB := Lib.hid hB
  have hBel := Lib.hid hBel
  clear hB
  generalize Lib.bytesWorld w 5 t = W1 at *
  have hLn : t.data.toList.length = t.size := by rw [Lib.size_eq]
  have hval : Hid (∀ k, k ≤ t.size → valB 16 (t.data.toList.take k) ≤ 268435455) := fun k _ => valB_small true _ (by rw [List.length_take]; omega) (fun c hc => hd c (List.mem_of_mem_take hc))
  have hD := Lib.hid hd
  clear hd
  have hmv : IntKind.u64.wrap (IntKind.u64.wrap 18446744073709551616 - 1) = 18446744073709551615 := by
    rw [IntKind.wrap_u64, IntKind.wrap_u64]
    decide
  have htake : Hid (t.data.toList.take t.size = t.data.toList) := List.take_of_length_le (by omega)
  go_enter Tryd.func74, Tryd.ntmps74
  go_wp2
  go_loop [12, 13, 101] (fun vu vn vi => ∃ (k : Nat) (a : Int), vu = .bool false ∧ vn = .int .u64 a ∧ vi = .int .i64 k ∧ k ≤ t.size ∧ Hid (a = (valB 16 (t.data.toList.take k) : Nat)))
    (fun _ _ vi => t.size - (RowKit.intOf vi).toNat)
  case atStart => exact ⟨0, 0, rfl, rfl, rfl, by omega, rfl⟩
  case round =>
    obtain ⟨k, a, rfl, rfl, rfl, hk, ha⟩ := hrel
    have hab := hval.out k hk
    have a0 : 0 ≤ a := by rw [ha.out]; omega
    have a1 : a ≤ 268435455 := by rw [ha.out]; omega
    clear hab
    by_cases hkn : k < t.size
    · have hc := hHB.out k hkn
      have hget : t.data.toList.getD k 0 = t.data.toList[k]'(by omega) := by simp [List.getD, List.getElem?_eq_getElem (show k < t.data.toList.length by omega)]
      rw [hget] at hc
      have hdc := hD.out _ (List.getElem_mem (show k < t.data.toList.length by omega))
      have hsn : Hid (valB 16 (t.data.toList.take (k + 1)) = valB 16 (t.data.toList.take k) * 16 + hexV (t.data.toList[k]'(by omega))) := by
        show _ = _
        rw [List.take_succ_eq_append_getElem (by omega), valB_snoc]
      generalize t.data.toList[k]'(by omega) = c at *
      have hc256 : c.toNat < 256 := c.toNat_lt
      clear hget
      cases hdig : digU c with
      | true =>
        obtain ⟨hd0, hd1⟩ := (digU_iff c).1 hdig
        have hv := Lib.hid (hexV_dig c ⟨hd0, hd1⟩)
        have icut : a < 1152921504606846976 := by omega
        have iov : a * 16 + ((c.toNat : Int) - 48) ≤ 18446744073709551615 := by omega
        have HN : Hid (a * 16 + ((c.toNat : Int) - 48) = (valB 16 (t.data.toList.take (k + 1)) : Nat)) := by
          show _ = _
          rw [hsn.out, hv.out, ha.out]; omega
        clear ha hdc hdig
        go_wp2
        refine ⟨⟨k + 1, a * 16 + ((c.toNat : Int) - 48), rfl, (by first | rfl | (congr 1; omega)), (by first | rfl | (congr 1; omega)), by omega, HN⟩, by simp [RowKit.intOf]; omega⟩

      | false =>
        obtain ⟨hl1, hl2, hl3, hl4⟩ := hex_let c hdc hdig
        have hlow := fun w => Tryd.internal_strconv_lower (c.toNat : Int) w
        rw [hl1] at hlow
        have icut : a < 1152921504606846976 := by omega
        have h57 : (57 : Int) < (c.toNat : Int) := by omega
        have h95 : ((c.toNat : Int) == 95) = false := beq_eq_false_iff_ne.2 (by
          intro h
          have : c = 95 := UInt8.toNat_inj.1 (by show c.toNat = 95; omega)
          subst this
          exact absurd hdc (by decide))
        generalize hexV c = v at *
        have iov : a * 16 + (v : Int) ≤ 18446744073709551615 := by omega
        have HN : Hid (a * 16 + (v : Int) = (valB 16 (t.data.toList.take (k + 1)) : Nat)) := by
          show _ = _
          rw [hsn.out, ha.out]; omega
        have e1 : ((v + 87 : Nat) : Int) = (v : Int) + 87 := by omega
        rw [e1] at hlow
        have i1 : (97 : Int) ≤ (v : Int) + 87 := by omega
        have i2 : (v : Int) + 87 ≤ 122 := by omega
        have i3 : (v : Int) < 16 := by omega
        clear ha hdc hdig hl1 e1
        go_wp2_with fail
        repeat (refine (hlow _).mono ?_; rintro e w' ⟨rfl, rfl⟩; go_wp2_with fail)
        refine ⟨⟨k + 1, a * 16 + (v : Int), rfl, (by first | rfl | (congr 1; omega)), (by first | rfl | (congr 1; omega)), by omega, HN⟩, by simp [RowKit.intOf]; omega⟩
    · have hkk : k = t.size := by omega
      subst hkk
      have hF : Hid (a = (valB 16 t.data.toList : Nat)) := by show _ = _; rw [ha.out, htake.out]
      clear ha
      go_wp2
      go_ret2
      exact ⟨by show Ending.returned (.tuple #[.int .u64 a, .nilIface]) = _; rw [hF.out], hBel.out⟩

end Go.Proofs.YtcpbljhogenjoaaDoor
