/- Walks: escape's reference: letter, digit, hex, number. -/
import Derived.Test.YtcpbljhogenjoaaGreatDoorEscPlain
import Derived.Test.YtcpbljhogenjoaaGreatDoorRef
import Derived.Deep.CutBlock
namespace Go.Proofs.YtcpbljhogenjoaaGreatDoor
set_option linter.unusedVariables false
set_option linter.unusedSimpArgs false
open Go Go.RowKit Go.Shelf Go.Lib

theorem letter_int (c : UInt8) : letterU c = true ↔ ((65 : Int) ≤ c.toNat ∧ (c.toNat : Int) ≤ 90 ∨ (97 : Int) ≤ c.toNat ∧ (c.toNat : Int) ≤ 122) := by
  unfold letterU; simp <;> omega
theorem digit_int (c : UInt8) : digU c = true ↔ ((48 : Int) ≤ c.toNat ∧ (c.toNat : Int) ≤ 57) := by
  unfold digU; simp <;> omega

theorem nb (c d : UInt8) : ((c.toNat : Int) != (d.toNat : Int)) = !(c == d) := by rw [bne, u8_eq]

theorem r7letter_calls (c : UInt8) (w : World) :
    Calls Tryz.prog 71 #[.int .u8 (c.toNat : Int)] w fun e w' => e = .returned (.bool (letterU c)) ∧ w' = w := by
  have hb := Lib.hid (letter_int c)
  generalize (c.toNat : Int) = x at *
  go_enter Tryz.func71, Tryz.ntmps71
  go_wp2_with fail
  all_goals
    go_ret
    exact ⟨ret_bool (by rw [Bool.eq_iff_iff, hb.out]; simp <;> omega), rfl⟩

theorem r7digit_calls (c : UInt8) (w : World) :
    Calls Tryz.prog 72 #[.int .u8 (c.toNat : Int)] w fun e w' => e = .returned (.bool (digU c)) ∧ w' = w := by
  have hb := Lib.hid (digit_int c)
  generalize (c.toNat : Int) = x at *
  go_enter Tryz.func72, Tryz.ntmps72
  go_wp2_with fail
  all_goals
    go_ret
    exact ⟨ret_bool (by rw [Bool.eq_iff_iff, hb.out]; simp <;> omega), rfl⟩

/-- a hexadecimal digit's value; -1: it is none -/
def hexI (c : UInt8) : Int := if digU c = true then (c.toNat : Int) - 48 else if 65 ≤ c.toNat ∧ c.toNat ≤ 70 then (c.toNat : Int) - 55 else if 97 ≤ c.toNat ∧ c.toNat ≤ 102 then (c.toNat : Int) - 87 else -1

set_option maxHeartbeats 2000000 in
set_option maxRecDepth 100000 in
theorem r7hex_calls (c : UInt8) (w : World) :
    Calls Tryz.prog 89 #[.int .u8 (c.toNat : Int)] w fun e w' => e = .returned (.int .i64 (hexI c)) ∧ w' = w := by
  have hd := fun w => r7digit_calls c w
  have h256 := c.toNat_lt
  have e0 : IntKind.i64.wrap (c.toNat : Int) = (c.toNat : Int) := IntWalk.i64_in _ (by omega)
  cases b : digU c with
  | true =>
    rw [b] at hd
    have hh := (digit_int c).1 b
    have hr : Hid (hexI c = (c.toNat : Int) - 48) := by show _ = _; unfold hexI; rw [if_pos b]
    have e1 : IntKind.i64.wrap ((c.toNat : Int) - 48) = (c.toNat : Int) - 48 := IntWalk.i64_in _ (by omega)
    clear b
    go_enter Tryz.func89, Tryz.ntmps89
    go_wp2_with fail
    refine (hd _).mono ?_
    rintro e w1 ⟨rfl, rfl⟩
    go_wp2_with fail
    go_ret
    exact ⟨ret_int (by rw [hr.out]), rfl⟩
  | false =>
    rw [b] at hd
    have hf : Hid (hexI c = if 65 ≤ c.toNat ∧ c.toNat ≤ 70 then (c.toNat : Int) - 55 else if 97 ≤ c.toNat ∧ c.toNat ≤ 102 then (c.toNat : Int) - 87 else -1) := by show _ = _; unfold hexI; rw [if_neg (by rw [b]; decide)]
    clear b
    by_cases h1 : 65 ≤ c.toNat ∧ c.toNat ≤ 70
    · have hr : Hid (hexI c = (c.toNat : Int) - 55) := by show _ = _; rw [hf.out, if_pos h1]
      have d1 : decide ((65 : Int) ≤ (c.toNat : Int)) = true := decide_eq_true (by omega)
      have d2 : decide ((c.toNat : Int) ≤ 70) = true := decide_eq_true (by omega)
      have e1 : IntKind.i64.wrap ((c.toNat : Int) - 55) = (c.toNat : Int) - 55 := IntWalk.i64_in _ (by omega)
      clear hf h1 h256
      generalize (c.toNat : Int) = x at *
      go_enter Tryz.func89, Tryz.ntmps89
      go_wp2_with fail
      refine (hd _).mono ?_
      rintro e w1 ⟨rfl, rfl⟩
      go_wp2_with fail
      go_ret
      exact ⟨ret_int (by rw [hr.out]), rfl⟩
    · by_cases h2 : 97 ≤ c.toNat ∧ c.toNat ≤ 102
      · have hr : Hid (hexI c = (c.toNat : Int) - 87) := by show _ = _; rw [hf.out, if_neg h1, if_pos h2]
        have d0 : decide ((65 : Int) ≤ (c.toNat : Int)) = true := decide_eq_true (by omega)
        have d1 : decide ((c.toNat : Int) ≤ 70) = false := decide_eq_false (by omega)
        have d2 : decide ((97 : Int) ≤ (c.toNat : Int)) = true := decide_eq_true (by omega)
        have d3 : decide ((c.toNat : Int) ≤ 102) = true := decide_eq_true (by omega)
        have e1 : IntKind.i64.wrap ((c.toNat : Int) - 87) = (c.toNat : Int) - 87 := IntWalk.i64_in _ (by omega)
        clear hf h1 h2 h256
        generalize (c.toNat : Int) = x at *
        go_enter Tryz.func89, Tryz.ntmps89
        go_wp2_with fail
        refine (hd _).mono ?_
        rintro e w1 ⟨rfl, rfl⟩
        go_wp2_with fail
        go_ret
        exact ⟨ret_int (by rw [hr.out]), rfl⟩
      · have hr : Hid (hexI c = -1) := by show _ = _; rw [hf.out, if_neg h1, if_neg h2]
        have hx : (c.toNat : Int) < 65 ∨ (70 : Int) < c.toNat := by omega
        have hy : (c.toNat : Int) < 97 ∨ (102 : Int) < c.toNat := by omega
        clear hf h1 h2 h256
        generalize (c.toNat : Int) = x at *
        go_enter Tryz.func89, Tryz.ntmps89
        go_wp2_with fail
        refine (hd _).mono ?_
        rintro e w1 ⟨rfl, rfl⟩
        go_wp2_with fail
        all_goals first
          | omega
          | (go_ret; exact ⟨ret_int (by rw [hr.out]), rfl⟩)

theorem hexI_in (x : Bool) (c : UInt8) (h : digIn x c = true) : hexI c = (hexV c : Nat) ∧ hexV c < baseOf x := by
  refine ⟨?_, hexV_lt x c h⟩
  cases hd : digU c with
  | true =>
    have h2 := (digU_iff c).1 hd
    unfold hexI hexV
    rw [if_pos hd, if_pos hd]; omega
  | false =>
    cases x with
    | false => exact absurd h (by show ¬ digU c = true; rw [hd]; decide)
    | true =>
      have h3 : hexU c = true := h
      unfold hexU at h3
      rw [hd] at h3
      simp at h3
      unfold hexI hexV
      rw [hd]
      simp only [Bool.false_eq_true, if_false]
      by_cases h1 : 65 ≤ c.toNat ∧ c.toNat ≤ 70
      · rw [if_pos h1, if_pos h1]; omega
      · have h2 : 97 ≤ c.toNat ∧ c.toNat ≤ 102 := by omega
        rw [if_neg h1, if_neg h1, if_pos h2, if_pos h2]; omega

theorem hexI_out (x : Bool) (c : UInt8) (h : digIn x c = false) : hexI c < 0 ∨ (baseOf x : Int) ≤ hexI c := by
  cases x with
  | false =>
    have hd : digU c = false := h
    unfold hexI
    rw [if_neg (by rw [hd]; decide)]
    show _ ∨ (10 : Int) ≤ _
    split
    · omega
    · split <;> omega
  | true =>
    have h3 : hexU c = false := h
    unfold hexU at h3
    simp only [Bool.or_eq_false_iff] at h3
    unfold hexI
    rw [if_neg (by rw [h3.1]; decide)]
    simp at h3
    rw [if_neg (by omega), if_neg (by omega)]
    left; decide

theorem ln_yes (s set : ByteArray) (u : UInt8 → Bool) (hu : ∀ c, set.data.toList.contains c = u c) (k : Nat) (h : k < s.size) (hp : u s[k] = true) : leadN s set k = leadN s set (k + 1) + 1 := by
  unfold leadN leadFrom
  rw [drop_cons s k h, List.takeWhile_cons, hu, hp]; rfl
theorem ln_no (s set : ByteArray) (u : UInt8 → Bool) (hu : ∀ c, set.data.toList.contains c = u c) (k : Nat) (h : k < s.size) (hp : u s[k] = false) : leadN s set k = 0 := by
  unfold leadN leadFrom
  rw [drop_cons s k h, List.takeWhile_cons, hu, hp]; rfl

theorem ext_snoc' (s : ByteArray) (f k : Nat) (h : f + k < s.size) : (s.extract f (f + (k + 1))).data.toList = (s.extract f (f + k)).data.toList ++ [s[f + k]] := by
  have := ext_snoc s f (f + (k + 1)) (by omega) (by omega)
  rw [this]; rfl

theorem ret_ii {a b c d : Int} (h : a = b) (h2 : c = d) : Ending.returned (.tuple #[.int .i64 a, .int .i64 c]) = .returned (.tuple #[.int .i64 b, .int .i64 d]) := by rw [h, h2]

set_option maxHeartbeats 4000000 in
set_option maxRecDepth 100000 in
theorem r7number_calls (x : Bool) (s : ByteArray) (f : Nat) (hf : f ≤ s.size) (w : World) (hs : s.size ≤ 1000000) :
    Calls Tryz.prog 69 #[.string s, .int .i64 (f : Nat), .int .i64 (baseOf x : Nat), .int .i64 (mostOf x : Nat)] w fun e w' => e = .returned (.tuple #[.int .i64 (valB (baseOf x) (s.extract f (f + numN s x f)).data.toList : Nat), .int .i64 (numN s x f : Nat)]) ∧ w' = w := by
  have hres : Hid (numN s x f = min (leadN s (setOf x) f) (mostOf x)) := rfl
  have hm7 : mostOf x ≤ 7 := by cases x <;> decide
  have hval : Hid (∀ k, k ≤ numN s x f → valB (baseOf x) (s.extract f (f + k)).data.toList ≤ 268435455) := by
    intro k hk
    have h7 := numN_7 s x f
    have hle := numN_le s x f hf
    refine valB_small x _ (by rw [lst_size, ByteArray.size_extract]; omega) (fun c hc => ?_)
    refine num_digits s x f c ?_
    have : (s.extract f (f + k)).data.toList <+: (s.extract f (f + numN s x f)).data.toList := by
      rw [Lib.extract_data, Lib.extract_data]
      exact List.take_prefix_take_left (by omega)
    exact this.subset hc
  have hb16 : baseOf x ≤ 16 := by cases x <;> decide
  go_enter Tryz.func69, Tryz.ntmps69
  go_wp2_with fail
  go_loopw [10, 11] (fun v n wr => ∃ k V : Nat, k ≤ mostOf x ∧ f + k ≤ s.size ∧ V ≤ 268435455 ∧ v = .int .i64 V ∧ n = .int .i64 k ∧ Hid (V = valB (baseOf x) (s.extract f (f + k)).data.toList) ∧ Hid (leadN s (setOf x) f = k + leadN s (setOf x) (f + k)) ∧ wr = w) (fun _ n _ => mostOf x - (RowKit.intOf n).toNat)
  case atStart => exact ⟨0, 0, Nat.zero_le _, hf, by omega, rfl, rfl, by show 0 = _; rw [Nat.add_zero, Lib.extract_data]; simp [valB], by show _ = _; simp, rfl⟩
  case round =>
    obtain ⟨k, V, hk, hfk, hV, rfl, rfl, hVal, hld, rfl⟩ := hrel
    have e1 : IntKind.i64.wrap ((f : Int) + (k : Int)) = ((f + k : Nat) : Int) := by rw [IntWalk.i64_in _ (by omega)]; omega
    by_cases hkm : k < mostOf x
    · have d1 : decide ((k : Int) < (mostOf x : Int)) = true := decide_eq_true (by omega)
      by_cases hlt : f + k < s.size
      · have d2 : decide (((f + k : Nat) : Int) < (s.size : Int)) = true := decide_eq_true (by omega)
        have j0 : (0 : Int) ≤ ((f + k : Nat) : Int) := by omega
        have j1 : ((f + k : Nat) : Int) < (s.size : Int) := by omega
        have hyes := Lib.hid (ln_yes s (setOf x) (digIn x) (set_contains x) (f + k) hlt)
        have hno := Lib.hid (ln_no s (setOf x) (digIn x) (set_contains x) (f + k) hlt)
        have hex := fun w => r7hex_calls s[f + k] w
        have hin := Lib.hid (hexI_in x s[f + k])
        have hout := Lib.hid (hexI_out x s[f + k])
        have hsn := Lib.hid (ext_snoc' s f k hlt)
        cases hdg : digIn x s[f + k] with
        | true =>
          obtain ⟨h1, h2⟩ := hin.out hdg
          rw [h1] at hex
          have hl2 : Hid (leadN s (setOf x) f = (k + 1) + leadN s (setOf x) (f + (k + 1))) := by show _ = _; rw [hld.out, hyes.out hdg, Nat.add_assoc f k 1]; omega
          have hn1 : k + 1 ≤ numN s x f := by rw [hres.out, hl2.out]; omega
          have hv2 : Hid (V * baseOf x + hexV s[f + k] = valB (baseOf x) (s.extract f (f + (k + 1))).data.toList) := by show _ = _; rw [hsn.out, valB_snoc, ← hVal.out]
          have hvb : V * baseOf x + hexV s[f + k] ≤ 268435455 := by rw [hv2.out]; exact hval.out (k + 1) hn1
          have hmul : V * baseOf x ≤ 268435455 := by omega
          generalize hexV s[f + k] = d at *
          have d3 : decide ((d : Int) < 0) = false := decide_eq_false (by omega)
          have d4 : decide ((baseOf x : Int) ≤ (d : Int)) = false := decide_eq_false (by omega)
          have e2 : IntKind.i64.wrap ((V : Int) * (baseOf x : Int)) = ((V * baseOf x : Nat) : Int) := by rw [← Int.natCast_mul, IntWalk.i64_in _ (by omega)]
          have e3 : IntKind.i64.wrap (((V * baseOf x : Nat) : Int) + (d : Int)) = ((V * baseOf x + d : Nat) : Int) := by rw [IntWalk.i64_in _ (by omega)]; omega
          have e4 : IntKind.i64.wrap ((k : Int) + 1) = ((k + 1 : Nat) : Int) := by rw [IntWalk.i64_in _ (by omega)]; omega
          clear hin hout hyes hno hsn hdg h1 hld hVal
          generalize hM : mostOf x = M at *
          generalize hBs : baseOf x = Bs at *
          go_wp2_with fail
          refine (hex _).mono ?_
          rintro e w1 ⟨rfl, rfl⟩
          go_wp2_with fail
          go_round
          case measure => simp [RowKit.intOf] <;> omega
          case rel => exact ⟨k + 1, V * Bs + d, by omega, by omega, hvb, by first | rfl | (congr 1; omega) | simp, by go_num, hv2, hl2, trivial⟩
        | false =>
          have hn0 : numN s x f = k := by rw [hres.out, hld.out, hno.out hdg]; omega
          have ho := hout.out hdg
          have hr1 : Hid (V = valB (baseOf x) (s.extract f (f + numN s x f)).data.toList) := by show _ = _; rw [hn0]; exact hVal.out
          have HN := Lib.hid hn0
          generalize hexI s[f + k] = d at *
          clear hin hout hyes hno hsn hdg hld hVal hn0
          by_cases hd0 : d < 0
          · have d3 : decide (d < 0) = true := decide_eq_true hd0
            go_wp2_with fail
            refine (hex _).mono ?_
            rintro e w1 ⟨rfl, rfl⟩
            go_wp2_with fail
            go_ret2
            exact ⟨ret_ii (by rw [← hr1.out]) (by rw [HN.out]), rfl⟩
          · have d3 : decide (d < 0) = false := decide_eq_false hd0
            have d4 : decide ((baseOf x : Int) ≤ d) = true := decide_eq_true (by omega)
            go_wp2_with fail
            refine (hex _).mono ?_
            rintro e w1 ⟨rfl, rfl⟩
            go_wp2_with fail
            go_ret2
            exact ⟨ret_ii (by rw [← hr1.out]) (by rw [HN.out]), rfl⟩
      · have d2 : decide (((f + k : Nat) : Int) < (s.size : Int)) = false := decide_eq_false (by omega)
        have hn0 : numN s x f = k := by rw [hres.out, hld.out, leadN_end s _ _ (by omega)]; omega
        have hr1 : Hid (V = valB (baseOf x) (s.extract f (f + numN s x f)).data.toList) := by show _ = _; rw [hn0]; exact hVal.out
        have HN := Lib.hid hn0
        clear hld hVal hn0
        go_wp2_with fail
        go_ret2
        exact ⟨ret_ii (by rw [← hr1.out]) (by rw [HN.out]), rfl⟩
    · have d1 : decide ((k : Int) < (mostOf x : Int)) = false := decide_eq_false (by omega)
      have hn0 : numN s x f = k := by rw [hres.out, hld.out]; omega
      have hr1 : Hid (V = valB (baseOf x) (s.extract f (f + numN s x f)).data.toList) := by show _ = _; rw [hn0]; exact hVal.out
      have HN := Lib.hid hn0
      clear hld hVal hn0
      go_wp2_with fail
      go_ret2
      exact ⟨ret_ii (by rw [← hr1.out]) (by rw [HN.out]), rfl⟩

end Go.Proofs.YtcpbljhogenjoaaGreatDoor
