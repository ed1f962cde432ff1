/- Walks: tag's reference: Begins, upTo, value. -/
import Derived.Test.YtjaidphlphncjaaDoorTagRefA
import Derived.WalkSmall
namespace Go.Proofs.YtjaidphlphncjaaDoor
set_option linter.unusedVariables false
set_option linter.unusedSimpArgs false
open Go Go.RowKit Go.Lib

theorem Begins_calls (s p : ByteArray) (w : World) (hs : s.size ≤ 1000000) (hp : p.size ≤ 1000000) :
    Calls Tryd.prog 20 #[.string s, .string p] w fun e w' => e = .returned (.bool (Lib.hasPrefix s.data.toList p.data.toList)) ∧ w' = w := by
  have hr := Lib.hid (Lib.hasPrefix_raw s p)
  by_cases h : p.size ≤ s.size
  · have d1 : decide ((p.size : Int) ≤ (s.size : Int)) = true := decide_eq_true (by omega)
    have i0 : (0 : Int) ≤ (p.size : Int) := by omega
    have i1 : (p.size : Int) ≤ (s.size : Int) := by omega
    go_enter Tryd.func20, Tryd.ntmps20
    go_wp2_with fail
    go_ret
    exact ⟨ret_bool (by rw [← hr.out, decide_eq_true h]; rfl), rfl⟩
  · have d1 : decide ((p.size : Int) ≤ (s.size : Int)) = false := decide_eq_false (by omega)
    go_enter Tryd.func20, Tryd.ntmps20
    go_wp2_with fail
    go_ret
    exact ⟨ret_bool (by rw [← hr.out, decide_eq_false h]; rfl), rfl⟩

theorem ne_b (c d : UInt8) : ((c.toNat : Int) != (d.toNat : Int)) = !(c == d) := by rw [bne, u8_eq]

theorem quote_step (s : ByteArray) (c : UInt8) (k : Nat) (h : k < s.size) : quoteEnd s c k = if (s[k] == c) = true then some (k + 1) else quoteEnd s c (k + 1) := by
  unfold quoteEnd
  rw [drop_cons s k h]
  have hg := Lib.indexByte_ge (s.data.toList.drop (k + 1)) c
  rw [Lib.indexByte]
  cases hc : (s[k] == c) with
  | true => simp
  | false =>
    simp only [Bool.false_eq_true, if_false]
    by_cases h1 : Lib.indexByte (s.data.toList.drop (k + 1)) c = -1
    · rw [h1]; rfl
    · have hb : (Lib.indexByte (s.data.toList.drop (k + 1)) c == -1) = false := beq_eq_false_iff_ne.2 h1
      rw [hb]
      simp only [Bool.false_eq_true, if_false]
      rw [if_pos (by omega), if_pos (by omega)]
      congr 1; omega
theorem quote_end (s : ByteArray) (c : UInt8) (k : Nat) (h : s.size ≤ k) : quoteEnd s c k = none := by
  unfold quoteEnd
  rw [List.drop_eq_nil_of_le (by rw [lst_size]; exact h)]; rfl

theorem bare_step (s : ByteArray) (k : Nat) (h : k < s.size) : bareN s k = if stopU s[k] = true then 0 else bareN s (k + 1) + 1 := by
  unfold bareN
  rw [drop_cons s k h, List.takeWhile_cons]
  cases stopU s[k] <;> simp
theorem bare_end (s : ByteArray) (k : Nat) (h : s.size ≤ k) : bareN s k = 0 := by
  unfold bareN
  rw [List.drop_eq_nil_of_le (by rw [lst_size]; exact h)]; rfl

theorem upTo_step (s : ByteArray) (p : List UInt8) (k : Nat) (h : k < s.size) : upToF s k p = if p.isPrefixOf (s.data.toList.drop k) = true then k + p.length else upToF s (k + 1) p := by
  unfold upToF
  rw [drop_cons s k h]
  have hg := Lib.index_ge (s.data.toList.drop (k + 1)) p
  rw [Lib.index]
  cases hc : p.isPrefixOf (s[k] :: s.data.toList.drop (k + 1)) with
  | true => simp
  | false =>
    simp only [Bool.false_eq_true, if_false]
    by_cases h1 : Lib.index (s.data.toList.drop (k + 1)) p = -1
    · rw [h1]; rfl
    · have hb : (Lib.index (s.data.toList.drop (k + 1)) p == -1) = false := beq_eq_false_iff_ne.2 h1
      rw [hb]
      simp only [Bool.false_eq_true, if_false]
      rw [if_neg (by omega), if_neg (by omega)]
      omega
theorem upTo_end (s : ByteArray) (p : List UInt8) (k : Nat) (hp : p ≠ []) (h : s.size < k + p.length) : upToF s k p = 0 := by
  unfold upToF
  have h1 : Lib.index (s.data.toList.drop k) p = -1 := by
    refine Lib.index_none (fun j hj => ?_)
    unfold Lib.occAt
    cases hc : p.isPrefixOf ((s.data.toList.drop k).drop j) with
    | false => rfl
    | true =>
      have h2 := (List.isPrefixOf_iff_prefix.1 hc).length_le
      rw [List.length_drop, List.length_drop, lst_size] at h2
      have h3 : 0 < p.length := by cases p <;> simp_all
      omega
  rw [h1]; rfl

theorem cut_is (s p : ByteArray) (k : Nat) (h : k + p.size ≤ s.size) : ((s.extract k (k + p.size)).toList == p.toList) = p.data.toList.isPrefixOf (s.data.toList.drop k) := by
  rw [ByteArray.toList_eq, ByteArray.toList_eq, Lib.extract_data, show k + p.size - k = p.data.toList.length from by rw [lst_size]; omega, Bool.eq_iff_iff, beq_iff_eq, List.isPrefixOf_iff_prefix, List.prefix_iff_eq_take]
  exact ⟨fun e => e.symm, fun e => e.symm⟩

set_option maxHeartbeats 2000000 in
theorem refupTo_calls (s p : ByteArray) (a : Nat) (w : World) (hs : s.size ≤ 1000000) (ha : a ≤ 1000) (hp : p.size ≤ 1000) (hp0 : 0 < p.size) :
    Calls Tryd.prog 21 #[.string s, .int .i64 a, .string p] w fun e w' => e = .returned (.int .i64 (upToF s a p.data.toList : Nat)) ∧ w' = w := by
  have hpne : p.data.toList ≠ [] := fun e => by
    have := congrArg List.length e
    rw [lst_size, List.length_nil] at this
    omega
  have hpl : p.data.toList.length = p.size := lst_size p
  have HPN := Lib.hid hpne
  have HPL := Lib.hid hpl
  clear hpne hpl
  go_enter Tryd.func21, Tryd.ntmps21
  go_wp2_with fail
  go_loopw [7] (fun i wr => ∃ k : Nat, k ≤ 1000001 ∧ i = .int .i64 k ∧ Hid (upToF s a p.data.toList = upToF s k p.data.toList) ∧ wr = w) (fun i _ => s.size - (RowKit.intOf i).toNat)
  case atStart => exact ⟨a, by omega, rfl, rfl, rfl⟩
  case round =>
    obtain ⟨k, hk, rfl, he, rfl⟩ := hrel
    have e1 := IntWalk.i64_in ((k : Int) + (p.size : Int)) (by omega)
    by_cases hlt : k + p.size ≤ s.size
    · have d1 : decide ((k : Int) + (p.size : Int) ≤ (s.size : Int)) = true := decide_eq_true (by omega)
      have i0 : (0 : Int) ≤ (k : Int) := by omega
      have i1 : (k : Int) ≤ (k : Int) + (p.size : Int) := by omega
      have i2 : (k : Int) + (p.size : Int) ≤ (s.size : Int) := by omega
      have i3 : (0 : Int) ≤ (k : Int) + (p.size : Int) := by omega
      have i4 : ((k : Int) + (p.size : Int)).toNat = k + p.size := by omega
      have hst := Lib.hid (upTo_step s p.data.toList k (by omega))
      have hci := cut_is s p k hlt
      cases hc : p.data.toList.isPrefixOf (s.data.toList.drop k) with
      | true =>
        have hr : Hid (upToF s a p.data.toList = k + p.size) := by show _ = _; rw [he.out, hst.out, if_pos hc, HPL.out]
        rw [hc] at hci
        clear hst
        go_wp2_with fail
        go_ret
        exact ⟨ret_int (by rw [hr.out]; simp), rfl⟩
      | false =>
        have hr : Hid (upToF s a p.data.toList = upToF s (k + 1) p.data.toList) := by show _ = _; rw [he.out, hst.out, if_neg (by rw [hc]; simp)]
        rw [hc] at hci
        clear hst
        go_wp2_with fail
        go_round
        case measure => simp [RowKit.intOf] <;> omega
        case rel => exact ⟨k + 1, by omega, by go_num, hr, trivial⟩
    · have d1 : decide ((k : Int) + (p.size : Int) ≤ (s.size : Int)) = false := decide_eq_false (by omega)
      have hr : Hid (upToF s a p.data.toList = 0) := by show _ = _; rw [he.out, upTo_end s _ k HPN.out (by rw [HPL.out]; omega)]
      go_wp2_with fail
      go_ret
      exact ⟨ret_int (by rw [hr.out]; rfl), rfl⟩

/-- the reference's answer for a value -/
def optI : Option Nat → Int
  | none => -1
  | some k => (k : Nat)

theorem refvalue_out (s : ByteArray) (a : Nat) (w : World) (hs : s.size ≤ 1000000) (h : s.size ≤ a) :
    Calls Tryd.prog 51 #[.string s, .int .i64 a] w fun e w' => e = .returned (.int .i64 (optI (valueF s a))) ∧ Below w.heap.size w w' := by
  have hr : Hid (valueF s a = none) := by show _ = _; unfold valueF; rw [if_neg (by omega)]
  have d0 : decide (s.size ≤ a) = true := decide_eq_true h
  go_enter Tryd.func51, Tryd.ntmps51
  go_wp2_with fail
  go_ret
  exact ⟨ret_int (by rw [hr.out]; rfl), Below.refl _ _⟩

set_option maxRecDepth 100000 in
set_option maxHeartbeats 4000000 in
theorem refvalue_quote (s : ByteArray) (a : Nat) (w : World) (hs : s.size ≤ 1000000) (h : a < s.size) (hq : s[a] = 34 ∨ s[a] = 39) :
    Calls Tryd.prog 51 #[.string s, .int .i64 a] w fun e w' => e = .returned (.int .i64 (optI (valueF s a))) ∧ Below w.heap.size w w' := by
  have hr : Hid (valueF s a = quoteEnd s s[a] (a + 1)) := by
    show _ = _
    unfold valueF; rw [if_pos h, byteU_in s a h, if_pos (by rcases hq with h | h; exact Or.inr h; exact Or.inl h)]
  have d0 : decide (s.size ≤ a) = false := decide_eq_false (by omega)
  have i0 : (0 : Int) ≤ (a : Int) := by omega
  have i1 : (a : Int) < (s.size : Int) := by omega
  have hc : ((s[a].toNat : Int) == 34) = true ∨ ((s[a].toNat : Int) == 34) = false ∧ ((s[a].toNat : Int) == 39) = true := by
    rcases hq with h | h
    · left; rw [h]; decide
    · right; rw [h]; decide
  clear hq
  go_enter Tryd.func51, Tryd.ntmps51
  go_upto_region 3 with (fail)
  go_cut [20] (fun v wx => v = .bool true ∧ wx = w)
  case first =>
    rcases hc with hc | ⟨hc, hc2⟩
    all_goals
      go_wp2_with fail
      go_meet
      exact ⟨rfl, rfl⟩
  case rest =>
    obtain ⟨rfl, rfl⟩ := hcut
    clear hc
    go_wp2_with fail
    go_loopw [5] (fun i wr => ∃ k : Nat, k ≤ s.size ∧ i = .int .i64 k ∧ Hid (valueF s a = quoteEnd s s[a] k) ∧ Below wc.heap.size wc wr) (fun i _ => s.size - (RowKit.intOf i).toNat)
    case atStart => exact ⟨a + 1, by omega, by go_num, hr.out, Below.refl _ _⟩
    case round =>
      obtain ⟨k, hk, rfl, he, hB⟩ := hrel
      by_cases hlt : k < s.size
      · have d1 : decide ((k : Int) < (s.size : Int)) = true := by simpa using hlt
        have j0 : (0 : Int) ≤ (k : Int) := by omega
        have j1 : (k : Int) < (s.size : Int) := by omega
        have hst := Lib.hid (quote_step s s[a] k hlt)
        have hu := u8_eq s[k] s[a]
        cases hq : (s[k] == s[a]) with
        | true =>
          rw [hq] at hu
          have hres : Hid (valueF s a = some (k + 1)) := by show _ = _; rw [he.out, hst.out, if_pos hq]
          clear hst he
          go_wp2_with fail
          go_quiet (fail)
          go_wp2_with fail
          go_ret
          exact ⟨ret_int (by rw [hres.out]; rfl), below_drewN hB _⟩
        | false =>
          rw [hq] at hu
          have hres : Hid (valueF s a = quoteEnd s s[a] (k + 1)) := by show _ = _; rw [he.out, hst.out, if_neg (by rw [hq]; simp)]
          clear hst he
          go_wp2_with fail
          go_quiet (fail)
          go_wp2_with fail
          exact ⟨⟨k + 1, by omega, by go_num, hres.out, below_drewN hB _⟩, by simp [RowKit.intOf]; omega⟩
      · have d1 : decide ((k : Int) < (s.size : Int)) = false := decide_eq_false (by omega)
        have hres : Hid (valueF s a = none) := by show _ = _; rw [he.out, quote_end s _ k (by omega)]
        go_wp2_with fail
        go_ret
        exact ⟨ret_int (by rw [hres.out]; rfl), hB⟩

set_option maxRecDepth 100000 in
set_option maxHeartbeats 4000000 in
theorem refvalue_bare (s : ByteArray) (a : Nat) (w : World) (hs : s.size ≤ 1000000) (h : a < s.size) (h34 : s[a] ≠ 34) (h39 : s[a] ≠ 39) :
    Calls Tryd.prog 51 #[.string s, .int .i64 a] w fun e w' => e = .returned (.int .i64 (optI (valueF s a))) ∧ Below w.heap.size w w' := by
  have hr : Hid (valueF s a = if bareN s a = 0 then none else some (a + bareN s a)) := by
    show _ = _
    unfold valueF; rw [if_pos h, byteU_in s a h, if_neg (by rintro (h | h); exact h39 h; exact h34 h)]
  have d0 : decide (s.size ≤ a) = false := decide_eq_false (by omega)
  have i0 : (0 : Int) ≤ (a : Int) := by omega
  have i1 : (a : Int) < (s.size : Int) := by omega
  have c1 : ((s[a].toNat : Int) == 34) = false := by rw [show ((s[a].toNat : Int) == 34) = (s[a] == 34) from u8_eq s[a] 34]; simpa using h34
  have c2 : ((s[a].toNat : Int) == 39) = false := by rw [show ((s[a].toNat : Int) == 39) = (s[a] == 39) from u8_eq s[a] 39]; simpa using h39
  clear h34 h39
  go_enter Tryd.func51, Tryd.ntmps51
  go_wp2_with fail
  go_loopw [6] (fun i wr => ∃ k : Nat, a ≤ k ∧ k ≤ s.size ∧ i = .int .i64 k ∧ Hid (a + bareN s a = k + bareN s k) ∧ wr = w) (fun i _ => s.size - (RowKit.intOf i).toNat)
  case atStart => exact ⟨a, Nat.le_refl _, by omega, rfl, rfl, rfl⟩
  case round =>
    obtain ⟨k, hak, hk, rfl, he, rfl⟩ := hrel
    by_cases hlt : k < s.size
    · have d1 : decide ((k : Int) < (s.size : Int)) = true := by simpa using hlt
      have j0 : (0 : Int) ≤ (k : Int) := by omega
      have j1 : (k : Int) < (s.size : Int) := by omega
      have hst := Lib.hid (bare_step s k hlt)
      have hnu : Hid (stopU s[k] = (gapU s[k] || (s[k] == 39 || (s[k] == 34 || (s[k] == 61 || (s[k] == 60 || (s[k] == 62 || s[k] == 96))))))) := rfl
      go_upto_region 11 with (fail)
      go_cut [85] (fun v wx => v = .bool (!(stopU s[k])) ∧ wx = wr)
      case first =>
        cases h0 : gapU s[k] with
        | true =>
          go_wp2_with fail
          refine (refgap_calls s[k] _).mono ?_
          rintro e w1 ⟨rfl, rfl⟩
          rw [h0]
          go_wp2_with fail
          go_meet
          exact ⟨by rw [hnu.out]; simp [h0], rfl⟩
        | false =>
          cases h1 : (s[k] == 34) with
          | true =>
            have u1 : ((s[k].toNat : Int) != 34) = false := by rw [show ((s[k].toNat : Int) != 34) = !(s[k] == 34) from ne_b s[k] 34, h1]; rfl
            go_wp2_with fail
            refine (refgap_calls s[k] _).mono ?_
            rintro e w1 ⟨rfl, rfl⟩
            rw [h0]
            go_wp2_with fail
            go_meet
            exact ⟨by rw [hnu.out]; simp [h0, h1], rfl⟩
          | false =>
            have u1 : ((s[k].toNat : Int) != 34) = true := by rw [show ((s[k].toNat : Int) != 34) = !(s[k] == 34) from ne_b s[k] 34, h1]; rfl
            cases h2 : (s[k] == 39) with
            | true =>
              have u2 : ((s[k].toNat : Int) != 39) = false := by rw [show ((s[k].toNat : Int) != 39) = !(s[k] == 39) from ne_b s[k] 39, h2]; rfl
              go_wp2_with fail
              refine (refgap_calls s[k] _).mono ?_
              rintro e w1 ⟨rfl, rfl⟩
              rw [h0]
              go_wp2_with fail
              go_meet
              exact ⟨by rw [hnu.out]; simp [h0, h1, h2], rfl⟩
            | false =>
              have u2 : ((s[k].toNat : Int) != 39) = true := by rw [show ((s[k].toNat : Int) != 39) = !(s[k] == 39) from ne_b s[k] 39, h2]; rfl
              cases h3 : (s[k] == 61) with
              | true =>
                have u3 : ((s[k].toNat : Int) != 61) = false := by rw [show ((s[k].toNat : Int) != 61) = !(s[k] == 61) from ne_b s[k] 61, h3]; rfl
                go_wp2_with fail
                refine (refgap_calls s[k] _).mono ?_
                rintro e w1 ⟨rfl, rfl⟩
                rw [h0]
                go_wp2_with fail
                go_meet
                exact ⟨by rw [hnu.out]; simp [h0, h1, h2, h3], rfl⟩
              | false =>
                have u3 : ((s[k].toNat : Int) != 61) = true := by rw [show ((s[k].toNat : Int) != 61) = !(s[k] == 61) from ne_b s[k] 61, h3]; rfl
                cases h4 : (s[k] == 60) with
                | true =>
                  have u4 : ((s[k].toNat : Int) != 60) = false := by rw [show ((s[k].toNat : Int) != 60) = !(s[k] == 60) from ne_b s[k] 60, h4]; rfl
                  go_wp2_with fail
                  refine (refgap_calls s[k] _).mono ?_
                  rintro e w1 ⟨rfl, rfl⟩
                  rw [h0]
                  go_wp2_with fail
                  go_meet
                  exact ⟨by rw [hnu.out]; simp [h0, h1, h2, h3, h4], rfl⟩
                | false =>
                  have u4 : ((s[k].toNat : Int) != 60) = true := by rw [show ((s[k].toNat : Int) != 60) = !(s[k] == 60) from ne_b s[k] 60, h4]; rfl
                  cases h5 : (s[k] == 62) with
                  | true =>
                    have u5 : ((s[k].toNat : Int) != 62) = false := by rw [show ((s[k].toNat : Int) != 62) = !(s[k] == 62) from ne_b s[k] 62, h5]; rfl
                    go_wp2_with fail
                    refine (refgap_calls s[k] _).mono ?_
                    rintro e w1 ⟨rfl, rfl⟩
                    rw [h0]
                    go_wp2_with fail
                    go_meet
                    exact ⟨by rw [hnu.out]; simp [h0, h1, h2, h3, h4, h5], rfl⟩
                  | false =>
                    have u5 : ((s[k].toNat : Int) != 62) = true := by rw [show ((s[k].toNat : Int) != 62) = !(s[k] == 62) from ne_b s[k] 62, h5]; rfl
                    cases h6 : (s[k] == 96) with
                    | true =>
                      have u6 : ((s[k].toNat : Int) != 96) = false := by rw [show ((s[k].toNat : Int) != 96) = !(s[k] == 96) from ne_b s[k] 96, h6]; rfl
                      go_wp2_with fail
                      refine (refgap_calls s[k] _).mono ?_
                      rintro e w1 ⟨rfl, rfl⟩
                      rw [h0]
                      go_wp2_with fail
                      go_meet
                      exact ⟨by rw [hnu.out]; simp [h0, h1, h2, h3, h4, h5, h6], rfl⟩
                    | false =>
                      have u6 : ((s[k].toNat : Int) != 96) = true := by rw [show ((s[k].toNat : Int) != 96) = !(s[k] == 96) from ne_b s[k] 96, h6]; rfl
                      go_wp2_with fail
                      refine (refgap_calls s[k] _).mono ?_
                      rintro e w1 ⟨rfl, rfl⟩
                      rw [h0]
                      go_wp2_with fail
                      go_meet
                      exact ⟨by rw [hnu.out]; simp [h0, h1, h2, h3, h4, h5, h6], rfl⟩
      case rest =>
        obtain ⟨rfl, rfl⟩ := hcut
        cases hq : stopU s[k] with
        | false =>
          go_wp2_with fail
          go_round
          case measure => simp [RowKit.intOf] <;> omega
          case rel => exact ⟨k + 1, by omega, by omega, by go_num, (by show _ = _; rw [he.out, hst.out, if_neg (by rw [hq]; simp)]; omega), trivial⟩
        | true =>
          have hn : bareN s k = 0 := by rw [hst.out, if_pos hq]
          have hn2 : Hid (bareN s a = k - a) := by show _ = _; have := he.out; omega
          clear hn hst
          by_cases hka : k = a
          · have d3 : ((k : Int) == (a : Int)) = true := beq_iff_eq.2 (by omega)
            have hres : Hid (valueF s a = none) := by show _ = _; rw [hr.out, hn2.out, if_pos (by omega)]
            go_wp2_with fail
            go_ret
            exact ⟨ret_int (by rw [hres.out]; rfl), Below.refl _ _⟩
          · have d3 : ((k : Int) == (a : Int)) = false := beq_eq_false_iff_ne.2 (by omega)
            have hres : Hid (valueF s a = some k) := by show _ = _; rw [hr.out, hn2.out, if_neg (by omega), show a + (k - a) = k from by omega]
            go_wp2_with fail
            go_ret
            exact ⟨ret_int (by rw [hres.out]; rfl), Below.refl _ _⟩
    · have d1 : decide ((k : Int) < (s.size : Int)) = false := decide_eq_false (by omega)
      have hn2 : Hid (bareN s a = k - a) := by show _ = _; have := he.out; rw [bare_end s k (by omega)] at this; omega
      have hka : ¬ k = a := by omega
      have d3 : ((k : Int) == (a : Int)) = false := beq_eq_false_iff_ne.2 (by omega)
      have hres : Hid (valueF s a = some k) := by show _ = _; rw [hr.out, hn2.out, if_neg (by omega), show a + (k - a) = k from by omega]
      go_wp2_with fail
      go_ret
      exact ⟨ret_int (by rw [hres.out]; rfl), Below.refl _ _⟩

theorem refvalue_calls (s : ByteArray) (a : Nat) (w : World) (hs : s.size ≤ 1000000) :
    Calls Tryd.prog 51 #[.string s, .int .i64 a] w fun e w' => e = .returned (.int .i64 (optI (valueF s a))) ∧ Below w.heap.size w w' := by
  by_cases h : a < s.size
  · by_cases h1 : s[a] = 34
    · exact refvalue_quote s a w hs h (Or.inl h1)
    · by_cases h2 : s[a] = 39
      · exact refvalue_quote s a w hs h (Or.inr h2)
      · exact refvalue_bare s a w hs h h1 h2
  · exact refvalue_out s a w hs (by omega)

end Go.Proofs.YtjaidphlphncjaaDoor
