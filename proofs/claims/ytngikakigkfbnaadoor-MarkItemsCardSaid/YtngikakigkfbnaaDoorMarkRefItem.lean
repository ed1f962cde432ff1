/- Walk: the reference Item. -/
import Derived.Test.YtngikakigkfbnaaDoorMarkRefB
import Derived.Test.YtngikakigkfbnaaDoorMarkItem
import Derived.Deep.DeepCutAuto
import Derived.Deep.CutBlock
import Derived.Deep.LoopGhost
import Derived.Handy
namespace Go.Proofs.YtngikakigkfbnaaDoor
set_option linter.unusedVariables false
set_option linter.unusedSimpArgs false
open Go Go.RowKit Go.Lib

theorem ends_in (s : ByteArray) (n : Nat) (h : n < s.size) : endsB (s.extract n s.size) = blankU s[n] := by
  unfold endsB
  rw [toList_ne (by rw [Lib.tail_size]; omega), lead_tail, leadN_step s _ n h, blanks_contains]
  cases blankU s[n] <;> simp
theorem ends_out (s : ByteArray) (n : Nat) (h : s.size ≤ n) : endsB (s.extract n s.size) = true := by
  unfold endsB
  rw [size_isEmpty (by rw [Lib.tail_size]; omega)]; rfl

theorem item_nil (s : ByteArray) (h : s.size = 0) : itemF s = (0, 0, 0) :=
  itemF_no s (by unfold itemIs; rw [decide_eq_false (p := lead s digitsT < s.size) (by omega)]; simp)
theorem item_gt (s : ByteArray) (h : 9 < lead s digitsT) : itemF s = (0, 0, 0) :=
  itemF_no s (by unfold itemIs; rw [decide_eq_false (by omega)]; rfl)
theorem item_end (s : ByteArray) (h : lead s digitsT = s.size) : itemF s = (0, 0, 0) :=
  itemF_no s (by unfold itemIs; rw [decide_eq_false (p := lead s digitsT < s.size) (by omega)]; simp)
theorem item_mark (s : ByteArray) (k : Nat) (hk : lead s digitsT = k) (h : k < s.size) (hm : markOK k s[k] = false) : itemF s = (0, 0, 0) :=
  itemF_no s (by unfold itemIs; rw [hk, get!_of_lt h, hm]; simp)
theorem item_ends (s : ByteArray) (k : Nat) (hk : lead s digitsT = k) (he : endsB (s.extract (k + 1) s.size) = false) : itemF s = (0, 0, 0) :=
  itemF_no s (by unfold itemIs; rw [hk, he]; simp)
theorem item_yes (s : ByteArray) (k : Nat) (hk : lead s digitsT = k) (h9 : k ≤ 9) (h : k < s.size) (hm : markOK k s[k] = true) (he : endsB (s.extract (k + 1) s.size) = true) :
    itemF s = ((s[k].toNat : Int), (if k = 0 then (-1 : Int) else (decV (s.data.toList.take k) : Nat)), ((k + 1 : Nat) : Int)) := by
  have hi : itemIs s = true := by
    unfold itemIs; rw [hk, get!_of_lt h, hm, he, decide_eq_true h9, decide_eq_true h]; rfl
  rw [itemF_yes s hi]
  unfold itemNum
  rw [hk, get!_of_lt h]

theorem decV_step (s : ByteArray) (k : Nat) (h : k < s.size) : decV (s.data.toList.take (k + 1)) = decV (s.data.toList.take k) * 10 + (s[k].toNat - 48) := by
  rw [take_snoc s k h, decV_snoc]

theorem decV_bd (s : ByteArray) (k : Nat) (h : k ≤ lead s digitsT) (h10 : k ≤ 10) : decV (s.data.toList.take k) < 10000000000 := by
  have h1 := decV_lt (s.data.toList.take k) (take_digits s k h)
  have h2 : (s.data.toList.take k).length ≤ 10 := by rw [List.length_take]; omega
  have h3 := Nat.pow_le_pow_right (n := 10) (by omega) h2
  omega

theorem lead_step (s : ByteArray) (k : Nat) (h : k < s.size) : leadN s digitsT k = if digitU s[k] = true then leadN s digitsT (k + 1) + 1 else 0 := by
  rw [leadN_step s _ k h, digits_contains]

theorem ne_i (c d : UInt8) : ((c.toNat : Int) != (d.toNat : Int)) = !(c == d) := by rw [bne, u8_eq]
theorem mk0 (c : UInt8) : (!(markOK 0 c)) = (((c.toNat : Int) != 45) && (((c.toNat : Int) != 43) && ((c.toNat : Int) != 42))) := by
  have e1 := ne_i c 45
  have e2 := ne_i c 43
  have e3 := ne_i c 42
  rw [show ((c.toNat : Int) != 45) = !(c == 45) from e1, show ((c.toNat : Int) != 43) = !(c == 43) from e2, show ((c.toNat : Int) != 42) = !(c == 42) from e3]
  unfold markOK
  rw [if_pos rfl]
  cases (c == 45) <;> cases (c == 43) <;> cases (c == 42) <;> rfl
theorem mk1 (k : Nat) (h : 0 < k) (c : UInt8) : (!(markOK k c)) = (((c.toNat : Int) != 46) && ((c.toNat : Int) != 41)) := by
  have e1 := ne_i c 46
  have e2 := ne_i c 41
  rw [show ((c.toNat : Int) != 46) = !(c == 46) from e1, show ((c.toNat : Int) != 41) = !(c == 41) from e2]
  unfold markOK
  rw [if_neg (by omega)]
  cases (c == 46) <;> cases (c == 41) <;> rfl

theorem refItem_nil (s : ByteArray) (w : World) (hs : s.size = 0) :
    Calls Tryd.prog 18 #[.string s] w fun e w' => e = .returned (.tuple #[.int .u8 0, .int .i64 0, .int .i64 0]) ∧ Below w.heap.size w w' := by
  have hz := size_isEmpty hs
  clear hs
  go_enter Tryd.func18, Tryd.ntmps18
  go_wp2_with fail
  go_ret3
  exact ⟨rfl, Below.refl _ _⟩

set_option maxRecDepth 100000 in
set_option maxHeartbeats 4000000 in
theorem refItem_yes (s : ByteArray) (w : World) (hs : s.size ≤ 1000000) (h0 : 0 < s.size) :
    Calls Tryd.prog 18 #[.string s] w fun e w' => e = .returned (.tuple #[.int .u8 (itemF s).1, .int .i64 (itemF s).2.1, .int .i64 (itemF s).2.2]) ∧ Below w.heap.size w w' := by
  have hz := toList_ne h0
  have hle := lead_le s digitsT
  go_enter Tryd.func18, Tryd.ntmps18
  go_upto_block 0 with (fail)
  go_cut [5, 6] (fun a b wx => ∃ k : Nat, (k ≤ 9 ∧ k ≤ s.size ∧ a = .int .i64 k ∧ b = .int .i64 (decV (s.data.toList.take k) : Nat) ∧ Aside (lead s digitsT = k) ∨ 9 < k ∧ k ≤ s.size ∧ a = .int .i64 k ∧ Aside (9 < lead s digitsT)) ∧ Below w.heap.size w wx)
  case first =>
    go_wp2_with fail
    go_loopw [5, 6] (fun a b wr => ∃ k : Nat, k ≤ 10 ∧ k ≤ s.size ∧ a = .int .i64 k ∧ b = .int .i64 (decV (s.data.toList.take k) : Nat) ∧ Aside (lead s digitsT = k + leadN s digitsT k) ∧ wr = w) (fun a _ _ => s.size - (RowKit.intOf a).toNat)
    case atStart => exact ⟨0, by omega, by omega, rfl, rfl, (by show _ = _; unfold lead; omega), rfl⟩
    case round =>
      obtain ⟨k, hk10, hks, rfl, rfl, hl, rfl⟩ := hrel
      have hbd := decV_bd s k (by have := hl.out; omega) hk10
      by_cases hlt : k < s.size
      · have d1 : decide ((k : Int) < (s.size : Int)) = true := by simpa using hlt
        have j0 : (0 : Int) ≤ (k : Int) := by omega
        have j1 : (k : Int) < (s.size : Int) := by omega
        have hst := Lib.hid (lead_step s k hlt)
        have hdv := Lib.hid (decV_step s k hlt)
        have hx : digitU s[k] = (decide (48 ≤ s[k].toNat) && decide (s[k].toNat ≤ 57)) := rfl
        cases hd : digitU s[k] with
        | true =>
          rw [hd] at hx
          simp only [Bool.true_eq, Bool.and_eq_true, decide_eq_true_eq] at hx
          obtain ⟨x1, x2⟩ := hx
          have y1 : (48 : Int) ≤ (s[k].toNat : Int) := by omega
          have y2 : (s[k].toNat : Int) ≤ 57 := by omega
          by_cases h10 : k < 10
          · have y3 : (k : Int) < 10 := by omega
            generalize hD : decV (s.data.toList.take k) = v at *
            have hv : Hid (((decV (s.data.toList.take (k + 1)) : Nat) : Int) = (v : Int) * 10 + (s[k].toNat : Int) - 48) := by
              show _ = _
              rw [hdv.out]; omega
            have HD := Lib.hid hD
            clear hD hdv
            have w1 := IntWalk.i64_in ((v : Int) * 10) (by omega)
            have w2 := IntWalk.i64_in ((s[k].toNat : Int)) (by omega)
            have w3 := IntWalk.i64_in ((v : Int) * 10 + (s[k].toNat : Int)) (by omega)
            have w4 := IntWalk.i64_in ((v : Int) * 10 + (s[k].toNat : Int) - 48) (by omega)
            go_wp2_with fail
            exact ⟨⟨k + 1, by omega, by omega, by go_num, by rw [hv.out], (by show _ = _; rw [hl.out, hst.out, if_pos hd]; omega), trivial⟩, by simp [RowKit.intOf]; omega⟩
          · have y3 : ¬ (k : Int) < 10 := by omega
            have hf : Aside (9 < lead s digitsT) := by show _ < _; have := hl.out; omega
            go_wp2_with fail
            go_meet
            exact ⟨k, Or.inr ⟨by omega, hks, rfl, hf⟩, Below.refl _ _⟩
        | false =>
          have hk2 : Hid (lead s digitsT = k) := by show _ = _; rw [hl.out, hst.out, hd]; simp
          rw [hd] at hx
          have hy : decide ((48 : Int) ≤ (s[k].toNat : Int)) = false ∨ decide ((48 : Int) ≤ (s[k].toNat : Int)) = true ∧ decide ((s[k].toNat : Int) ≤ 57) = false := by
            by_cases e1 : 48 ≤ s[k].toNat
            · right
              rw [decide_eq_true e1] at hx
              simp only [Bool.true_and, Bool.false_eq, decide_eq_false_iff_not] at hx
              exact ⟨decide_eq_true (by omega), decide_eq_false (by omega)⟩
            · left; exact decide_eq_false (by omega)
          clear hx hst hdv
          have hfin : ∃ k' : Nat, (k' ≤ 9 ∧ k' ≤ s.size ∧ Value.int .i64 (k : Int) = .int .i64 k' ∧ Value.int .i64 ((decV (s.data.toList.take k) : Nat) : Int) = .int .i64 (decV (s.data.toList.take k') : Nat) ∧ Aside (lead s digitsT = k') ∨ 9 < k' ∧ k' ≤ s.size ∧ Value.int .i64 (k : Int) = .int .i64 k' ∧ Aside (9 < lead s digitsT)) := by
            refine ⟨k, ?_⟩
            by_cases h9 : k ≤ 9
            · exact Or.inl ⟨h9, hks, rfl, rfl, hk2.out⟩
            · exact Or.inr ⟨by omega, hks, rfl, by have := hk2.out; show _ < _; omega⟩
          have HF := Lib.hid hfin
          clear hfin
          rcases hy with hy | ⟨hy1, hy2⟩
          all_goals
            go_wp2_with fail
            go_meet
            obtain ⟨k', h'⟩ := HF.out
            exact ⟨k', h', Below.refl _ _⟩
      · have d1 : decide ((k : Int) < (s.size : Int)) = false := decide_eq_false (by omega)
        have hk2 : Hid (lead s digitsT = k) := by show _ = _; rw [hl.out, leadN_end s digitsT k (by omega)]; omega
        have hfin : ∃ k' : Nat, (k' ≤ 9 ∧ k' ≤ s.size ∧ Value.int .i64 (k : Int) = .int .i64 k' ∧ Value.int .i64 ((decV (s.data.toList.take k) : Nat) : Int) = .int .i64 (decV (s.data.toList.take k') : Nat) ∧ Aside (lead s digitsT = k') ∨ 9 < k' ∧ k' ≤ s.size ∧ Value.int .i64 (k : Int) = .int .i64 k' ∧ Aside (9 < lead s digitsT)) := by
          refine ⟨k, ?_⟩
          by_cases h9 : k ≤ 9
          · exact Or.inl ⟨h9, hks, rfl, rfl, hk2.out⟩
          · exact Or.inr ⟨by omega, hks, rfl, by have := hk2.out; show _ < _; omega⟩
        have HF := Lib.hid hfin
        clear hfin
        go_wp2_with fail
        go_meet
        obtain ⟨k', h'⟩ := HF.out
        exact ⟨k', h', Below.refl _ _⟩
  case rest =>
    obtain ⟨k, hk, hB⟩ := hcut
    rcases hk with ⟨h9, hks, rfl, rfl, hl⟩ | ⟨h9, hks, rfl, hl⟩
    · have d9 : decide ((9 : Int) < (k : Int)) = false := decide_eq_false (by omega)
      by_cases hke : k < s.size
      · have hen : ((k : Int) == (s.size : Int)) = false := by simp; omega
        have j1 : (k : Int) < (s.size : Int) := by omega
        have j0 : (0 : Int) ≤ (k : Int) := by omega
        go_upto_region 10 with (fail)
        go_cut [79] (fun v wx => v = .bool (!(markOK k s[k])) ∧ wx = wc)
        case first =>
          by_cases hk0 : k = 0
          · obtain rfl := hk0
            have hm := Lib.hid (mk0 s[0])
            cases e1 : ((s[0].toNat : Int) != 45)
            all_goals cases e2 : ((s[0].toNat : Int) != 43)
            all_goals cases e3 : ((s[0].toNat : Int) != 42)
            all_goals
              go_wp2_with fail
              go_meet
              exact ⟨(by rw [hm.out, e1, e2, e3]; rfl), rfl⟩
          · have hk1 : 0 < k := by omega
            have hk2 : ((k : Int) == 0) = false := by simp; omega
            have hm := Lib.hid (mk1 k hk1 s[k])
            cases e1 : ((s[k].toNat : Int) != 46)
            all_goals cases e2 : ((s[k].toNat : Int) != 41)
            all_goals
              go_wp2_with fail
              go_meet
              exact ⟨(by rw [hm.out, e1, e2]; rfl), rfl⟩
        case rest =>
          obtain ⟨rfl, rfl⟩ := hcut
          cases hm : markOK k s[k] with
          | false =>
            have e0 := Lib.hid (item_mark s k hl.out hke hm)
            go_wp2_with fail
            go_ret3
            exact ⟨(by rw [e0.out]; rfl), hB⟩
          | true =>
            have w1 := IntWalk.i64_in ((k : Int) + 1) (by omega)
            by_cases hk1 : k + 1 < s.size
            · have q0 : (0 : Int) ≤ (k : Int) + 1 := by omega
              have q1 : (k : Int) + 1 < (s.size : Int) := by omega
              have q2 : ((k : Int) + 1).toNat = k + 1 := by omega
              have hei := Lib.hid (ends_in s (k + 1) hk1)
              cases hb : blankU s[k + 1] with
              | false =>
                have e0 := Lib.hid (item_ends s k hl.out (by rw [hei.out, hb]))
                go_wp2_with fail
                refine (refblank_calls s[k + 1] _).mono ?_
                rintro e w1 ⟨rfl, rfl⟩
                rw [hb]
                go_wp2_with fail
                go_ret3
                exact ⟨(by rw [e0.out]; rfl), hB⟩
              | true =>
                have e0 := Lib.hid (item_yes s k hl.out h9 hke hm (by rw [hei.out, hb]))
                go_upto_region 12 with (fail)
                go_cut [92] (fun v wx => v = .bool false ∧ wx = wc)
                case first =>
                  go_wp2_with fail
                  refine (refblank_calls s[k + 1] _).mono ?_
                  rintro e w1 ⟨rfl, rfl⟩
                  rw [hb]
                  go_wp2_with fail
                  go_meet
                  exact ⟨rfl, rfl⟩
                case rest =>
                  obtain ⟨rfl, rfl⟩ := hcut
                  by_cases hk0 : k = 0
                  · obtain rfl := hk0
                    go_wp2_with fail
                    go_ret3
                    exact ⟨(by rw [e0.out]; rfl), hB⟩
                  · have hk2 : ((k : Int) == 0) = false := by simp; omega
                    go_wp2_with fail
                    go_ret3
                    exact ⟨(by rw [e0.out, if_neg hk0]; simp), hB⟩
            · have e0 := Lib.hid (item_yes s k hl.out h9 hke hm (ends_out s (k + 1) (by omega)))
              have q1 : decide ((k : Int) + 1 < (s.size : Int)) = false := decide_eq_false (by omega)
              by_cases hk0 : k = 0
              · obtain rfl := hk0
                go_wp2_with fail
                go_ret3
                exact ⟨(by rw [e0.out]; rfl), hB⟩
              · have hk2 : ((k : Int) == 0) = false := by simp; omega
                go_wp2_with fail
                go_ret3
                exact ⟨(by rw [e0.out, if_neg hk0]; simp), hB⟩
      · have hen : ((k : Int) == (s.size : Int)) = true := by simp; omega
        have e0 := Lib.hid (item_end s (by rw [hl.out]; omega))
        go_wp2_with fail
        go_ret3
        exact ⟨(by rw [e0.out]; rfl), hB⟩
    · have d9 : decide ((9 : Int) < (k : Int)) = true := decide_eq_true (by omega)
      have e0 := Lib.hid (item_gt s hl.out)
      go_wp2_with fail
      go_ret3
      exact ⟨(by rw [e0.out]; rfl), hB⟩

theorem refItem_calls (s : ByteArray) (w : World) (hs : s.size ≤ 1000000) :
    Calls Tryd.prog 18 #[.string s] w fun e w' => e = .returned (.tuple #[.int .u8 (itemF s).1, .int .i64 (itemF s).2.1, .int .i64 (itemF s).2.2]) ∧ Below w.heap.size w w' := by
  by_cases h : 0 < s.size
  · exact refItem_yes s w hs h
  · rw [item_nil s (by omega)]; exact refItem_nil s w (by omega)

end Go.Proofs.YtngikakigkfbnaaDoor
