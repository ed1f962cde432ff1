/- Walks: tag's reference: attribute. -/
import Derived.Test.YtjaidphlphncjaaDoorTagRefB
namespace Go.Proofs.YtjaidphlphncjaaDoor
set_option linter.unusedVariables false
set_option linter.unusedSimpArgs false
open Go Go.RowKit Go.Lib

/-- the reference's answer for an attribute -/
def attrI (s : ByteArray) (a : Nat) : Int := if attrStart s a = true then optI (attrNext s a) else (a : Nat)

set_option maxRecDepth 100000 in
set_option maxHeartbeats 4000000 in
theorem refattribute_calls (s : ByteArray) (a : Nat) (w : World) (hs : s.size ≤ 1000000) (ha : a ≤ s.size) :
    Calls Tryd.prog 27 #[.string s, .int .i64 a] w fun e w' => e = .returned (.int .i64 (attrI s a)) ∧ Below w.heap.size w w' := by
  have g1 := skip_le s gapT a ha
  have g2 := skip_ge s gapT a
  have hq1 := fun w => refgaps_calls s a w hs (by omega)
  have hres : Hid (attrI s a = if attrStart s a = true then optI (attrNext s a) else (a : Nat)) := rfl
  have hst : Hid (attrStart s a = (decide (a < skipN s gapT a) && (decide (skipN s gapT a < s.size) && firstU (byteU s (skipN s gapT a))))) := rfl
  have hnx : Hid (attrNext s a = if skipN s gapT (skipN s attrT (skipN s gapT a)) < s.size ∧ byteU s (skipN s gapT (skipN s attrT (skipN s gapT a))) = 61 then valueF s (skipN s gapT (skipN s gapT (skipN s attrT (skipN s gapT a)) + 1)) else some (skipN s attrT (skipN s gapT a))) := rfl
  generalize skipN s gapT a = k1 at *
  go_enter Tryd.func27, Tryd.ntmps27
  go_wp2_with fail
  refine (hq1 _).mono ?_
  rintro e w1 ⟨rfl, rfl⟩
  clear hq1
  go_upto_region 2 with (fail)
  go_cut [37] (fun v wx => v = .bool (!(attrStart s a)) ∧ wx = w1)
  case first =>
    by_cases hka : k1 = a
    · have hs1 : Hid (attrStart s a = false) := by show _ = _; rw [hst.out, decide_eq_false (by omega)]; rfl
      have d1 : ((k1 : Int) == (a : Int)) = true := beq_iff_eq.2 (by omega)
      clear hst
      go_wp2_with fail
      go_meet
      exact ⟨by rw [hs1.out]; rfl, rfl⟩
    · have d1 : ((k1 : Int) == (a : Int)) = false := beq_eq_false_iff_ne.2 (by omega)
      by_cases hlt : k1 < s.size
      · have d2 : decide (s.size ≤ k1) = false := decide_eq_false (by omega)
        have j0 : (0 : Int) ≤ (k1 : Int) := by omega
        have j1 : (k1 : Int) < (s.size : Int) := by omega
        have hnu : Hid (attrStart s a = (letterU s[k1] || (s[k1] == 95 || s[k1] == 58))) := by
          show _ = _
          rw [hst.out, decide_eq_true (by omega), decide_eq_true hlt, byteU_in s k1 hlt]; rfl
        clear hst
        cases h0 : letterU s[k1] with
        | true =>
          go_wp2_with fail
          refine (refletter_calls s[k1] _).mono ?_
          rintro e w1 ⟨rfl, rfl⟩
          rw [h0]
          go_wp2_with fail
          go_meet
          exact ⟨by rw [hnu.out]; simp [h0], rfl⟩
        | false =>
          cases h1 : (s[k1] == 95) with
          | true =>
            have u1 : ((s[k1].toNat : Int) != 95) = false := by rw [show ((s[k1].toNat : Int) != 95) = !(s[k1] == 95) from ne_b s[k1] 95, h1]; rfl
            go_wp2_with fail
            refine (refletter_calls s[k1] _).mono ?_
            rintro e w1 ⟨rfl, rfl⟩
            rw [h0]
            go_wp2_with fail
            go_meet
            exact ⟨by rw [hnu.out]; simp [h0, h1], rfl⟩
          | false =>
            have u1 : ((s[k1].toNat : Int) != 95) = true := by rw [show ((s[k1].toNat : Int) != 95) = !(s[k1] == 95) from ne_b s[k1] 95, h1]; rfl
            cases h2 : (s[k1] == 58) with
            | true =>
              have u2 : ((s[k1].toNat : Int) != 58) = false := by rw [show ((s[k1].toNat : Int) != 58) = !(s[k1] == 58) from ne_b s[k1] 58, h2]; rfl
              go_wp2_with fail
              refine (refletter_calls s[k1] _).mono ?_
              rintro e w1 ⟨rfl, rfl⟩
              rw [h0]
              go_wp2_with fail
              go_meet
              exact ⟨by rw [hnu.out]; simp [h0, h1, h2], rfl⟩
            | false =>
              have u2 : ((s[k1].toNat : Int) != 58) = true := by rw [show ((s[k1].toNat : Int) != 58) = !(s[k1] == 58) from ne_b s[k1] 58, h2]; rfl
              go_wp2_with fail
              refine (refletter_calls s[k1] _).mono ?_
              rintro e w1 ⟨rfl, rfl⟩
              rw [h0]
              go_wp2_with fail
              go_meet
              exact ⟨by rw [hnu.out]; simp [h0, h1, h2], rfl⟩
      · have hs1 : Hid (attrStart s a = false) := by show _ = _; rw [hst.out, decide_eq_false (p := k1 < s.size) hlt]; simp
        have d2 : decide (s.size ≤ k1) = true := decide_eq_true (by omega)
        clear hst
        go_wp2_with fail
        go_meet
        exact ⟨by rw [hs1.out]; rfl, rfl⟩
  case rest =>
    obtain ⟨rfl, rfl⟩ := hcut
    cases hs1 : attrStart s a with
    | false =>
      have hr : Hid (attrI s a = (a : Nat)) := by show _ = _; rw [hres.out, hs1]; rfl
      clear hst hs1 hnx hres
      go_wp2_with fail
      go_ret
      exact ⟨ret_int (by rw [hr.out]), Below.refl _ _⟩
    | true =>
      have hr : Hid (attrI s a = optI (attrNext s a)) := by show _ = _; rw [hres.out, if_pos hs1]
      have hk : k1 < s.size := by
        have h := hst.out
        rw [hs1] at h
        simp only [Bool.true_eq, Bool.and_eq_true, decide_eq_true_eq] at h
        exact h.2.1
      clear hst hs1 hres
      have g3 := skip_le s attrT k1 g1
      have hsk : Hid (skipN s attrT k1 = k1 + leadN s attrT k1) := rfl
      generalize skipN s attrT k1 = k2 at *
      go_upto_block 0 with (fail)
      go_cut [5] (fun v wx => v = .int .i64 (k2 : Nat) ∧ wx = wc)
      case first =>
        clear hnx hr
        go_wp2_with fail
        go_loopw [5] (fun i wr => ∃ k : Nat, k ≤ s.size ∧ i = .int .i64 k ∧ Hid (k2 = k + leadN s attrT k) ∧ wr = wc) (fun i _ => s.size - (RowKit.intOf i).toNat)
        case atStart => exact ⟨k1, by omega, rfl, hsk.out, rfl⟩
        case round =>
          obtain ⟨k, hk9, rfl, he, rfl⟩ := hrel
          clear hsk
          by_cases hlt : k < s.size
          · have d1 : decide ((k : Int) < (s.size : Int)) = true := by simpa using hlt
            have j0 : (0 : Int) ≤ (k : Int) := by omega
            have j1 : (k : Int) < (s.size : Int) := by omega
            have hsn := Lib.hid (leadN_at s attrT attrU attr_contains k hlt)
            have hnu : Hid (attrU s[k] = (letterU s[k] || (digU s[k] || (s[k] == 95 || (s[k] == 46 || (s[k] == 58 || s[k] == 45)))))) := rfl
            go_upto_region 4 with (fail)
            go_cut [78] (fun v wx => v = .bool (attrU s[k]) ∧ wx = wr)
            case first =>
              cases h0 : letterU s[k] with
              | true =>
                go_wp2_with fail
                refine (refletter_calls s[k] _).mono ?_
                rintro e w1 ⟨rfl, rfl⟩
                rw [h0]
                go_wp2_with fail
                go_meet
                exact ⟨by rw [hnu.out]; simp [h0], rfl⟩
              | false =>
                cases h1 : digU s[k] with
                | true =>
                  go_wp2_with fail
                  refine (refletter_calls s[k] _).mono ?_
                  rintro e w1 ⟨rfl, rfl⟩
                  rw [h0]
                  go_wp2_with fail
                  refine (refdigit_calls s[k] _).mono ?_
                  rintro e w1 ⟨rfl, rfl⟩
                  rw [h1]
                  go_wp2_with fail
                  go_meet
                  exact ⟨by rw [hnu.out]; simp [h0, h1], rfl⟩
                | false =>
                  cases h2 : (s[k] == 95) with
                  | true =>
                    have u2 : ((s[k].toNat : Int) == 95) = true := by rw [show ((s[k].toNat : Int) == 95) = (s[k] == 95) from u8_eq s[k] 95, h2]
                    go_wp2_with fail
                    refine (refletter_calls s[k] _).mono ?_
                    rintro e w1 ⟨rfl, rfl⟩
                    rw [h0]
                    go_wp2_with fail
                    refine (refdigit_calls s[k] _).mono ?_
                    rintro e w1 ⟨rfl, rfl⟩
                    rw [h1]
                    go_wp2_with fail
                    go_meet
                    exact ⟨by rw [hnu.out]; simp [h0, h1, h2], rfl⟩
                  | false =>
                    have u2 : ((s[k].toNat : Int) == 95) = false := by rw [show ((s[k].toNat : Int) == 95) = (s[k] == 95) from u8_eq s[k] 95, h2]
                    cases h3 : (s[k] == 46) with
                    | true =>
                      have u3 : ((s[k].toNat : Int) == 46) = true := by rw [show ((s[k].toNat : Int) == 46) = (s[k] == 46) from u8_eq s[k] 46, h3]
                      go_wp2_with fail
                      refine (refletter_calls s[k] _).mono ?_
                      rintro e w1 ⟨rfl, rfl⟩
                      rw [h0]
                      go_wp2_with fail
                      refine (refdigit_calls s[k] _).mono ?_
                      rintro e w1 ⟨rfl, rfl⟩
                      rw [h1]
                      go_wp2_with fail
                      go_meet
                      exact ⟨by rw [hnu.out]; simp [h0, h1, h2, h3], rfl⟩
                    | false =>
                      have u3 : ((s[k].toNat : Int) == 46) = false := by rw [show ((s[k].toNat : Int) == 46) = (s[k] == 46) from u8_eq s[k] 46, h3]
                      cases h4 : (s[k] == 58) with
                      | true =>
                        have u4 : ((s[k].toNat : Int) == 58) = true := by rw [show ((s[k].toNat : Int) == 58) = (s[k] == 58) from u8_eq s[k] 58, h4]
                        go_wp2_with fail
                        refine (refletter_calls s[k] _).mono ?_
                        rintro e w1 ⟨rfl, rfl⟩
                        rw [h0]
                        go_wp2_with fail
                        refine (refdigit_calls s[k] _).mono ?_
                        rintro e w1 ⟨rfl, rfl⟩
                        rw [h1]
                        go_wp2_with fail
                        go_meet
                        exact ⟨by rw [hnu.out]; simp [h0, h1, h2, h3, h4], rfl⟩
                      | false =>
                        have u4 : ((s[k].toNat : Int) == 58) = false := by rw [show ((s[k].toNat : Int) == 58) = (s[k] == 58) from u8_eq s[k] 58, h4]
                        cases h5 : (s[k] == 45) with
                        | true =>
                          have u5 : ((s[k].toNat : Int) == 45) = true := by rw [show ((s[k].toNat : Int) == 45) = (s[k] == 45) from u8_eq s[k] 45, h5]
                          go_wp2_with fail
                          refine (refletter_calls s[k] _).mono ?_
                          rintro e w1 ⟨rfl, rfl⟩
                          rw [h0]
                          go_wp2_with fail
                          refine (refdigit_calls s[k] _).mono ?_
                          rintro e w1 ⟨rfl, rfl⟩
                          rw [h1]
                          go_wp2_with fail
                          go_meet
                          exact ⟨by rw [hnu.out]; simp [h0, h1, h2, h3, h4, h5], rfl⟩
                        | false =>
                          have u5 : ((s[k].toNat : Int) == 45) = false := by rw [show ((s[k].toNat : Int) == 45) = (s[k] == 45) from u8_eq s[k] 45, h5]
                          go_wp2_with fail
                          refine (refletter_calls s[k] _).mono ?_
                          rintro e w1 ⟨rfl, rfl⟩
                          rw [h0]
                          go_wp2_with fail
                          refine (refdigit_calls s[k] _).mono ?_
                          rintro e w1 ⟨rfl, rfl⟩
                          rw [h1]
                          go_wp2_with fail
                          go_meet
                          exact ⟨by rw [hnu.out]; simp [h0, h1, h2, h3, h4, h5], rfl⟩
            case rest =>
              obtain ⟨rfl, rfl⟩ := hcut
              cases hq : attrU s[k] with
              | true =>
                go_wp2_with fail
                go_round
                case measure => simp [RowKit.intOf] <;> omega
                case rel => exact ⟨k + 1, by omega, by go_num, (by show _ = _; rw [he.out, hsn.out, if_pos hq]; omega), trivial⟩
              | false =>
                go_wp2_with fail
                go_meet
                exact ⟨(by rw [he.out, hsn.out, if_neg (by rw [hq]; simp)]; simp), rfl⟩
          · have d1 : decide ((k : Int) < (s.size : Int)) = false := decide_eq_false (by omega)
            have hen := Lib.hid (leadN_end s attrT k (by omega))
            go_wp2_with fail
            go_meet
            exact ⟨(by rw [he.out, hen.out]; simp), rfl⟩
      case rest =>
        obtain ⟨rfl, rfl⟩ := hcut
        have g4 := skip_le s gapT k2 g3
        have hq2 := fun w => refgaps_calls s k2 w hs (by omega)
        generalize skipN s gapT k2 = e1 at *
        clear hsk
        go_wp2_with fail
        refine (hq2 _).mono ?_
        rintro e w2 ⟨rfl, rfl⟩
        clear hq2
        by_cases hlt : e1 < s.size
        · have d1 : decide ((e1 : Int) < (s.size : Int)) = true := by simpa using hlt
          have j0 : (0 : Int) ≤ (e1 : Int) := by omega
          have j1 : (e1 : Int) < (s.size : Int) := by omega
          have hbu := byteU_in s e1 hlt
          have hu : ((s[e1].toNat : Int) == 61) = (s[e1] == 61) := u8_eq s[e1] 61
          cases h61 : (s[e1] == 61) with
          | true =>
            rw [h61] at hu
            have hn := Lib.hid (hnx.out.trans (if_pos ⟨hlt, by rw [hbu]; exact eq_of_beq h61⟩))
            have hq3 := fun w => refgaps_calls s (e1 + 1) w hs (by omega)
            have hq4 := fun w => refvalue_calls s (skipN s gapT (e1 + 1)) w hs
            generalize skipN s gapT (e1 + 1) = e2 at *
            clear hnx hbu
            go_wp2_with fail
            refine (hq3 _).mono ?_
            rintro e w3 ⟨rfl, rfl⟩
            go_wp2_with fail
            refine (hq4 _).mono ?_
            rintro e w4 ⟨rfl, hb⟩
            go_wp2_with fail
            go_ret
            exact ⟨ret_int (by rw [hr.out, hn.out]), hb⟩
          | false =>
            rw [h61] at hu
            have hn := Lib.hid (hnx.out.trans (if_neg (by rintro ⟨_, h⟩; rw [hbu] at h; rw [h] at h61; exact absurd h61 (by decide))))
            clear hnx hbu
            go_wp2_with fail
            go_ret
            exact ⟨ret_int (by rw [hr.out, hn.out]; rfl), Below.refl _ _⟩
        · have d1 : decide ((e1 : Int) < (s.size : Int)) = false := decide_eq_false (by omega)
          have hn := Lib.hid (hnx.out.trans (if_neg (by rintro ⟨h, _⟩; exact hlt h)))
          clear hnx
          go_wp2_with fail
          go_ret
          exact ⟨ret_int (by rw [hr.out, hn.out]; rfl), Below.refl _ _⟩

end Go.Proofs.YtjaidphlphncjaaDoor
