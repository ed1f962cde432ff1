/- Walk: the reference's Kind. -/
import Derived.Test.YtjaidphlphncjaaDoorTagRefBlock
import Derived.Test.YtjaidphlphncjaaDoorTagRefHas
import Derived.Test.YtjaidphlphncjaaDoorTagRefRaw
namespace Go.Proofs.YtjaidphlphncjaaDoor
set_option linter.unusedVariables false
set_option linter.unusedSimpArgs false
open Go Go.RowKit Go.Lib

theorem word_step (s : ByteArray) (k : Nat) (h : k < s.size) : leadN s wordT k = if (letterU s[k] || digU s[k]) = true then leadN s wordT (k + 1) + 1 else 0 := leadN_at s wordT wordU word_contains k h

set_option maxHeartbeats 8000000 in
set_option maxRecDepth 100000 in
theorem refKind_yes (s : ByteArray) (w : World) (hs : s.size ≤ 1000000) (h0 : 0 < s.size) (h60 : byteU s 0 = 60) :
    Calls Tryd.prog 14 #[.string s] w fun e w' => e = .returned (.int .i64 (refKindF s : Nat)) ∧ Below w.heap.size w w' := by
  have hk : Hid (refKindF s = if (stopE s (skipN s wordT 1) && fourF ((s.extract 1 (skipN s wordT 1)).data.toList.map lowU)) = true then 1
    else if Lib.hasPrefix s.data.toList [60, 33, 45, 45] = true then 2
    else if Lib.hasPrefix s.data.toList [60, 63] = true then 3
    else if declF s = true then 4
    else if Lib.hasPrefix s.data.toList [60, 33, 91, 67, 68, 65, 84, 65, 91] = true then 5
    else if sixF s = true then 6
    else if openN s = 0 then 0
    else if (s.data.toList.drop (openN s)).all blankU = true then 7
    else 0) := by
    show _ = _
    unfold refKindF
    rw [h60, decide_eq_true h0]; rfl
  have d0 : ((s.size : Int) == 0) = false := beq_eq_false_iff_ne.2 (by omega)
  have d0' : decide (s.size = 0) = false := decide_eq_false (by omega)
  have g0 : (0 : Int) < (s.size : Int) := by omega
  have hz0 : s[0].toNat = 60 := by rw [← byteU_in s 0 h0, h60]; rfl
  have hb60 : ((s[0].toNat : Int) != 60) = false := by rw [hz0]; rfl
  go_enter Tryd.func14, Tryd.ntmps14
  go_upto_block 0 with (fail)
  clear hb60 hz0 d0 d0' g0
  go_cut [3] (fun v wx => v = .int .i64 (skipN s wordT 1 : Nat) ∧ w = wx)
  case first =>
   as_aux_lemma =>
    go_wp2_with fail
    go_loopw [3] (fun i wr => ∃ k : Nat, k ≤ s.size ∧ i = .int .i64 k ∧ Hid (skipN s wordT 1 = k + leadN s wordT k) ∧ wr = w) (fun i _ => s.size - (RowKit.intOf i).toNat)
    case atStart => exact ⟨1, by omega, rfl, rfl, rfl⟩
    case round =>
      obtain ⟨k, hkk, rfl, he, rfl⟩ := hrel
      by_cases hlt : k < s.size
      · have j0 : (0 : Int) ≤ (k : Int) := by omega
        have j1 : (k : Int) < (s.size : Int) := by omega
        have hst := Lib.hid (word_step s k hlt)
        go_wp2_with fail
        refine (refletter_calls s[k] _).mono ?_
        rintro e x1 ⟨rfl, rfl⟩
        cases hl : letterU s[k] with
        | true =>
          have hr : Hid (skipN s wordT 1 = (k + 1) + leadN s wordT (k + 1)) := by show _ = _; rw [he.out, hst.out, hl]; simp; omega
          clear hst
          go_wp2_with fail
          go_round
          case measure => simp [RowKit.intOf] <;> omega
          case rel => exact ⟨k + 1, by omega, by go_num, hr, trivial⟩
        | false =>
          go_wp2_with fail
          refine (refdigit_calls s[k] _).mono ?_
          rintro e x2 ⟨rfl, rfl⟩
          cases hd : digU s[k] with
          | true =>
            have hr : Hid (skipN s wordT 1 = (k + 1) + leadN s wordT (k + 1)) := by show _ = _; rw [he.out, hst.out, hl, hd]; simp; omega
            clear hst
            go_wp2_with fail
            go_round
            case measure => simp [RowKit.intOf] <;> omega
            case rel => exact ⟨k + 1, by omega, by go_num, hr, trivial⟩
          | false =>
            have hr : Hid (skipN s wordT 1 = k) := by show _ = _; rw [he.out, hst.out, hl, hd]; rfl
            clear hst
            go_wp2_with fail
            go_meet
            exact ⟨by rw [hr.out], rfl⟩
      · have hr : Hid (skipN s wordT 1 = k) := by show _ = _; rw [he.out, leadN_end s wordT k (by omega)]; rfl
        go_wp2_with fail
        go_meet
        exact ⟨by rw [hr.out], rfl⟩
  case rest =>
   as_aux_lemma =>
    obtain ⟨rfl, rfl⟩ := hcut
    have k1a := skip_ge s wordT 1
    have k1b := skip_le s wordT 1 h0
    have HK := hk
    clear hk
    generalize skipN s wordT 1 = k1 at *
    have i0 : (0 : Int) ≤ (k1 : Int) := by omega
    have i1 : (1 : Int) ≤ (k1 : Int) := by omega
    have i2 : (k1 : Int) ≤ (s.size : Int) := by omega
    have hsm := small_calls (s.extract 1 k1) w (by rw [ByteArray.size_extract]; omega)
    have hw4 : Hid (fourF ((s.extract 1 k1).data.toList.map lowU) = fourF (⟨((s.extract 1 k1).data.toList.map lowU).toArray⟩ : ByteArray).data.toList) := rfl
    generalize (⟨((s.extract 1 k1).data.toList.map lowU).toArray⟩ : ByteArray) = WD at *
    go_wp2_with fail
    refine hsm.mono ?_
    rintro e w1 ⟨rfl, hB⟩
    clear hsm
    go_upto_region 7 with (fail)
    go_cut [5] (fun v wx => v = .bool (stopE s k1) ∧ w1 = wx)
    case first =>
     as_aux_lemma =>
      by_cases he : k1 = s.size
      · have e1 : ((k1 : Int) == (s.size : Int)) = true := beq_iff_eq.2 (by omega)
        have e2 : decide (k1 = s.size) = true := decide_eq_true he
        have hst : Hid (stopE s k1 = true) := by show _ = _; unfold stopE; rw [e2]; rfl
        clear he
        go_wp2_with fail
        go_meet
        exact ⟨by rw [hst.out], rfl⟩
      · have e1 : ((k1 : Int) == (s.size : Int)) = false := beq_eq_false_iff_ne.2 (by omega)
        have e2 : decide (k1 = s.size) = false := decide_eq_false he
        have hlt : k1 < s.size := by omega
        have j0 : (0 : Int) ≤ (k1 : Int) := by omega
        have j1 : (k1 : Int) < (s.size : Int) := by omega
        have hst : Hid (stopE s k1 = (s[k1] == 32 || (s[k1] == 9 || s[k1] == 62))) := by show _ = _; unfold stopE; rw [e2, byteU_in s k1 hlt]; rfl
        have u0 : ((s[k1].toNat : Int) == 32) = (s[k1] == 32) := u8_eq s[k1] 32
        have u1 : ((s[k1].toNat : Int) == 9) = (s[k1] == 9) := u8_eq s[k1] 9
        have u2 : ((s[k1].toNat : Int) == 62) = (s[k1] == 62) := u8_eq s[k1] 62
        clear he
        cases b0 : (s[k1] == 32) with
        | true =>
          rw [b0] at u0
          go_wp2_with fail
          go_meet
          exact ⟨by rw [hst.out, b0]; simp, rfl⟩
        | false =>
          rw [b0] at u0
          cases b1 : (s[k1] == 9) with
          | true =>
            rw [b1] at u1
            go_wp2_with fail
            go_meet
            exact ⟨by rw [hst.out, b0, b1]; simp, rfl⟩
          | false =>
            rw [b1] at u1
            cases b2 : (s[k1] == 62) with
            | true =>
              rw [b2] at u2
              go_wp2_with fail
              go_meet
              exact ⟨by rw [hst.out, b0, b1, b2]; simp, rfl⟩
            | false =>
              rw [b2] at u2
              go_wp2_with fail
              go_meet
              exact ⟨by rw [hst.out, b0, b1, b2]; rfl, rfl⟩
    case rest =>
     as_aux_lemma =>
      obtain ⟨rfl, rfl⟩ := hcut
      clear i0 i1 i2
      have hfo : Hid (fourF WD.data.toList = ((WD.data.toList == [112, 114, 101]) || ((WD.data.toList == [115, 99, 114, 105, 112, 116]) || ((WD.data.toList == [115, 116, 121, 108, 101]) || (WD.data.toList == [116, 101, 120, 116, 97, 114, 101, 97]))))) := rfl
      generalize stopE s k1 = e1b at *
      go_upto_region 8 with (fail)
      go_cut [77] (fun v wx => v = .bool (e1b && fourF WD.data.toList) ∧ w1 = wx)
      case first =>
       as_aux_lemma =>
        cases e1b with
        | false =>
          go_wp2_with fail
          go_meet
          exact ⟨rfl, rfl⟩
        | true =>
          cases f0 : (WD.data.toList == [112, 114, 101]) with
          | true =>
            have r0 : WD.toList = [112, 114, 101] := by rw [ByteArray.toList_eq]; exact beq_iff_eq.1 f0
            go_wp2_with fail
            go_meet
            exact ⟨by rw [hfo.out, f0]; rfl, rfl⟩
          | false =>
            have r0 : ¬ WD.toList = [112, 114, 101] := by rw [ByteArray.toList_eq]; exact beq_eq_false_iff_ne.1 f0
            cases f1 : (WD.data.toList == [115, 99, 114, 105, 112, 116]) with
            | true =>
              have r1 : WD.toList = [115, 99, 114, 105, 112, 116] := by rw [ByteArray.toList_eq]; exact beq_iff_eq.1 f1
              go_wp2_with fail
              go_meet
              exact ⟨by rw [hfo.out, f0, f1]; rfl, rfl⟩
            | false =>
              have r1 : ¬ WD.toList = [115, 99, 114, 105, 112, 116] := by rw [ByteArray.toList_eq]; exact beq_eq_false_iff_ne.1 f1
              cases f2 : (WD.data.toList == [115, 116, 121, 108, 101]) with
              | true =>
                have r2 : WD.toList = [115, 116, 121, 108, 101] := by rw [ByteArray.toList_eq]; exact beq_iff_eq.1 f2
                go_wp2_with fail
                go_meet
                exact ⟨by rw [hfo.out, f0, f1, f2]; rfl, rfl⟩
              | false =>
                have r2 : ¬ WD.toList = [115, 116, 121, 108, 101] := by rw [ByteArray.toList_eq]; exact beq_eq_false_iff_ne.1 f2
                cases f3 : (WD.data.toList == [116, 101, 120, 116, 97, 114, 101, 97]) with
                | true =>
                  have r3 : WD.toList = [116, 101, 120, 116, 97, 114, 101, 97] := by rw [ByteArray.toList_eq]; exact beq_iff_eq.1 f3
                  go_wp2_with fail
                  go_meet
                  exact ⟨by rw [hfo.out, f0, f1, f2, f3]; rfl, rfl⟩
                | false =>
                  have r3 : ¬ WD.toList = [116, 101, 120, 116, 97, 114, 101, 97] := by rw [ByteArray.toList_eq]; exact beq_eq_false_iff_ne.1 f3
                  go_wp2_with fail
                  go_meet
                  exact ⟨by rw [hfo.out, ByteArray.toList_eq, f0, f1, f2, f3]; rfl, rfl⟩
      case rest =>
       as_aux_lemma =>
        obtain ⟨rfl, rfl⟩ := hcut
        clear hfo
        rw [hw4.out] at HK
        clear hw4
        cases hc : (e1b && fourF WD.data.toList) with
        | true =>
          have hr : Hid (refKindF s = 1) := HK.out.trans (if_pos hc)
          clear HK
          go_wp2_with fail
          go_ret
          exact ⟨ret_int (by rw [hr.out]; rfl), hB⟩
        | false =>
          replace HK := Lib.hid (HK.out.trans (if_neg (by rw [hc]; simp)))
          clear hc
          go_wp2_with fail
          refine (Begins_calls s ⟨#[60, 33, 45, 45]⟩ _ hs (by decide)).mono ?_
          rintro e w1 ⟨rfl, rfl⟩
          rw [show (ByteArray.mk #[60, 33, 45, 45]).data.toList = [60, 33, 45, 45] from rfl]
          by_cases hc : Lib.hasPrefix s.data.toList [60, 33, 45, 45] = true
          · have hr : Hid (refKindF s = 2) := HK.out.trans (if_pos hc)
            clear HK
            go_wp2_with fail
            go_ret
            exact ⟨ret_int (by rw [hr.out]; rfl), hB⟩
          replace HK := Lib.hid (HK.out.trans (if_neg hc))
          rw [Bool.eq_false_iff.2 hc]
          clear hc
          go_wp2_with fail
          refine (Begins_calls s ⟨#[60, 63]⟩ _ hs (by decide)).mono ?_
          rintro e w1 ⟨rfl, rfl⟩
          rw [show (ByteArray.mk #[60, 63]).data.toList = [60, 63] from rfl]
          by_cases hc : Lib.hasPrefix s.data.toList [60, 63] = true
          · have hr : Hid (refKindF s = 3) := HK.out.trans (if_pos hc)
            clear HK
            go_wp2_with fail
            go_ret
            exact ⟨ret_int (by rw [hr.out]; rfl), hB⟩
          replace HK := Lib.hid (HK.out.trans (if_neg hc))
          rw [Bool.eq_false_iff.2 hc]
          clear hc
          go_upto_region 14 with (fail)
          go_cut [93] (fun v wx => v = .bool (declF s) ∧ w1 = wx)
          case first =>
           as_aux_lemma =>
            by_cases g2 : 2 < s.size
            · have d1 : decide ((2 : Int) < (s.size : Int)) = true := decide_eq_true (by omega)
              have i1 : (2 : Int) < (s.size : Int) := by omega
              have hd : Hid (declF s = (Lib.hasPrefix s.data.toList [60, 33] && letterU s[2])) := by
                show _ = _
                unfold declF; rw [decide_eq_true g2, byteU_in s 2 g2]; rfl
              go_wp2_with fail
              refine (Begins_calls s ⟨#[60, 33]⟩ _ hs (by decide)).mono ?_
              rintro e w1 ⟨rfl, rfl⟩
              rw [show (ByteArray.mk #[60, 33]).data.toList = [60, 33] from rfl]
              cases hp : Lib.hasPrefix s.data.toList [60, 33] with
              | true =>
                go_wp2_with fail
                refine (refletter_calls s[2] _).mono ?_
                rintro e w1 ⟨rfl, rfl⟩
                cases hl : letterU s[2] with
                | true =>
                  go_wp2_with fail
                  go_meet
                  exact ⟨by rw [hd.out, hp, hl]; rfl, rfl⟩
                | false =>
                  go_wp2_with fail
                  go_meet
                  exact ⟨by rw [hd.out, hp, hl]; rfl, rfl⟩
              | false =>
                go_wp2_with fail
                go_meet
                exact ⟨by rw [hd.out, hp]; rfl, rfl⟩
            · have d1 : decide ((2 : Int) < (s.size : Int)) = false := decide_eq_false (by omega)
              have hd : Hid (declF s = false) := by show _ = _; unfold declF; rw [decide_eq_false g2]; rfl
              go_wp2_with fail
              go_meet
              exact ⟨by rw [hd.out], rfl⟩
          case rest =>
           as_aux_lemma =>
            obtain ⟨rfl, rfl⟩ := hcut
            cases hc : declF s with
            | true =>
              have hr : Hid (refKindF s = 4) := HK.out.trans (if_pos hc)
              clear HK
              go_wp2_with fail
              go_ret
              exact ⟨ret_int (by rw [hr.out]; rfl), hB⟩
            | false =>
              replace HK := Lib.hid (HK.out.trans (if_neg (by rw [hc]; simp)))
              clear hc
              go_wp2_with fail
              refine (Begins_calls s ⟨#[60, 33, 91, 67, 68, 65, 84, 65, 91]⟩ _ hs (by decide)).mono ?_
              rintro e w1 ⟨rfl, rfl⟩
              rw [show (ByteArray.mk #[60, 33, 91, 67, 68, 65, 84, 65, 91]).data.toList = [60, 33, 91, 67, 68, 65, 84, 65, 91] from rfl]
              by_cases hc : Lib.hasPrefix s.data.toList [60, 33, 91, 67, 68, 65, 84, 65, 91] = true
              · have hr : Hid (refKindF s = 5) := HK.out.trans (if_pos hc)
                clear HK
                go_wp2_with fail
                go_ret
                exact ⟨ret_int (by rw [hr.out]; rfl), hB⟩
              replace HK := Lib.hid (HK.out.trans (if_neg hc))
              rw [Bool.eq_false_iff.2 hc]
              clear hc
              have h6 : Hid (sixF s = ((stopE s (skipN s wordT (fromN s)) || Lib.hasPrefix (s.data.toList.drop (skipN s wordT (fromN s))) [47, 62]) && refBlockF (s.extract (fromN s) (skipN s wordT (fromN s))))) := rfl
              have hfr : Hid (fromN s = if (decide (1 < s.size) && byteU s 1 == 47) = true then 2 else 1) := rfl
              go_upto_region 19 with (fail)
              go_cut [103] (fun v wx => v = .bool (decide (1 < s.size) && byteU s 1 == 47) ∧ w1 = wx)
              case first =>
               as_aux_lemma =>
                by_cases g2 : 1 < s.size
                · have d1 : decide ((1 : Int) < (s.size : Int)) = true := decide_eq_true (by omega)
                  have i1 : (1 : Int) < (s.size : Int) := by omega
                  have u0 : ((s[1].toNat : Int) == 47) = (s[1] == 47) := u8_eq s[1] 47
                  have hd : Hid ((decide (1 < s.size) && byteU s 1 == 47) = (s[1] == 47)) := by show _ = _; rw [decide_eq_true g2, byteU_in s 1 g2]; rfl
                  go_wp2_with fail
                  go_meet
                  exact ⟨by rw [hd.out], rfl⟩
                · have d1 : decide ((1 : Int) < (s.size : Int)) = false := decide_eq_false (by omega)
                  have hd : Hid ((decide (1 < s.size) && byteU s 1 == 47) = false) := by show _ = _; rw [decide_eq_false g2]; rfl
                  go_wp2_with fail
                  go_meet
                  exact ⟨by rw [hd.out], rfl⟩
              case rest =>
               as_aux_lemma =>
                obtain ⟨rfl, rfl⟩ := hcut
                generalize (decide (1 < s.size) && byteU s 1 == 47) = c47 at *
                go_upto_if 103 with (fail)
                go_cut [6] (fun v wx => v = .int .i64 (fromN s : Nat) ∧ w1 = wx)
                case first =>
                 as_aux_lemma =>
                  cases c47 with
                  | true =>
                    go_wp2_with fail
                    go_meet
                    exact ⟨by rw [hfr.out]; rfl, rfl⟩
                  | false =>
                    go_wp2_with fail
                    go_meet
                    exact ⟨by rw [hfr.out]; rfl, rfl⟩
                case rest =>
                 as_aux_lemma =>
                  obtain ⟨rfl, rfl⟩ := hcut
                  clear hfr
                  have f2 := from_le s h0
                  generalize fromN s = f at *
                  go_upto_block 2 with (fail)
                  go_cut [3] (fun v wx => v = .int .i64 (skipN s wordT f : Nat) ∧ w1 = wx)
                  case first =>
                   as_aux_lemma =>
                    go_wp2_with fail
                    go_loopw [3] (fun i wr => ∃ k : Nat, k ≤ s.size ∧ i = .int .i64 k ∧ Hid (skipN s wordT f = k + leadN s wordT k) ∧ wr = w1) (fun i _ => s.size - (RowKit.intOf i).toNat)
                    case atStart => exact ⟨f, by omega, rfl, rfl, rfl⟩
                    case round =>
                      obtain ⟨k, hkk, rfl, he, rfl⟩ := hrel
                      by_cases hlt : k < s.size
                      · have j0 : (0 : Int) ≤ (k : Int) := by omega
                        have j1 : (k : Int) < (s.size : Int) := by omega
                        have hst := Lib.hid (word_step s k hlt)
                        go_wp2_with fail
                        refine (refletter_calls s[k] _).mono ?_
                        rintro e x1 ⟨rfl, rfl⟩
                        cases hl : letterU s[k] with
                        | true =>
                          have hr : Hid (skipN s wordT f = (k + 1) + leadN s wordT (k + 1)) := by show _ = _; rw [he.out, hst.out, hl]; simp; omega
                          clear hst
                          go_wp2_with fail
                          go_round
                          case measure => simp [RowKit.intOf] <;> omega
                          case rel => exact ⟨k + 1, by omega, by go_num, hr, trivial⟩
                        | false =>
                          go_wp2_with fail
                          refine (refdigit_calls s[k] _).mono ?_
                          rintro e x2 ⟨rfl, rfl⟩
                          cases hd : digU s[k] with
                          | true =>
                            have hr : Hid (skipN s wordT f = (k + 1) + leadN s wordT (k + 1)) := by show _ = _; rw [he.out, hst.out, hl, hd]; simp; omega
                            clear hst
                            go_wp2_with fail
                            go_round
                            case measure => simp [RowKit.intOf] <;> omega
                            case rel => exact ⟨k + 1, by omega, by go_num, hr, trivial⟩
                          | false =>
                            have hr : Hid (skipN s wordT f = k) := by show _ = _; rw [he.out, hst.out, hl, hd]; rfl
                            clear hst
                            go_wp2_with fail
                            go_meet
                            exact ⟨by rw [hr.out], rfl⟩
                      · have hr : Hid (skipN s wordT f = k) := by show _ = _; rw [he.out, leadN_end s wordT k (by omega)]; rfl
                        go_wp2_with fail
                        go_meet
                        exact ⟨by rw [hr.out], rfl⟩
                  case rest =>
                   as_aux_lemma =>
                    obtain ⟨rfl, rfl⟩ := hcut
                    have k2a := skip_ge s wordT f
                    have k2b := skip_le s wordT f f2
                    generalize skipN s wordT f = k2 at *
                    go_upto_region 24 with (fail)
                    go_cut [5] (fun v wx => v = .bool (stopE s k2 || Lib.hasPrefix (s.data.toList.drop k2) [47, 62]) ∧ w1 = wx)
                    case first =>
                     as_aux_lemma =>
                      by_cases he : k2 = s.size
                      · have e1 : ((k2 : Int) == (s.size : Int)) = true := beq_iff_eq.2 (by omega)
                        have e2 : decide (k2 = s.size) = true := decide_eq_true he
                        have hst : Hid (stopE s k2 = true) := by show _ = _; unfold stopE; rw [e2]; rfl
                        clear he
                        go_wp2_with fail
                        go_meet
                        exact ⟨by rw [hst.out]; rfl, rfl⟩
                      · have e1 : ((k2 : Int) == (s.size : Int)) = false := beq_eq_false_iff_ne.2 (by omega)
                        have e2 : decide (k2 = s.size) = false := decide_eq_false he
                        have hlt : k2 < s.size := by omega
                        have j0 : (0 : Int) ≤ (k2 : Int) := by omega
                        have j1 : (k2 : Int) < (s.size : Int) := by omega
                        have hst : Hid (stopE s k2 = (s[k2] == 32 || (s[k2] == 9 || s[k2] == 62))) := by show _ = _; unfold stopE; rw [e2, byteU_in s k2 hlt]; rfl
                        have u0 : ((s[k2].toNat : Int) == 32) = (s[k2] == 32) := u8_eq s[k2] 32
                        have u1 : ((s[k2].toNat : Int) == 9) = (s[k2] == 9) := u8_eq s[k2] 9
                        have u2 : ((s[k2].toNat : Int) == 62) = (s[k2] == 62) := u8_eq s[k2] 62
                        clear he
                        cases b0 : (s[k2] == 32) with
                        | true =>
                          rw [b0] at u0
                          go_wp2_with fail
                          go_meet
                          exact ⟨by rw [hst.out, b0]; simp, rfl⟩
                        | false =>
                          rw [b0] at u0
                          cases b1 : (s[k2] == 9) with
                          | true =>
                            rw [b1] at u1
                            go_wp2_with fail
                            go_meet
                            exact ⟨by rw [hst.out, b0, b1]; simp, rfl⟩
                          | false =>
                            rw [b1] at u1
                            cases b2 : (s[k2] == 62) with
                            | true =>
                              rw [b2] at u2
                              go_wp2_with fail
                              go_meet
                              exact ⟨by rw [hst.out, b0, b1, b2]; simp, rfl⟩
                            | false =>
                              rw [b2] at u2
                              have hB0 := Begins_calls (s.extract k2 s.size) ⟨#[47, 62]⟩
                              have i5 : (0 : Int) ≤ (k2 : Int) := by omega
                              have i6 : (k2 : Int) ≤ (s.size : Int) := by omega
                              go_wp2_with fail
                              refine (hB0 _ (by rw [ByteArray.size_extract]; omega) (by decide)).mono ?_
                              rintro e w1 ⟨rfl, rfl⟩
                              rw [tail_data]
                              try rw [show (ByteArray.mk #[47, 62]).data.toList = [47, 62] from rfl]
                              go_wp2_with fail
                              go_meet
                              exact ⟨by rw [hst.out, b0, b1, b2]; simp, rfl⟩
                    case rest =>
                     as_aux_lemma =>
                      obtain ⟨rfl, rfl⟩ := hcut
                      have i0 : (0 : Int) ≤ (k2 : Int) := by omega
                      have i1 : (f : Int) ≤ (k2 : Int) := by omega
                      have i2 : (k2 : Int) ≤ (s.size : Int) := by omega
                      have i3 : (0 : Int) ≤ (f : Int) := by omega
                      have hbl := fun w => refBlock_calls (s.extract f k2) w (by rw [ByteArray.size_extract]; omega)
                      generalize (stopE s k2 || Lib.hasPrefix (s.data.toList.drop k2) [47, 62]) = e2 at *
                      generalize refBlockF (s.extract f k2) = bk at *
                      go_upto_region 25 with (fail)
                      go_cut [158] (fun v wx => v = .bool (sixF s) ∧ Below w.heap.size w wx)
                      case first =>
                       as_aux_lemma =>
                        cases e2 with
                        | false =>
                          go_wp2_with fail
                          go_meet
                          exact ⟨by rw [h6.out]; rfl, hB⟩
                        | true =>
                          go_wp2_with fail
                          refine (hbl _).mono ?_
                          rintro e w2 ⟨rfl, hB2⟩
                          replace hB := hB.trans (hB2.mono hB.size)
                          clear hB2 hbl
                          go_wp2_with fail
                          go_meet
                          exact ⟨by rw [h6.out]; rfl, hB⟩
                      case rest =>
                       as_aux_lemma =>
                        obtain ⟨rfl, hB⟩ := hcut
                        clear hbl h6 i0 i1 i2 i3
                        cases hc : sixF s with
                        | true =>
                          have hr : Hid (refKindF s = 6) := HK.out.trans (if_pos hc)
                          clear HK
                          go_wp2_with fail
                          go_ret
                          exact ⟨ret_int (by rw [hr.out]; rfl), hB⟩
                        | false =>
                          replace HK := Lib.hid (HK.out.trans (if_neg (by rw [hc]; simp)))
                          clear hc
                          go_wp2_with fail
                          refine (refOpen_calls s _ hs).mono ?_
                          rintro e w2 ⟨rfl, hB2⟩
                          replace hB := hB.trans (hB2.mono hB.size)
                          clear hB2
                          have n1 := openN_le s
                          generalize openN s = n at *
                          by_cases hn : n = 0
                          · have hr : Hid (refKindF s = 0) := HK.out.trans (if_pos hn)
                            have z1 : ((n : Int) == 0) = true := beq_iff_eq.2 (by omega)
                            clear HK
                            go_wp2_with fail
                            go_ret
                            exact ⟨ret_int (by rw [hr.out]; rfl), hB⟩
                          · replace HK := Lib.hid (HK.out.trans (if_neg hn))
                            have z1 : ((n : Int) == 0) = false := beq_eq_false_iff_ne.2 (by omega)
                            clear hn
                            go_wp2_with fail
                            go_loopw [8] (fun i wr => ∃ k : Nat, k ≤ s.size ∧ i = .int .i64 k ∧ Hid ((s.data.toList.drop n).all blankU = (s.data.toList.drop k).all blankU) ∧ wr = w2) (fun i _ => s.size - (RowKit.intOf i).toNat)
                            case atStart => exact ⟨n, by omega, rfl, rfl, rfl⟩
                            case round =>
                              obtain ⟨k, hkk, rfl, he, rfl⟩ := hrel
                              clear z1
                              by_cases hlt : k < s.size
                              · have j0 : (0 : Int) ≤ (k : Int) := by omega
                                have j1 : (k : Int) < (s.size : Int) := by omega
                                have hst : Hid ((s.data.toList.drop k).all blankU = ((s[k] == 32 || s[k] == 9) && (s.data.toList.drop (k + 1)).all blankU)) := by show _ = _; rw [drop_cons s k hlt, List.all_cons]; rfl
                                have u0 : ((s[k].toNat : Int) != 32) = !(s[k] == 32) := ne_b s[k] 32
                                have u1 : ((s[k].toNat : Int) != 9) = !(s[k] == 9) := ne_b s[k] 9
                                cases b0 : (s[k] == 32) with
                                | true =>
                                  have hr : Hid ((s.data.toList.drop n).all blankU = (s.data.toList.drop (k + 1)).all blankU) := by show _ = _; rw [he.out, hst.out, b0]; rfl
                                  clear hst
                                  rw [b0] at u0
                                  simp only [Bool.not_true] at u0
                                  clear u1
                                  cases b1 : ((s[k].toNat : Int) != 9) with
                                  | true =>
                                    go_wp2_with fail
                                    go_round
                                    case measure => simp [RowKit.intOf] <;> omega
                                    case rel => exact ⟨k + 1, by omega, by go_num, hr, trivial⟩
                                  | false =>
                                    go_wp2_with fail
                                    go_round
                                    case measure => simp [RowKit.intOf] <;> omega
                                    case rel => exact ⟨k + 1, by omega, by go_num, hr, trivial⟩
                                | false =>
                                  rw [b0] at u0
                                  simp only [Bool.not_false] at u0
                                  cases b1 : (s[k] == 9) with
                                  | true =>
                                    have hr : Hid ((s.data.toList.drop n).all blankU = (s.data.toList.drop (k + 1)).all blankU) := by show _ = _; rw [he.out, hst.out, b0, b1]; rfl
                                    clear hst
                                    rw [b1] at u1
                                    simp only [Bool.not_true] at u1
                                    go_wp2_with fail
                                    go_round
                                    case measure => simp [RowKit.intOf] <;> omega
                                    case rel => exact ⟨k + 1, by omega, by go_num, hr, trivial⟩
                                  | false =>
                                    have hr : Hid (refKindF s = 0) := HK.out.trans (if_neg (by rw [he.out, hst.out, b0, b1]; simp))
                                    clear hst HK
                                    rw [b1] at u1
                                    simp only [Bool.not_false] at u1
                                    go_wp2_with fail
                                    go_ret
                                    exact ⟨ret_int (by rw [hr.out]; rfl), hB⟩
                              · have hr : Hid (refKindF s = 7) := HK.out.trans (if_pos (by rw [he.out, List.drop_of_length_le (by rw [lst_size]; omega)]; rfl))
                                clear HK
                                go_wp2_with fail
                                go_ret
                                exact ⟨ret_int (by rw [hr.out]; rfl), hB⟩

set_option maxRecDepth 100000 in
theorem refKind_no (s : ByteArray) (w : World) (h : s.size = 0 ∨ 0 < s.size ∧ byteU s 0 ≠ 60) :
    Calls Tryd.prog 14 #[.string s] w fun e w' => e = .returned (.int .i64 (refKindF s : Nat)) ∧ Below w.heap.size w w' := by
  have hr : Hid (refKindF s = 0) := by
    show _ = _
    unfold refKindF
    rcases h with h | ⟨h, h2⟩
    · rw [h]; rfl
    · rw [beq_eq_false_iff_ne.2 h2, Bool.and_false]; rfl
  go_enter Tryd.func14, Tryd.ntmps14
  rcases h with h | ⟨h, h2⟩
  · have d0 : ((s.size : Int) == 0) = true := beq_iff_eq.2 (by omega)
    go_wp2_with fail
    go_ret
    exact ⟨ret_int (by rw [hr.out]; rfl), Below.refl _ _⟩
  · have d0 : ((s.size : Int) == 0) = false := beq_eq_false_iff_ne.2 (by omega)
    have g0 : (0 : Int) < (s.size : Int) := by omega
    have d1 : decide (s.size = 0) = false := decide_eq_false (by omega)
    have u0 : ((s[0].toNat : Int) != 60) = true := by rw [show ((s[0].toNat : Int) != 60) = !(s[0] == 60) from ne_b s[0] 60, ← byteU_in s 0 h, beq_eq_false_iff_ne.2 h2]; rfl
    clear h2
    go_wp2_with fail
    go_ret
    exact ⟨ret_int (by rw [hr.out]; rfl), Below.refl _ _⟩

theorem refKind_calls (s : ByteArray) (w : World) (hs : s.size ≤ 1000000) :
    Calls Tryd.prog 14 #[.string s] w fun e w' => e = .returned (.int .i64 (kindF s : Nat)) ∧ Below w.heap.size w w' := by
  rw [kind_same]
  by_cases h0 : 0 < s.size
  · by_cases h60 : byteU s 0 = 60
    · exact refKind_yes s w hs h0 h60
    · exact refKind_no s w (Or.inr ⟨h0, h60⟩)
  · exact refKind_no s w (Or.inl (by omega))

end Go.Proofs.YtjaidphlphncjaaDoor
