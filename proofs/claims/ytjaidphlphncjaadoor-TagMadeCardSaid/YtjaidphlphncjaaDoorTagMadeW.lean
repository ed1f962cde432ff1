/- Walk: the law TagMade. -/
import Derived.Test.YtjaidphlphncjaaDoorAlive06
import Derived.Test.YtjaidphlphncjaaDoorTagMadeRaw
import Derived.Test.YtjaidphlphncjaaDoorTagRefB
import Derived.Laws.Concat
import Derived.Deep.DeepCutAuto
import Derived.Deep.CutBlock
import Derived.Deep.LoopGhost
import Derived.Handy
namespace Go.Proofs.YtjaidphlphncjaaDoor
set_option linter.unusedVariables false
set_option linter.unusedSimpArgs false
open Go Go.RowKit Go.Lib

theorem TagMade_out (name attr value : ByteArray) (w : World) (hE : Env w) (h : 1000 < name.size ∨ name.size ≤ 1000 ∧ (1000 < attr.size ∨ attr.size ≤ 1000 ∧ (5000 < value.size ∨ value.size ≤ 5000 ∧ attr.size = 0))) :
    Calls Tryd.prog 7 #[.string name, .string attr, .string value] w fun e w' => e = .returned (.bool true) ∧ Below w.heap.size w w' := by
  have hc : decide ((1000 : Int) < (name.size : Int)) = true ∨ decide ((1000 : Int) < (name.size : Int)) = false ∧ (decide ((1000 : Int) < (attr.size : Int)) = true ∨ decide ((1000 : Int) < (attr.size : Int)) = false ∧ (decide ((5000 : Int) < (value.size : Int)) = true ∨ decide ((5000 : Int) < (value.size : Int)) = false ∧ attr.toList.isEmpty = true)) := by
    rcases h with h | ⟨h, h | ⟨h2, h | ⟨h3, h⟩⟩⟩
    · exact Or.inl (decide_eq_true (by omega))
    · exact Or.inr ⟨decide_eq_false (by omega), Or.inl (decide_eq_true (by omega))⟩
    · exact Or.inr ⟨decide_eq_false (by omega), Or.inr ⟨decide_eq_false (by omega), Or.inl (decide_eq_true (by omega))⟩⟩
    · exact Or.inr ⟨decide_eq_false (by omega), Or.inr ⟨decide_eq_false (by omega), Or.inr ⟨decide_eq_false (by omega), size_isEmpty h⟩⟩⟩
  clear h
  go_enter Tryd.func7, Tryd.ntmps7
  go_wp2_with fail
  refine (alive06_calls _ hE).mono ?_
  rintro e w1 ⟨rfl, h1⟩
  clear hE
  rcases hc with hc | ⟨hc, hc2 | ⟨hc2, hc3 | ⟨hc3, hc4⟩⟩⟩
  all_goals
    go_wp2_with fail
    go_ret
    exact ⟨rfl, h1⟩

set_option maxHeartbeats 4000000 in
set_option maxRecDepth 100000 in
theorem TagMade_in (name attr value : ByteArray) (w : World) (hE : Env w) (hs1 : name.size ≤ 1000) (hs2 : attr.size ≤ 1000) (hs3 : value.size ≤ 5000) (h0 : 0 < attr.size) :
    Calls Tryd.prog 7 #[.string name, .string attr, .string value] w fun e w' => e = .returned (.bool true) ∧ Below w.heap.size w w' := by
  have HE := Lib.hid hE
  have d1 : decide ((1000 : Int) < (name.size : Int)) = false := decide_eq_false (by omega)
  have d2 : decide ((1000 : Int) < (attr.size : Int)) = false := decide_eq_false (by omega)
  have d3 : decide ((5000 : Int) < (value.size : Int)) = false := decide_eq_false (by omega)
  have d4 := toList_ne h0
  have q1 := fun w hM hw => Open_calls (ByteArray.mk #[60] ++ name ++ ByteArray.mk #[62]) w hM (by simp only [ByteArray.size_append]; show 1 + name.size + 1 ≤ _; omega) hw
  have q2 := fun w hM hw => Open_calls (ByteArray.mk #[60] ++ name ++ ByteArray.mk #[32] ++ attr ++ ByteArray.mk #[62]) w hM (by simp only [ByteArray.size_append]; show 1 + name.size + 1 + attr.size + 1 ≤ _; omega) hw
  have hall := made_all name attr value
  generalize openN (ByteArray.mk #[60] ++ name ++ ByteArray.mk #[62]) = o1 at *
  generalize openN (ByteArray.mk #[60] ++ name ++ ByteArray.mk #[32] ++ attr ++ ByteArray.mk #[62]) = o2 at *
  have HALL := Lib.hid hall
  have s1 : (ByteArray.mk #[60] ++ name).size = name.size + 1 := by rw [ByteArray.size_append]; show 1 + name.size = _; omega
  have s2 : (ByteArray.mk #[60] ++ name ++ ByteArray.mk #[32]).size = name.size + 2 := by rw [ByteArray.size_append, s1]; rfl
  have s3 : (ByteArray.mk #[60] ++ name ++ ByteArray.mk #[32] ++ attr).size = name.size + 2 + attr.size := by rw [ByteArray.size_append, s2]
  have S1 := Lib.hid s1
  clear hE hall
  go_enter Tryd.func7, Tryd.ntmps7
  go_wp2_with fail
  refine (alive06_calls _ HE.out).mono ?_
  rintro e w1 ⟨rfl, b1⟩
  have E1 := HE.out.below b1
  go_wp2_with fail
  refine (q1 _ E1.2.1 E1.2.2).mono ?_
  rintro e w2 ⟨rfl, b2⟩
  replace b1 := b1.trans (b2.mono b1.size)
  clear b2 E1 q1
  have E1 := HE.out.below b1
  go_wp2_with fail
  refine (q2 _ E1.2.1 E1.2.2).mono ?_
  rintro e w3 ⟨rfl, b2⟩
  replace b1 := b1.trans (b2.mono b1.size)
  clear b2 E1 q2 s1 s2 s3 S1
  have e1 := IntWalk.i64_in ((name.size : Int) + 2) (by omega)
  have e2 := IntWalk.i64_in ((name.size : Int) + (attr.size : Int)) (by omega)
  have e3 := IntWalk.i64_in ((name.size : Int) + (attr.size : Int) + 3) (by omega)
  by_cases h1 : o1 = name.size + 2
  · by_cases h2 : o2 = name.size + attr.size + 3
    · have c1 : ((o1 : Int) != (name.size : Int) + 2) = false := by simp; omega
      have c2 : ((o2 : Int) != (name.size : Int) + (attr.size : Int) + 3) = false := by simp; omega
      have HALL2 := Lib.hid (HALL.out h1 h2 h0)
      clear HALL h1 h2
      go_upto_block 0 with (fail)
      go_cut [] (fun wx => Aside (∀ i (h : i < value.size), (value[i] == 34) = false) ∧ wx = w3)
      case first =>
        clear HALL2
        go_wp2_with fail
        go_loopw [9] (fun i wr => ∃ k : Nat, k ≤ value.size ∧ i = .int .i64 k ∧ Aside (∀ j (h : j < value.size), j < k → (value[j] == 34) = false) ∧ wr = w3) (fun i _ => value.size - (RowKit.intOf i).toNat)
        case atStart => exact ⟨0, Nat.zero_le _, rfl, (fun j _ h => absurd h (Nat.not_lt_zero _)), rfl⟩
        case round =>
          obtain ⟨k, hk, rfl, hg, rfl⟩ := hrel
          by_cases hlt : k < value.size
          · have g1 : decide ((k : Int) < (value.size : Int)) = true := by simpa using hlt
            have i0 : (0 : Int) ≤ (k : Int) := by omega
            have i1 : (k : Int) < (value.size : Int) := by omega
            have hu : ((value[k].toNat : Int) == 34) = (value[k] == 34) := u8_eq value[k] 34
            cases hq : (value[k] == 34) with
            | true =>
              rw [hq] at hu
              clear hq
              go_wp2_with fail
              go_ret
              exact ⟨rfl, b1⟩
            | false =>
              rw [hq] at hu
              have hn : Aside (∀ j (h : j < value.size), j < k + 1 → (value[j] == 34) = false) := fun j h hj => by
                by_cases hjk : j = k
                · subst hjk; exact hq
                · exact hg j h (by omega)
              clear hq hg
              go_wp2_with fail
              go_round
              case measure => simp [RowKit.intOf] <;> omega
              case rel => exact ⟨k + 1, by omega, by go_num, hn, trivial⟩
          · have g1 : decide ((k : Int) < (value.size : Int)) = false := decide_eq_false (by omega)
            have hn : Aside (∀ j (h : j < value.size), (value[j] == 34) = false) := fun j h => hg j h (by omega)
            clear hg
            go_wp2_with fail
            go_meet
            exact ⟨hn, rfl⟩
      case rest =>
        obtain ⟨hV, rfl⟩ := hcut
        go_upto_block 2 with (fail)
        go_cut [] (fun wx => Aside (∀ i (h : i < attr.size), badA attr[i] = false) ∧ wx = wc)
        case first =>
          clear HALL2 hV
          go_wp2_with fail
          go_loopw [10] (fun i wr => ∃ k : Nat, k ≤ attr.size ∧ i = .int .i64 k ∧ Aside (∀ j (h : j < attr.size), j < k → badA attr[j] = false) ∧ wr = wc) (fun i _ => attr.size - (RowKit.intOf i).toNat)
          case atStart => exact ⟨0, Nat.zero_le _, rfl, (fun j _ h => absurd h (Nat.not_lt_zero _)), rfl⟩
          case round =>
            obtain ⟨k, hk, rfl, hg, rfl⟩ := hrel
            by_cases hlt : k < attr.size
            · have g1 : decide ((k : Int) < (attr.size : Int)) = true := by simpa using hlt
              have i0 : (0 : Int) ≤ (k : Int) := by omega
              have i1 : (k : Int) < (attr.size : Int) := by omega
              have hnu : Hid (badA attr[k] = (attr[k] == 32 || (attr[k] == 9 || (attr[k] == 10 || (attr[k] == 61 || (attr[k] == 47 || attr[k] == 62)))))) := rfl
              go_upto_region 18 with (fail)
              go_cut [100] (fun v wx => v = .bool (badA attr[k]) ∧ wx = wr)
              case first =>
                cases h0 : (attr[k] == 32) with
                | true =>
                  have u0 : ((attr[k].toNat : Int) == 32) = true := by rw [show ((attr[k].toNat : Int) == 32) = (attr[k] == 32) from u8_eq attr[k] 32, h0]
                  go_wp2_with fail
                  go_meet
                  exact ⟨by rw [hnu.out]; simp [h0], rfl⟩
                | false =>
                  have u0 : ((attr[k].toNat : Int) == 32) = false := by rw [show ((attr[k].toNat : Int) == 32) = (attr[k] == 32) from u8_eq attr[k] 32, h0]
                  cases h1 : (attr[k] == 9) with
                  | true =>
                    have u1 : ((attr[k].toNat : Int) == 9) = true := by rw [show ((attr[k].toNat : Int) == 9) = (attr[k] == 9) from u8_eq attr[k] 9, h1]
                    go_wp2_with fail
                    go_meet
                    exact ⟨by rw [hnu.out]; simp [h0, h1], rfl⟩
                  | false =>
                    have u1 : ((attr[k].toNat : Int) == 9) = false := by rw [show ((attr[k].toNat : Int) == 9) = (attr[k] == 9) from u8_eq attr[k] 9, h1]
                    cases h2 : (attr[k] == 10) with
                    | true =>
                      have u2 : ((attr[k].toNat : Int) == 10) = true := by rw [show ((attr[k].toNat : Int) == 10) = (attr[k] == 10) from u8_eq attr[k] 10, h2]
                      go_wp2_with fail
                      go_meet
                      exact ⟨by rw [hnu.out]; simp [h0, h1, h2], rfl⟩
                    | false =>
                      have u2 : ((attr[k].toNat : Int) == 10) = false := by rw [show ((attr[k].toNat : Int) == 10) = (attr[k] == 10) from u8_eq attr[k] 10, h2]
                      cases h3 : (attr[k] == 61) with
                      | true =>
                        have u3 : ((attr[k].toNat : Int) == 61) = true := by rw [show ((attr[k].toNat : Int) == 61) = (attr[k] == 61) from u8_eq attr[k] 61, h3]
                        go_wp2_with fail
                        go_meet
                        exact ⟨by rw [hnu.out]; simp [h0, h1, h2, h3], rfl⟩
                      | false =>
                        have u3 : ((attr[k].toNat : Int) == 61) = false := by rw [show ((attr[k].toNat : Int) == 61) = (attr[k] == 61) from u8_eq attr[k] 61, h3]
                        cases h4 : (attr[k] == 47) with
                        | true =>
                          have u4 : ((attr[k].toNat : Int) == 47) = true := by rw [show ((attr[k].toNat : Int) == 47) = (attr[k] == 47) from u8_eq attr[k] 47, h4]
                          go_wp2_with fail
                          go_meet
                          exact ⟨by rw [hnu.out]; simp [h0, h1, h2, h3, h4], rfl⟩
                        | false =>
                          have u4 : ((attr[k].toNat : Int) == 47) = false := by rw [show ((attr[k].toNat : Int) == 47) = (attr[k] == 47) from u8_eq attr[k] 47, h4]
                          cases h5 : (attr[k] == 62) with
                          | true =>
                            have u5 : ((attr[k].toNat : Int) == 62) = true := by rw [show ((attr[k].toNat : Int) == 62) = (attr[k] == 62) from u8_eq attr[k] 62, h5]
                            go_wp2_with fail
                            go_meet
                            exact ⟨by rw [hnu.out]; simp [h0, h1, h2, h3, h4, h5], rfl⟩
                          | false =>
                            have u5 : ((attr[k].toNat : Int) == 62) = false := by rw [show ((attr[k].toNat : Int) == 62) = (attr[k] == 62) from u8_eq attr[k] 62, h5]
                            go_wp2_with fail
                            go_meet
                            exact ⟨by rw [hnu.out]; simp [h0, h1, h2, h3, h4, h5], rfl⟩
              case rest =>
                obtain ⟨rfl, rfl⟩ := hcut
                clear hnu
                cases hq : badA attr[k] with
                | true =>
                  go_wp2_with fail
                  go_ret
                  exact ⟨rfl, b1⟩
                | false =>
                  have hn : Aside (∀ j (h : j < attr.size), j < k + 1 → badA attr[j] = false) := fun j h hj => by
                    by_cases hjk : j = k
                    · subst hjk; exact hq
                    · exact hg j h (by omega)
                  clear hq hg
                  go_wp2_with fail
                  go_round
                  case measure => simp [RowKit.intOf] <;> omega
                  case rel => exact ⟨k + 1, by omega, by go_num, hn, trivial⟩
            · have g1 : decide ((k : Int) < (attr.size : Int)) = false := decide_eq_false (by omega)
              have hn : Aside (∀ j (h : j < attr.size), badA attr[j] = false) := fun j h => hg j h (by omega)
              clear hg
              go_wp2_with fail
              go_meet
              exact ⟨hn, rfl⟩
        case rest =>
          obtain ⟨hA, rfl⟩ := hcut
          go_upto_block 4 with (fail)
          go_cut [] (fun wx => Aside (∀ i (h : i < name.size), badN name[i] = false) ∧ wx = wc)
          case first =>
            clear HALL2 hV hA
            go_wp2_with fail
            go_loopw [12] (fun i wr => ∃ k : Nat, k ≤ name.size ∧ i = .int .i64 k ∧ Aside (∀ j (h : j < name.size), j < k → badN name[j] = false) ∧ wr = wc) (fun i _ => name.size - (RowKit.intOf i).toNat)
            case atStart => exact ⟨0, Nat.zero_le _, rfl, (fun j _ h => absurd h (Nat.not_lt_zero _)), rfl⟩
            case round =>
              obtain ⟨k, hk, rfl, hg, rfl⟩ := hrel
              by_cases hlt : k < name.size
              · have g1 : decide ((k : Int) < (name.size : Int)) = true := by simpa using hlt
                have i0 : (0 : Int) ≤ (k : Int) := by omega
                have i1 : (k : Int) < (name.size : Int) := by omega
                have hnu : Hid (badN name[k] = (name[k] == 32 || (name[k] == 9 || (name[k] == 10 || name[k] == 47)))) := rfl
                go_upto_region 24 with (fail)
                go_cut [123] (fun v wx => v = .bool (badN name[k]) ∧ wx = wr)
                case first =>
                  cases h0 : (name[k] == 32) with
                  | true =>
                    have u0 : ((name[k].toNat : Int) == 32) = true := by rw [show ((name[k].toNat : Int) == 32) = (name[k] == 32) from u8_eq name[k] 32, h0]
                    go_wp2_with fail
                    go_meet
                    exact ⟨by rw [hnu.out]; simp [h0], rfl⟩
                  | false =>
                    have u0 : ((name[k].toNat : Int) == 32) = false := by rw [show ((name[k].toNat : Int) == 32) = (name[k] == 32) from u8_eq name[k] 32, h0]
                    cases h1 : (name[k] == 9) with
                    | true =>
                      have u1 : ((name[k].toNat : Int) == 9) = true := by rw [show ((name[k].toNat : Int) == 9) = (name[k] == 9) from u8_eq name[k] 9, h1]
                      go_wp2_with fail
                      go_meet
                      exact ⟨by rw [hnu.out]; simp [h0, h1], rfl⟩
                    | false =>
                      have u1 : ((name[k].toNat : Int) == 9) = false := by rw [show ((name[k].toNat : Int) == 9) = (name[k] == 9) from u8_eq name[k] 9, h1]
                      cases h2 : (name[k] == 10) with
                      | true =>
                        have u2 : ((name[k].toNat : Int) == 10) = true := by rw [show ((name[k].toNat : Int) == 10) = (name[k] == 10) from u8_eq name[k] 10, h2]
                        go_wp2_with fail
                        go_meet
                        exact ⟨by rw [hnu.out]; simp [h0, h1, h2], rfl⟩
                      | false =>
                        have u2 : ((name[k].toNat : Int) == 10) = false := by rw [show ((name[k].toNat : Int) == 10) = (name[k] == 10) from u8_eq name[k] 10, h2]
                        cases h3 : (name[k] == 47) with
                        | true =>
                          have u3 : ((name[k].toNat : Int) == 47) = true := by rw [show ((name[k].toNat : Int) == 47) = (name[k] == 47) from u8_eq name[k] 47, h3]
                          go_wp2_with fail
                          go_meet
                          exact ⟨by rw [hnu.out]; simp [h0, h1, h2, h3], rfl⟩
                        | false =>
                          have u3 : ((name[k].toNat : Int) == 47) = false := by rw [show ((name[k].toNat : Int) == 47) = (name[k] == 47) from u8_eq name[k] 47, h3]
                          go_wp2_with fail
                          go_meet
                          exact ⟨by rw [hnu.out]; simp [h0, h1, h2, h3], rfl⟩
                case rest =>
                  obtain ⟨rfl, rfl⟩ := hcut
                  clear hnu
                  cases hq : badN name[k] with
                  | true =>
                    go_wp2_with fail
                    go_ret
                    exact ⟨rfl, b1⟩
                  | false =>
                    have hn : Aside (∀ j (h : j < name.size), j < k + 1 → badN name[j] = false) := fun j h hj => by
                      by_cases hjk : j = k
                      · subst hjk; exact hq
                      · exact hg j h (by omega)
                    clear hq hg
                    go_wp2_with fail
                    go_round
                    case measure => simp [RowKit.intOf] <;> omega
                    case rel => exact ⟨k + 1, by omega, by go_num, hn, trivial⟩
              · have g1 : decide ((k : Int) < (name.size : Int)) = false := decide_eq_false (by omega)
                have hn : Aside (∀ j (h : j < name.size), badN name[j] = false) := fun j h => hg j h (by omega)
                clear hg
                go_wp2_with fail
                go_meet
                exact ⟨hn, rfl⟩
          case rest =>
            obtain ⟨hN, rfl⟩ := hcut
            obtain ⟨f1, f2, f3⟩ := HALL2.out hN.out hA.out hV.out
            clear HALL2 hN hA hV e2 e3 c1 c2
            have t1 : (ByteArray.mk #[60] ++ name).size = name.size + 1 := by rw [ByteArray.size_append]; show 1 + name.size = _; omega
            have t2 : (ByteArray.mk #[60] ++ name ++ ByteArray.mk #[10]).size = name.size + 2 := by rw [ByteArray.size_append, t1]; rfl
            have t3 : (ByteArray.mk #[60] ++ name ++ ByteArray.mk #[10] ++ attr).size = name.size + 2 + attr.size := by rw [ByteArray.size_append, t2]
            have t4 : (ByteArray.mk #[60] ++ name ++ ByteArray.mk #[10] ++ attr ++ ByteArray.mk #[32, 61, 9, 34]).size = name.size + 2 + attr.size + 4 := by rw [ByteArray.size_append, t3]; rfl
            have t5 : (ByteArray.mk #[60] ++ name ++ ByteArray.mk #[10] ++ attr ++ ByteArray.mk #[32, 61, 9, 34] ++ value).size = name.size + 2 + attr.size + 4 + value.size := by rw [ByteArray.size_append, t4]
            have t6 : (madeT name attr value).size = name.size + 2 + attr.size + 4 + value.size + 4 := by unfold madeT; rw [ByteArray.size_append, t5]; rfl
            have t7 : (ByteArray.mk #[60, 47] ++ name).size = name.size + 2 := by rw [ByteArray.size_append]; show 2 + name.size = _; omega
            rw [t6] at f1 f2
            have q3 := fun w hM hw => Open_calls (madeT name attr value) w hM (by omega) hw
            have q4 := fun w hM hw => Raw_calls (madeT name attr value ++ ByteArray.mk #[120]) w hM (by rw [ByteArray.size_append, t6]; show _ + 1 ≤ _; omega) hw
            have q5 := fun w hM hw => Open_calls (ByteArray.mk #[60, 47] ++ name ++ ByteArray.mk #[32, 62]) w hM (by rw [ByteArray.size_append, t7]; show _ + 2 ≤ _; omega) hw
            rw [f1] at q3
            rw [f2] at q4
            rw [f3] at q5
            have t8 : (ByteArray.mk #[60] ++ name ++ ByteArray.mk #[10] ++ attr ++ ByteArray.mk #[32, 61, 9, 34] ++ value ++ ByteArray.mk #[34, 32, 47, 62]).size = name.size + 2 + attr.size + 4 + value.size + 4 := t6
            have e4 := IntWalk.i64_in ((name.size : Int) + 4) (by omega)
            clear f1 f2 f3 t6
            have E1 := HE.out.below b1
            go_wp2_with fail
            refine (q3 _ E1.2.1 E1.2.2).mono ?_
            rintro e y1 ⟨rfl, b2⟩
            replace b1 := b1.trans (b2.mono b1.size)
            clear b2 E1 q3
            have E1 := HE.out.below b1
            go_wp2_with fail
            refine (q4 _ E1.2.1 E1.2.2).mono ?_
            rintro e y2 ⟨rfl, b2⟩
            replace b1 := b1.trans (b2.mono b1.size)
            clear b2 E1 q4
            have E1 := HE.out.below b1
            go_wp2_with fail
            refine (q5 _ E1.2.1 E1.2.2).mono ?_
            rintro e y3 ⟨rfl, b2⟩
            replace b1 := b1.trans (b2.mono b1.size)
            clear b2 E1 q5
            go_wp2_with fail
            go_ret
            exact ⟨rfl, b1⟩
    · have c1 : ((o1 : Int) != (name.size : Int) + 2) = false := by simp; omega
      have c2 : ((o2 : Int) != (name.size : Int) + (attr.size : Int) + 3) = true := by simp; omega
      clear h1 h2
      go_wp2_with fail
      go_ret
      exact ⟨rfl, b1⟩
  · have c1 : ((o1 : Int) != (name.size : Int) + 2) = true := by simp; omega
    clear h1
    go_wp2_with fail
    go_ret
    exact ⟨rfl, b1⟩

theorem TagMade_walk (name attr value : ByteArray) (w : World) (hE : Env w) :
    Calls Tryd.prog 7 #[.string name, .string attr, .string value] w fun e w' => e = .returned (.bool true) ∧ Below w.heap.size w w' := by
  by_cases h1 : name.size ≤ 1000
  · by_cases h2 : attr.size ≤ 1000
    · by_cases h3 : value.size ≤ 5000
      · by_cases h4 : 0 < attr.size
        · exact TagMade_in name attr value w hE h1 h2 h3 h4
        · exact TagMade_out name attr value w hE (Or.inr ⟨h1, Or.inr ⟨h2, Or.inr ⟨h3, by omega⟩⟩⟩)
      · exact TagMade_out name attr value w hE (Or.inr ⟨h1, Or.inr ⟨h2, Or.inl (by omega)⟩⟩)
    · exact TagMade_out name attr value w hE (Or.inr ⟨h1, Or.inl (by omega)⟩)
  · exact TagMade_out name attr value w hE (Or.inl (by omega))

end Go.Proofs.YtjaidphlphncjaaDoor
