/- Walk: the reference Head. -/
import Derived.Test.YtngikakigkfbnaaDoorMarkRefB
import Derived.Test.YtngikakigkfbnaaDoorMarkHead
import Derived.Test.YtngikakigkfbnaaDoorMarkContentPlain
import Derived.Deep.DeepCutAuto
import Derived.Deep.CutBlock
import Derived.Deep.LoopGhost
import Derived.Handy
namespace Go.Proofs.YtngikakigkfbnaaDoor
set_option linter.unusedVariables false
set_option linter.unusedSimpArgs false
open Go Go.RowKit Go.Lib

theorem lead_i (s : ByteArray) (n : Nat) : lead (s.extract n s.size) blanksT = leadN s blanksT n := lead_tail s blanksT n

theorem ends_i (s : ByteArray) (n : Nat) (h : n < s.size) : endsB (s.extract n s.size) = blankU s[n] := by
  unfold endsB
  rw [toList_ne (by rw [Lib.tail_size]; omega), lead_tail, leadN_step s _ n h, blanks_contains]
  cases blankU s[n] <;> simp
theorem ends_o (s : ByteArray) (n : Nat) (h : s.size ≤ n) : endsB (s.extract n s.size) = true := by
  unfold endsB
  rw [size_isEmpty (by rw [Lib.tail_size]; omega)]; rfl

theorem headNo_low (s : ByteArray) (h : levelF s < 1) : headF s = (0, 0, 0) :=
  headF_no s (by unfold headIs; rw [decide_eq_false (p := 1 ≤ levelF s) (by omega)]; rfl)
theorem headNo_high (s : ByteArray) (h : 6 < levelF s) : headF s = (0, 0, 0) :=
  headF_no s (by unfold headIs; rw [decide_eq_false (p := levelF s ≤ 6) (by omega)]; simp)
theorem headNo_ends (s : ByteArray) (n : Nat) (hn : levelF s = n) (h : endsB (s.extract n s.size) = false) : headF s = (0, 0, 0) :=
  headF_no s (by unfold headIs; rw [hn, h]; simp)
theorem headIs_yes (s : ByteArray) (n : Nat) (hn : levelF s = n) (h1 : 1 ≤ n) (h6 : n ≤ 6) (h : endsB (s.extract n s.size) = true) : headIs s = true := by
  unfold headIs; rw [hn, h, decide_eq_true h1, decide_eq_true h6]; rfl

theorem refHead_no (s : ByteArray) (w : World) (hs : s.size ≤ 1000000) (hi : headIs s = false) :
    Calls Tryd.prog 16 #[.string s] w fun e w' => e = .returned (.tuple #[.int .i64 0, .int .i64 0, .int .i64 0]) ∧ Below w.heap.size w w' := by
  have q1 := fun w => refmany_calls s 35 35 rfl w hs
  have hle := lead_le s ⟨#[35]⟩
  have hc : lead s ⟨#[35]⟩ < 1 ∨ 6 < lead s ⟨#[35]⟩ ∨ (1 ≤ lead s ⟨#[35]⟩ ∧ lead s ⟨#[35]⟩ ≤ 6 ∧ ∃ h : lead s ⟨#[35]⟩ < s.size, blankU s[lead s ⟨#[35]⟩] = false) := by
    by_cases h1 : lead s ⟨#[35]⟩ < 1
    · exact Or.inl h1
    · by_cases h6 : 6 < lead s ⟨#[35]⟩
      · exact Or.inr (Or.inl h6)
      · refine Or.inr (Or.inr ⟨by omega, by omega, ?_⟩)
        have he : endsB (s.extract (lead s ⟨#[35]⟩) s.size) = false := by
          cases he : endsB (s.extract (lead s ⟨#[35]⟩) s.size) with
          | false => rfl
          | true => rw [headIs_yes s _ rfl (by unfold levelF; omega) (by unfold levelF; omega) he] at hi; cases hi
        by_cases hlt : lead s ⟨#[35]⟩ < s.size
        · exact ⟨hlt, by rw [← ends_i s _ hlt]; exact he⟩
        · rw [ends_o s _ (by omega)] at he; cases he
  generalize lead s ⟨#[35]⟩ = n at *
  clear hi
  go_enter Tryd.func16, Tryd.ntmps16
  go_wp2_with fail
  refine (q1 _).mono ?_
  rintro e w1 ⟨rfl, rfl⟩
  clear q1
  rcases hc with h1 | h6 | ⟨h1, h6, hlt, hb⟩
  · have d1 : decide ((n : Int) < 1) = true := decide_eq_true (by omega)
    go_wp2_with fail
    go_ret3
    exact ⟨rfl, Below.refl _ _⟩
  · have d1 : decide ((n : Int) < 1) = false := decide_eq_false (by omega)
    have d2 : decide ((6 : Int) < (n : Int)) = true := decide_eq_true (by omega)
    go_wp2_with fail
    go_ret3
    exact ⟨rfl, Below.refl _ _⟩
  · have d1 : decide ((n : Int) < 1) = false := decide_eq_false (by omega)
    have d2 : decide ((6 : Int) < (n : Int)) = false := decide_eq_false (by omega)
    have j0 : (0 : Int) ≤ (n : Int) := by omega
    have j1 : (n : Int) < (s.size : Int) := by omega
    go_wp2_with fail
    refine (refblank_calls s[n] _).mono ?_
    rintro e w1 ⟨rfl, rfl⟩
    rw [hb]
    go_wp2_with fail
    go_ret3
    exact ⟨rfl, Below.refl _ _⟩

theorem lead_blank (s : ByteArray) (k : Nat) (h : k < s.size) : leadN s blanksT k = if blankU s[k] = true then leadN s blanksT (k + 1) + 1 else 0 := by
  rw [leadN_step s _ k h, blanks_contains]

set_option maxRecDepth 100000 in
set_option maxHeartbeats 4000000 in
theorem refHead_yes (s : ByteArray) (w : World) (hs : s.size ≤ 1000000) (n f : Nat) (hn : lead s ⟨#[35]⟩ = n) (hf : headFrom s = f) (h1 : 1 ≤ n) (h6 : n ≤ 6) (hc : n < s.size → ∃ h : n < s.size, blankU s[n] = true) (a b c : Nat) (hF : headF s = (a, b, c)) (hi : headIs s = true) :
    Calls Tryd.prog 16 #[.string s] w fun e w' => e = .returned (.tuple #[.int .i64 (a : Nat), .int .i64 (b : Nat), .int .i64 (c : Nat)]) ∧ Below w.heap.size w w' := by
  have q1 := fun w => refmany_calls s 35 35 rfl w hs
  have hle := lead_le s ⟨#[35]⟩
  have hff : f = n + leadN s blanksT n := by rw [← hf, ← hn]; unfold headFrom levelF; rw [lead_i]
  have hfl := (headFrom_le s).2
  have hfn := (headFrom_le s).1
  rw [hf] at hfl hfn
  unfold levelF at hfn
  rw [hn] at hfn hle q1
  have HF := Lib.hid hF
  have HFF := Lib.hid hff
  have HFR := Lib.hid hf
  have HN := Lib.hid hn
  clear hF hff hf hn
  have d1 : decide ((n : Int) < 1) = false := decide_eq_false (by omega)
  have d2 : decide ((6 : Int) < (n : Int)) = false := decide_eq_false (by omega)
  go_enter Tryd.func16, Tryd.ntmps16
  go_wp2_with fail
  refine (q1 _).mono ?_
  rintro e w1 ⟨rfl, rfl⟩
  clear q1
  go_upto_region 2 with (fail)
  go_cut [29] (fun v wx => v = .bool false ∧ wx = w1)
  case first =>
    by_cases hlt : n < s.size
    · obtain ⟨_, hb⟩ := hc hlt
      have j0 : (0 : Int) ≤ (n : Int) := by omega
      have j1 : (n : Int) < (s.size : Int) := by omega
      clear hc
      go_wp2_with fail
      refine (refblank_calls s[n] _).mono ?_
      rintro e w1 ⟨rfl, rfl⟩
      rw [hb]
      go_wp2_with fail
      go_meet
      exact ⟨rfl, rfl⟩
    · have j1 : decide ((n : Int) < (s.size : Int)) = false := decide_eq_false (by omega)
      clear hc
      go_wp2_with fail
      go_meet
      exact ⟨rfl, rfl⟩
  case rest =>
    obtain ⟨rfl, rfl⟩ := hcut
    clear hc
    go_upto_block 0 with (fail)
    go_cut [6] (fun v wx => v = .int .i64 f ∧ wx = wc)
    case first =>
      go_wp2_with fail
      go_loopw [6] (fun i wr => ∃ k : Nat, k ≤ s.size ∧ i = .int .i64 k ∧ Hid (f = k + leadN s blanksT k) ∧ wr = wc) (fun i _ => s.size - (RowKit.intOf i).toNat)
      case atStart => exact ⟨n, hle, rfl, HFF, rfl⟩
      case round =>
        obtain ⟨k, hk, rfl, he, rfl⟩ := hrel
        by_cases hlt : k < s.size
        · have d1 : decide ((k : Int) < (s.size : Int)) = true := by simpa using hlt
          have i0 : (0 : Int) ≤ (k : Int) := by omega
          have i1 : (k : Int) < (s.size : Int) := by omega
          have hst := Lib.hid (lead_blank s k hlt)
          cases hb : blankU s[k] with
          | true =>
            go_wp2_with fail
            refine (refblank_calls s[k] _).mono ?_
            rintro e w1 ⟨rfl, rfl⟩
            rw [hb]
            go_wp2_with fail
            go_round
            case measure => simp [RowKit.intOf] <;> omega
            case rel => exact ⟨k + 1, by omega, by go_num, (by show _ = _; rw [he.out, hst.out, if_pos hb]; omega), trivial⟩
          | false =>
            go_wp2_with fail
            refine (refblank_calls s[k] _).mono ?_
            rintro e w1 ⟨rfl, rfl⟩
            rw [hb]
            go_wp2_with fail
            go_meet
            exact ⟨(by rw [he.out, hst.out, hb]; simp), rfl⟩
        · have d1 : decide ((k : Int) < (s.size : Int)) = false := decide_eq_false (by omega)
          have hen := Lib.hid (leadN_end s blanksT k (by omega))
          go_wp2_with fail
          go_meet
          exact ⟨(by rw [he.out, hen.out]; simp), rfl⟩
    case rest =>
      obtain ⟨rfl, rfl⟩ := hcut
      go_upto_block 2 with (fail)
      go_cut [7] (fun v wx => ∃ e : Nat, f ≤ e ∧ e ≤ s.size ∧ v = .int .i64 e ∧ Aside (s.extract f e = trimR (s.extract f s.size) blanksT) ∧ wx = wc)
      case first =>
        go_wp2_with fail
        go_loopw [7] (fun i wr => ∃ e : Nat, f ≤ e ∧ e ≤ s.size ∧ i = .int .i64 e ∧ Hid (trimR (s.extract f e) blanksT = trimR (s.extract f s.size) blanksT) ∧ wr = wc) (fun i _ => (RowKit.intOf i).toNat)
        case atStart => exact ⟨s.size, hfl, Nat.le_refl _, rfl, rfl, rfl⟩
        case round =>
          obtain ⟨e, he0, he1, rfl, he, rfl⟩ := hrel
          by_cases hlt : f < e
          · have d1 : decide ((f : Int) < (e : Int)) = true := decide_eq_true (by omega)
            have j0 : (0 : Int) ≤ (e : Int) - 1 := by omega
            have j1 : (e : Int) - 1 < (s.size : Int) := by omega
            have ej : ((e : Int) - 1).toNat = e - 1 := by omega
            have w1 := IntWalk.i64_in ((e : Int) - 1) (by omega)
            have y1 := fun h => Lib.hid (back_yes s blanksT f e hlt he1 h)
            have y2 := fun h => Lib.hid (back_no s blanksT f e hlt he1 h)
            rw [blanks_contains] at y1 y2
            cases hb : blankU s[e - 1] with
            | true =>
              have y := Lib.hid (y1 hb).out
              clear y1 y2
              go_wp2_with fail
              refine (refblank_calls s[e - 1] _).mono ?_
              rintro e w1 ⟨rfl, rfl⟩
              rw [hb]
              go_wp2_with fail
              exact ⟨⟨e - 1, by omega, by omega, by go_num, (by show _ = _; rw [← y.out, he.out]), trivial⟩, by simp [RowKit.intOf]; omega⟩
            | false =>
              have y := Lib.hid (y2 hb).out
              clear y1 y2
              go_wp2_with fail
              refine (refblank_calls s[e - 1] _).mono ?_
              rintro e w1 ⟨rfl, rfl⟩
              rw [hb]
              go_wp2_with fail
              go_meet
              exact ⟨e, he0, he1, rfl, (by show _ = _; rw [← he.out, y.out]), rfl⟩
          · obtain rfl : e = f := by omega
            have y := Lib.hid (back_end s blanksT e he1)
            have d1 : decide ((e : Int) < (e : Int)) = false := decide_eq_false (by omega)
            go_wp2_with fail
            go_meet
            exact ⟨e, Nat.le_refl _, he1, rfl, (by show _ = _; rw [← he.out, y.out]), rfl⟩
      case rest =>
        obtain ⟨e, he0, he1, rfl, hC, rfl⟩ := hcut
        go_upto_block 4 with (fail)
        go_cut [8] (fun v wx => ∃ k : Nat, f ≤ k ∧ k ≤ e ∧ v = .int .i64 k ∧ Aside (s.extract f k = trimR (s.extract f e) ⟨#[35]⟩) ∧ wx = wc)
        case first =>
          clear hC
          go_wp2_with fail
          go_loopw [8] (fun i wr => ∃ k : Nat, f ≤ k ∧ k ≤ e ∧ i = .int .i64 k ∧ Hid (trimR (s.extract f k) ⟨#[35]⟩ = trimR (s.extract f e) ⟨#[35]⟩) ∧ wr = wc) (fun i _ => (RowKit.intOf i).toNat)
          case atStart => exact ⟨e, he0, Nat.le_refl _, rfl, rfl, rfl⟩
          case round =>
            obtain ⟨k, hk0, hk1, rfl, hk, rfl⟩ := hrel
            by_cases hlt : f < k
            · have d1 : decide ((f : Int) < (k : Int)) = true := decide_eq_true (by omega)
              have j0 : (0 : Int) ≤ (k : Int) - 1 := by omega
              have j1 : (k : Int) - 1 < (s.size : Int) := by omega
              have ej : ((k : Int) - 1).toNat = k - 1 := by omega
              have w1 := IntWalk.i64_in ((k : Int) - 1) (by omega)
              have hzz : k ≤ s.size := by omega
              have y1 := fun h => Lib.hid (back_yes s ⟨#[35]⟩ f k hlt hzz h)
              have y2 := fun h => Lib.hid (back_no s ⟨#[35]⟩ f k hlt hzz h)
              rw [one_contains] at y1 y2
              have hu : ((s[k - 1].toNat : Int) == 35) = (s[k - 1] == 35) := u8_eq s[k - 1] 35
              cases hb : (s[k - 1] == 35) with
              | true =>
                have y := Lib.hid (y1 hb).out
                rw [hb] at hu
                clear y1 y2
                go_wp2_with fail
                exact ⟨⟨k - 1, by omega, by omega, by go_num, (by show _ = _; rw [← y.out, hk.out]), trivial⟩, by simp [RowKit.intOf]; omega⟩
              | false =>
                have y := Lib.hid (y2 hb).out
                rw [hb] at hu
                clear y1 y2
                go_wp2_with fail
                go_meet
                exact ⟨k, hk0, hk1, rfl, (by show _ = _; rw [← hk.out, y.out]), rfl⟩
            · obtain rfl : k = f := by omega
              have y := Lib.hid (back_end s ⟨#[35]⟩ k (by omega))
              have d1 : decide ((k : Int) < (k : Int)) = false := decide_eq_false (by omega)
              go_wp2_with fail
              go_meet
              exact ⟨k, Nat.le_refl _, hk1, rfl, (by show _ = _; rw [← hk.out, y.out]), rfl⟩
        case rest =>
          obtain ⟨k, hk0, hk1, rfl, hO, rfl⟩ := hcut
          by_cases hkeep : k = e ∨ ∃ h : f < k, blankU s[k - 1] = false
          · have hfin : Hid ((a, b, c) = (n, f, e)) := by
              show _ = _
              rw [← HF.out, headF_keep s hi f e k HFR.out he1 hk0 hk1 hC.out hO.out hkeep]
              unfold levelF; rw [HN.out]
            clear hC hO
            go_upto_region 13 with (fail)
            go_cut [84] (fun v wx => v = .bool false ∧ wx = wc)
            case first =>
              rcases hkeep with rfl | ⟨hlt, hb⟩
              · have d1 : decide ((k : Int) < (k : Int)) = false := decide_eq_false (by omega)
                go_wp2_with fail
                go_meet
                exact ⟨rfl, rfl⟩
              · by_cases hke : k < e
                · have d1 : decide ((k : Int) < (e : Int)) = true := decide_eq_true (by omega)
                  have d2 : ((k : Int) == (f : Int)) = false := by simp; omega
                  have j0 : (0 : Int) ≤ (k : Int) - 1 := by omega
                  have j1 : (k : Int) - 1 < (s.size : Int) := by omega
                  have ej : ((k : Int) - 1).toNat = k - 1 := by omega
                  have w1 := IntWalk.i64_in ((k : Int) - 1) (by omega)
                  go_wp2_with fail
                  refine (refblank_calls s[k - 1] _).mono ?_
                  rintro e w1 ⟨rfl, rfl⟩
                  rw [hb]
                  go_wp2_with fail
                  go_meet
                  exact ⟨rfl, rfl⟩
                · have d1 : decide ((k : Int) < (e : Int)) = false := decide_eq_false (by omega)
                  go_wp2_with fail
                  go_meet
                  exact ⟨rfl, rfl⟩
            case rest =>
              obtain ⟨rfl, rfl⟩ := hcut
              clear hkeep
              go_wp2_with fail
              go_ret3
              exact ⟨(by have h := hfin.out; simp only [Prod.mk.injEq] at h; obtain ⟨h1, h2, h3⟩ := h; rw [h1, h2, h3]; rfl), Below.refl _ _⟩
          · have hcutc : k = f ∨ ∃ h : f < k, blankU s[k - 1] = true := by
              by_cases hkf : k = f
              · exact Or.inl hkf
              · have hlt : f < k := by omega
                cases hb : blankU s[k - 1] with
                | true => exact Or.inr ⟨hlt, hb⟩
                | false => exact absurd (Or.inr ⟨hlt, hb⟩) hkeep
            have hke : k < e := by
              by_cases h : k = e
              · exact absurd (Or.inl h) hkeep
              · omega
            clear hkeep
            have hfin2 : ∀ j, f ≤ j → j ≤ k → s.extract f j = trimR (s.extract f k) blanksT → (a, b, c) = (n, f, j) := fun j j0 j1 hj => by
              rw [← HF.out, headF_cut s hi f e k j HFR.out he1 hk0 hk1 hC.out hO.out j0 j1 hj hcutc]
              unfold levelF; rw [HN.out]
            have HF2 := Lib.hid hfin2
            clear hC hO hfin2
            go_upto_region 13 with (fail)
            go_cut [84] (fun v wx => v = .bool true ∧ wx = wc)
            case first =>
              have d1 : decide ((k : Int) < (e : Int)) = true := decide_eq_true (by omega)
              by_cases hkf : k = f
              · obtain rfl := hkf
                clear hcutc
                have d2 : ((k : Int) == (k : Int)) = true := by simp
                go_wp2_with fail
                go_meet
                exact ⟨rfl, rfl⟩
              · have hb : blankU (s[k - 1]'(by omega)) = true := by
                  rcases hcutc with h | ⟨h, hb⟩
                  · exact absurd h hkf
                  · exact hb
                clear hcutc
                have d2 : ((k : Int) == (f : Int)) = false := by simp; omega
                have j0 : (0 : Int) ≤ (k : Int) - 1 := by omega
                have j1 : (k : Int) - 1 < (s.size : Int) := by omega
                have ej : ((k : Int) - 1).toNat = k - 1 := by omega
                have w1 := IntWalk.i64_in ((k : Int) - 1) (by omega)
                go_wp2_with fail
                refine (refblank_calls s[k - 1] _).mono ?_
                rintro e w1 ⟨rfl, rfl⟩
                rw [hb]
                go_wp2_with fail
                go_meet
                exact ⟨rfl, rfl⟩
            case rest =>
              obtain ⟨rfl, rfl⟩ := hcut
              clear hcutc
              go_upto_block 6 with (fail)
              go_cut [8] (fun v wx => ∃ j : Nat, f ≤ j ∧ j ≤ k ∧ v = .int .i64 j ∧ Aside (s.extract f j = trimR (s.extract f k) blanksT) ∧ wx = wc)
              case first =>
                clear HF2
                go_wp2_with fail
                go_loopw [8] (fun i wr => ∃ j : Nat, f ≤ j ∧ j ≤ k ∧ i = .int .i64 j ∧ Hid (trimR (s.extract f j) blanksT = trimR (s.extract f k) blanksT) ∧ wr = wc) (fun i _ => (RowKit.intOf i).toNat)
                case atStart => exact ⟨k, hk0, Nat.le_refl _, rfl, rfl, rfl⟩
                case round =>
                  obtain ⟨j, hj0, hj1, rfl, hj, rfl⟩ := hrel
                  by_cases hlt : f < j
                  · have d1 : decide ((f : Int) < (j : Int)) = true := decide_eq_true (by omega)
                    have j0 : (0 : Int) ≤ (j : Int) - 1 := by omega
                    have j1 : (j : Int) - 1 < (s.size : Int) := by omega
                    have ej : ((j : Int) - 1).toNat = j - 1 := by omega
                    have w1 := IntWalk.i64_in ((j : Int) - 1) (by omega)
                    have hzz : j ≤ s.size := by omega
                    have y1 := fun h => Lib.hid (back_yes s blanksT f j hlt hzz h)
                    have y2 := fun h => Lib.hid (back_no s blanksT f j hlt hzz h)
                    rw [blanks_contains] at y1 y2
                    cases hb : blankU s[j - 1] with
                    | true =>
                      have y := Lib.hid (y1 hb).out
                      clear y1 y2
                      go_wp2_with fail
                      refine (refblank_calls s[j - 1] _).mono ?_
                      rintro e w1 ⟨rfl, rfl⟩
                      rw [hb]
                      go_wp2_with fail
                      exact ⟨⟨j - 1, by omega, by omega, by go_num, (by show _ = _; rw [← y.out, hj.out]), trivial⟩, by simp [RowKit.intOf]; omega⟩
                    | false =>
                      have y := Lib.hid (y2 hb).out
                      clear y1 y2
                      go_wp2_with fail
                      refine (refblank_calls s[j - 1] _).mono ?_
                      rintro e w1 ⟨rfl, rfl⟩
                      rw [hb]
                      go_wp2_with fail
                      go_meet
                      exact ⟨j, hj0, hj1, rfl, (by show _ = _; rw [← hj.out, y.out]), rfl⟩
                  · obtain rfl : j = f := by omega
                    have y := Lib.hid (back_end s blanksT j (by omega))
                    have d1 : decide ((j : Int) < (j : Int)) = false := decide_eq_false (by omega)
                    go_wp2_with fail
                    go_meet
                    exact ⟨j, Nat.le_refl _, hj1, rfl, (by show _ = _; rw [← hj.out, y.out]), rfl⟩
              case rest =>
                obtain ⟨j, hj0, hj1, rfl, hD, rfl⟩ := hcut
                have hfin := Lib.hid (HF2.out j hj0 hj1 hD.out)
                clear HF2 hD
                go_wp2_with fail
                go_ret3
                exact ⟨(by have h := hfin.out; simp only [Prod.mk.injEq] at h; obtain ⟨h1, h2, h3⟩ := h; rw [h1, h2, h3]; rfl), Below.refl _ _⟩

theorem refHead_calls (s : ByteArray) (w : World) (hs : s.size ≤ 1000000) :
    Calls Tryd.prog 16 #[.string s] w fun e w' => e = .returned (.tuple #[.int .i64 ((headF s).1 : Nat), .int .i64 ((headF s).2.1 : Nat), .int .i64 ((headF s).2.2 : Nat)]) ∧ Below w.heap.size w w' := by
  cases hi : headIs s with
  | false => rw [headF_no s hi]; exact refHead_no s w hs hi
  | true =>
    obtain ⟨h1, h6, he⟩ : 1 ≤ levelF s ∧ levelF s ≤ 6 ∧ endsB (s.extract (levelF s) s.size) = true := by
      have h := hi
      unfold headIs at h
      simp only [Bool.and_eq_true, decide_eq_true_eq] at h
      exact h
    refine refHead_yes s w hs (levelF s) (headFrom s) rfl rfl h1 h6 (fun h => ⟨h, ?_⟩) _ _ _ rfl hi
    rw [← ends_i s _ h]; exact he

end Go.Proofs.YtngikakigkfbnaaDoor
