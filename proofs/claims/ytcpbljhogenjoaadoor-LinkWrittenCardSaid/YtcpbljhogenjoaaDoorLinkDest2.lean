/- Walks: link.Dest. -/
import Derived.Test.YtcpbljhogenjoaaDoorLinkDest
namespace Go.Proofs.YtcpbljhogenjoaaDoor
set_option linter.unusedVariables false
set_option linter.unusedSimpArgs false
open Go Go.RowKit Go.Shelf Go.Lib

theorem ang_contains (c : UInt8) : (ByteArray.mk #[10, 60, 62]).data.toList.contains c = angU c := by
  show [10, 60, 62].contains c = _
  unfold angU
  simp only [List.contains, List.elem]
  cases (c == 10) <;> cases (c == 60) <;> cases (c == 62) <;> rfl

theorem dest_ang (t : ByteArray) (h : Lib.hasPrefix t.data.toList [60] = true) (e : Nat) (he : upF t angU 1 = e) :
    destF t 0 = if (decide (e < t.size) && byteU t e == 62) = true then (plainF (t.extract 1 e), e + 1) else (⟨#[]⟩, 0) := by
  rw [pre_at0] at h
  unfold destF
  rw [if_pos h]
  simp only [Nat.zero_add, he, Nat.sub_zero]

theorem bareI_bd (t : ByteArray) : -1 ≤ bareI t ∧ bareI t ≤ t.size := by
  unfold bareI
  cases h : bareF t 0 with
  | none => exact ⟨Int.le_refl _, by show (-1 : Int) ≤ _; omega⟩
  | some e =>
    have := bareF_bd t 0 e (Nat.zero_le _) h
    show (-1 : Int) ≤ (e : Int) ∧ (e : Int) ≤ t.size
    omega

theorem dest_bare (t : ByteArray) (h : Lib.hasPrefix t.data.toList [60] = false) :
    destF t 0 = if 0 ≤ bareI t then (plainF (t.extract 0 (bareI t).toNat), (bareI t).toNat) else (⟨#[]⟩, 0) := by
  rw [pre_at0] at h
  unfold destF bareI
  rw [if_neg (by rw [h]; decide)]
  cases bareF t 0 with
  | none => rfl
  | some e => simp

set_option maxHeartbeats 4000000 in
set_option maxRecDepth 100000 in
theorem Dest_calls (s : ByteArray) (a : Int) (w : World) (hE : EnvE w) (hs : s.size ≤ 1000000) :
    Calls Tryd.prog 7 #[.string s, .int .i64 a] w fun e w' => e = .returned (.tuple #[.string (destI s a).1, .int .i64 ((destI s a).2 : Nat)]) ∧ Below w.heap.size w w' := by
  have HE := Lib.hid hE
  clear hE
  have hres : Hid (destI s a = destF (fromF s a) 0) := rfl
  have hfz := fromF_le s a
  have hfr := fun w => from_calls s a w hs
  generalize fromF s a = t at *
  have hts : t.size ≤ 1000000 := by omega
  have hpr := fun w => Tryd.strings_HasPrefix t ⟨#[60]⟩ w
  cases hp : Lib.hasPrefix t.data.toList [60] with
  | false =>
    have hb := dest_bare t hp
    have hbd := bareI_bd t
    have hbc := fun w => bare_calls t w hts
    have hpl := fun e w hE => Plain_calls' (t.extract 0 e) w hE (by rw [ByteArray.size_extract]; omega)
    rw [show (ByteArray.mk #[60]).data.toList = [60] from rfl, hp] at hpr
    clear hfz hp
    by_cases h0 : bareI t < 0
    · have hr : Hid (destI s a = (⟨#[]⟩, 0)) := by show _ = _; rw [hres.out, hb, if_neg (by omega)]
      clear hb hres
      generalize bareI t = v at *
      have d0 : decide (v < 0) = true := decide_eq_true h0
      go_enter Tryd.func7, Tryd.ntmps7
      go_wp2_with fail
      refine (hfr _).mono ?_
      rintro e w1 ⟨rfl, rfl⟩
      go_wp2_with fail
      refine (hpr _).mono ?_
      rintro e w1 ⟨rfl, rfl⟩
      go_wp2_with fail
      refine (hbc _).mono ?_
      rintro e w1 ⟨rfl, hB⟩
      go_wp2_with fail
      go_ret2
      exact ⟨ret_si (by rw [hr.out]) (by rw [hr.out]; rfl), hB⟩
    · obtain ⟨n, hn⟩ : ∃ n : Nat, bareI t = n := ⟨(bareI t).toNat, by omega⟩
      have hr : Hid (destI s a = (plainF (t.extract 0 n), n)) := by
        show _ = _
        rw [hres.out, hb, if_pos (by omega), hn]; rfl
      rw [hn] at hbc hbd
      clear hb hres h0 hn
      have i0 : (0 : Int) ≤ (n : Int) := by omega
      have i1 : (n : Int) ≤ (t.size : Int) := by omega
      have d0 : decide ((n : Int) < 0) = false := decide_eq_false (by omega)
      go_enter Tryd.func7, Tryd.ntmps7
      go_wp2_with fail
      refine (hfr _).mono ?_
      rintro e w1 ⟨rfl, rfl⟩
      go_wp2_with fail
      refine (hpr _).mono ?_
      rintro e w1 ⟨rfl, rfl⟩
      go_wp2_with fail
      refine (hbc _).mono ?_
      rintro e w1 ⟨rfl, hB⟩
      go_wp2_with fail
      refine (hpl n _ (HE.out.below hB)).mono ?_
      rintro e w2 ⟨rfl, hB2⟩
      go_wp2_with fail
      go_ret2
      exact ⟨ret_si (by rw [hr.out]) (by rw [hr.out]), hB.trans (hB2.mono hB.size)⟩
  | true =>
    have h0 := pre_pos t 60 hp
    have hof := Lib.hid (dest_ang t hp _ rfl)
    have hup := fun w => upTo_calls t ⟨#[10, 60, 62]⟩ angU ang_contains 1 (by omega) w hts
    have hge := upF_ge t angU 1
    have hpl := fun e w hE => Plain_calls' (t.extract 1 e) w hE (by rw [ByteArray.size_extract]; omega)
    rw [show (ByteArray.mk #[60]).data.toList = [60] from rfl, hp] at hpr
    unfold upI at hup
    generalize upF t angU 1 = e at *
    clear hp hfz
    by_cases he : e < t.size
    · rw [if_pos he] at hup
      have i0 : (0 : Int) ≤ (e : Int) := by omega
      have i1 : (e : Int) < (t.size : Int) := by omega
      have i2 : (1 : Int) ≤ (e : Int) := by omega
      have i3 : (e : Int) ≤ (t.size : Int) := by omega
      have ub : ((t[e].toNat : Int) != 62) = !(t[e] == 62) := by rw [bne, show ((t[e].toNat : Int) == 62) = (t[e] == 62) from u8_eq t[e] 62]
      cases b : (t[e] == 62) with
      | true =>
        have hr : Hid (destI s a = (plainF (t.extract 1 e), e + 1)) := by show _ = _; rw [hres.out, hof.out, byteU_in t e he, b, decide_eq_true he]; rfl
        rw [b] at ub
        simp only [Bool.not_true, Bool.not_false] at ub
        clear hof hres
        go_enter Tryd.func7, Tryd.ntmps7
        go_wp2_with fail
        refine (hfr _).mono ?_
        rintro e w1 ⟨rfl, rfl⟩
        go_wp2_with fail
        refine (hpr _).mono ?_
        rintro e w1 ⟨rfl, rfl⟩
        go_wp2_with fail
        refine (hup _).mono ?_
        rintro e' w1 ⟨rfl, hB⟩
        go_wp2_with fail
        refine (hpl e _ (HE.out.below hB)).mono ?_
        rintro e' w2 ⟨rfl, hB2⟩
        go_wp2_with fail
        go_ret2
        exact ⟨ret_si (by rw [hr.out]) (by rw [hr.out]; try rfl), hB.trans (hB2.mono hB.size)⟩
      | false =>
        have hr : Hid (destI s a = (⟨#[]⟩, 0)) := by show _ = _; rw [hres.out, hof.out, byteU_in t e he, b]; simp
        rw [b] at ub
        simp only [Bool.not_true, Bool.not_false] at ub
        clear hof hres
        go_enter Tryd.func7, Tryd.ntmps7
        go_wp2_with fail
        refine (hfr _).mono ?_
        rintro e w1 ⟨rfl, rfl⟩
        go_wp2_with fail
        refine (hpr _).mono ?_
        rintro e w1 ⟨rfl, rfl⟩
        go_wp2_with fail
        refine (hup _).mono ?_
        rintro e' w1 ⟨rfl, hB⟩
        go_wp2_with fail
        go_ret2
        exact ⟨ret_si (by rw [hr.out]) (by rw [hr.out]; rfl), hB⟩
    · rw [if_neg he] at hup
      have hr : Hid (destI s a = (⟨#[]⟩, 0)) := by show _ = _; rw [hres.out, hof.out, decide_eq_false he]; rfl
      clear hof hres
      go_enter Tryd.func7, Tryd.ntmps7
      go_wp2_with fail
      refine (hfr _).mono ?_
      rintro e w1 ⟨rfl, rfl⟩
      go_wp2_with fail
      refine (hpr _).mono ?_
      rintro e w1 ⟨rfl, rfl⟩
      go_wp2_with fail
      refine (hup _).mono ?_
      rintro e' w1 ⟨rfl, hB⟩
      go_wp2_with fail
      go_ret2
      exact ⟨ret_si (by rw [hr.out]) (by rw [hr.out]; rfl), hB⟩

end Go.Proofs.YtcpbljhogenjoaaDoor
