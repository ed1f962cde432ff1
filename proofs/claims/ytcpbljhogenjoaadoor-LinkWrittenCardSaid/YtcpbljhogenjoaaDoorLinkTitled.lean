/- Walks: link.titled. -/
import Derived.Test.YtcpbljhogenjoaaDoorLinkDest2
namespace Go.Proofs.YtcpbljhogenjoaaDoor
set_option linter.unusedVariables false
set_option linter.unusedSimpArgs false
open Go Go.RowKit Go.Shelf Go.Lib

theorem tail_gapN (s : ByteArray) (a : Nat) : gapN s a = a + gapN (s.extract a s.size) 0 := by
  unfold gapN skipN
  rw [leadN_tail, Nat.add_zero, Nat.zero_add]
theorem gapN_le (s : ByteArray) (a : Nat) (h : a ≤ s.size) : gapN s a ≤ s.size := skip_le s gapT a h
theorem tail_gapOK (s : ByteArray) (a : Nat) (h : a ≤ s.size) : gapOK s a = gapOK (s.extract a s.size) 0 := by
  unfold gapOK
  have hl := gapN_le (s.extract a s.size) 0 (Nat.zero_le _)
  rw [tail_sz] at hl
  rw [tail_ext s a 0 _ h hl, ← tail_gapN, Nat.add_zero]

theorem tail_rest (s : ByteArray) (a : Nat) (h : a ≤ s.size) : restF2 s a = (restF2 (s.extract a s.size) 0).map (a + ·) := by
  unfold restF2 skipN
  simp only [leadN_tail, tail_byte, tail_sz, Nat.zero_add, Nat.add_zero]
  generalize leadN s blanksT a = n
  by_cases h1 : s.size ≤ a + n
  · rw [if_pos h1, if_pos (show s.size - a ≤ n by omega)]; rfl
  · rw [if_neg h1, if_neg (show ¬ s.size - a ≤ n by omega)]
    split
    · simp; omega
    · rfl

theorem titleF_bd (s : ByteArray) (a : Nat) (h : a ≤ s.size) : a + (titleF s a).2 ≤ s.size := by
  unfold titleF
  split
  · have := upF_ge s (tstopU (byteU s a)) (a + 1)
    simp only []
    split
    · rename_i h2
      simp only [Bool.and_eq_true, decide_eq_true_eq] at h2
      dsimp only
      omega
    · exact h
  · exact h
theorem restF2_bd (s : ByteArray) (a e : Nat) (h : a ≤ s.size) (he : restF2 s a = some e) : a ≤ e ∧ e ≤ s.size := by
  unfold restF2 at he
  have h1 := skip_le s blanksT a h
  have h2 := skip_ge s blanksT a
  simp only [] at he
  split at he
  · cases he; omega
  · split at he
    · cases he; omega
    · cases he
theorem restP_bd (s : ByteArray) : 0 ≤ (restP s).1 ∧ (restP s).1 ≤ s.size := by
  unfold restP
  cases h : restF2 s 0 with
  | none => exact ⟨Int.le_refl _, by show (0 : Int) ≤ _; omega⟩
  | some e =>
    have := restF2_bd s 0 e (Nat.zero_le _) h
    show (0 : Int) ≤ (e : Int) ∧ (e : Int) ≤ s.size
    omega

structure TitR where
  title : ByteArray
  upto : Int
  fin : Int
  ok : Bool

/-- what titled answers -/
def titledP (s : ByteArray) (a : Nat) : TitR :=
  if (decide (gapN (s.extract a s.size) 0 = 0) || !gapOK (s.extract a s.size) 0) = true then ⟨⟨#[]⟩, 0, 0, false⟩
  else
    let b := a + gapN (s.extract a s.size) 0
    let p := titleF s b
    let r := restP (s.extract (b + p.2) s.size)
    ⟨p.1, ((b + p.2 : Nat) : Int), ((b + p.2 : Nat) : Int) + r.1, r.2 && decide (0 < p.2)⟩

theorem titledF_eq (s : ByteArray) (a : Nat) (h : a ≤ s.size) : titledF s a = if (titledP s a).ok = true then some ((titledP s a).title, (titledP s a).upto.toNat, (titledP s a).fin.toNat) else none := by
  have hg := gapN_le s a h
  unfold titledF titledP
  rw [tail_gapOK s a h, tail_gapN s a]
  rw [tail_gapN s a] at hg
  generalize gapN (s.extract a s.size) 0 = n at *
  simp only []
  by_cases hn : n = 0
  · subst hn; simp
  · have d1 : decide (a < a + n) = true := decide_eq_true (by omega)
    have d2 : decide (n = 0) = false := decide_eq_false hn
    rw [d1, d2]
    cases gapOK (s.extract a s.size) 0 with
    | false => simp
    | true =>
      simp only [Bool.true_and, Bool.false_or, Bool.not_true, Bool.false_eq_true, if_false, if_true]
      have hb := titleF_bd s (a + n) hg
      generalize titleF s (a + n) = p at *
      by_cases hp : 0 < p.2
      · rw [if_pos hp, decide_eq_true hp, Bool.and_true, tail_rest s _ hb]
        unfold restP
        cases hr : restF2 (s.extract (a + n + p.2) s.size) 0 with
        | none => rfl
        | some e => simp; omega
      · rw [if_neg hp, decide_eq_false hp, Bool.and_false]; rfl

set_option maxHeartbeats 4000000 in
set_option maxRecDepth 100000 in
theorem titled_calls (s : ByteArray) (a : Nat) (ha : a ≤ s.size) (w : World) (hE : EnvE w) (hs : s.size ≤ 1000000) :
    Calls Tryd.prog 24 #[.string s, .int .i64 (a : Nat)] w fun e w' => e = .returned (.tuple #[.string (titledP s a).title, .int .i64 (titledP s a).upto, .int .i64 (titledP s a).fin, .bool (titledP s a).ok]) ∧ Below w.heap.size w w' := by
  have HE := Lib.hid hE
  clear hE
  have hres : Hid (titledP s a = if (decide (gapN (s.extract a s.size) 0 = 0) || !gapOK (s.extract a s.size) 0) = true then ⟨⟨#[]⟩, 0, 0, false⟩ else ⟨(titleF s (a + gapN (s.extract a s.size) 0)).1, ((a + gapN (s.extract a s.size) 0 + (titleF s (a + gapN (s.extract a s.size) 0)).2 : Nat) : Int), ((a + gapN (s.extract a s.size) 0 + (titleF s (a + gapN (s.extract a s.size) 0)).2 : Nat) : Int) + (restP (s.extract (a + gapN (s.extract a s.size) 0 + (titleF s (a + gapN (s.extract a s.size) 0)).2) s.size)).1, (restP (s.extract (a + gapN (s.extract a s.size) 0 + (titleF s (a + gapN (s.extract a s.size) 0)).2) s.size)).2 && decide (0 < (titleF s (a + gapN (s.extract a s.size) 0)).2)⟩) := rfl
  have hg := gapN_le s a ha
  rw [tail_gapN s a] at hg
  have hgc := fun w => gap_calls (s.extract a s.size) w (by rw [tail_sz]; omega)
  generalize gapN (s.extract a s.size) 0 = n at *
  generalize gapOK (s.extract a s.size) 0 = ok at *
  have i0 : (0 : Int) ≤ (a : Int) := by omega
  have i1 : (a : Int) ≤ (s.size : Int) := by omega
  by_cases hn : n = 0
  · have hr : Hid (titledP s a = ⟨⟨#[]⟩, 0, 0, false⟩) := by show _ = _; rw [hres.out, decide_eq_true hn]; rfl
    have d0 : ((n : Int) == 0) = true := beq_iff_eq.2 (by omega)
    clear hres hg hn
    go_enter Tryd.func24, Tryd.ntmps24
    go_wp2_with fail
    refine (hgc _).mono ?_
    rintro e w1 ⟨rfl, hB⟩
    go_wp2_with fail
    refine bodyPost_ret (v := .tuple #[.string ⟨#[]⟩, .int .i64 0, .int .i64 0, .bool false]) (by simp [results, Tryd.results24, go_sem]) rfl ⟨?_, hB⟩
    rw [hr.out]
  · have d0 : ((n : Int) == 0) = false := beq_eq_false_iff_ne.2 (by omega)
    cases ok with
    | false =>
      have hr : Hid (titledP s a = ⟨⟨#[]⟩, 0, 0, false⟩) := by show _ = _; rw [hres.out]; simp
      clear hres hg hn
      go_enter Tryd.func24, Tryd.ntmps24
      go_wp2_with fail
      refine (hgc _).mono ?_
      rintro e w1 ⟨rfl, hB⟩
      go_wp2_with fail
      refine bodyPost_ret (v := .tuple #[.string ⟨#[]⟩, .int .i64 0, .int .i64 0, .bool false]) (by simp [results, Tryd.results24, go_sem]) rfl ⟨?_, hB⟩
      rw [hr.out]
    | true =>
      rw [decide_eq_false hn] at hres
      simp only [Bool.not_true, Bool.or_false, Bool.false_eq_true, if_false] at hres
      have hb := titleF_bd s (a + n) hg
      have htc := fun w hE => Title_calls s ((a + n : Nat) : Int) w hE hs
      rw [titleI_in s (a + n) hg] at htc
      have e1 : IntKind.i64.wrap ((a : Int) + (n : Int)) = ((a + n : Nat) : Int) := by rw [IntWalk.i64_in _ (by omega)]; omega
      generalize titleF s (a + n) = p at *
      obtain ⟨P1, P2⟩ := p
      simp only at *
      have hrc := fun w => rest_calls (s.extract (a + n + P2) s.size) w (by rw [tail_sz]; omega)
      have hrb := restP_bd (s.extract (a + n + P2) s.size)
      rw [tail_sz] at hrb
      have e2 : IntKind.i64.wrap (((a + n : Nat) : Int) + (P2 : Int)) = ((a + n + P2 : Nat) : Int) := by rw [IntWalk.i64_in _ (by omega)]; omega
      have e1' : IntKind.i64.wrap ((a : Int) + (n : Int)) = ((a + n : Nat) : Int) := e1
      generalize restP (s.extract (a + n + P2) s.size) = r at *
      obtain ⟨R1, R2⟩ := r
      simp only at *
      have e3 : IntKind.i64.wrap (((a + n + P2 : Nat) : Int) + R1) = ((a + n + P2 : Nat) : Int) + R1 := IntWalk.i64_in _ (by omega)
      generalize hk : a + n + P2 = K at *
      have i2 : (0 : Int) ≤ (K : Int) := by omega
      have i3 : (K : Int) ≤ (s.size : Int) := by omega
      clear hk hrb hg hn
      generalize a + n = b at *
      cases R2 with
      | false =>
        have hr : Hid (titledP s a = ⟨P1, K, (K : Int) + R1, false⟩) := by show _ = _; rw [hres.out]; rfl
        clear hres
        go_enter Tryd.func24, Tryd.ntmps24
        go_wp2_with fail
        refine (hgc _).mono ?_
        rintro e w1 ⟨rfl, hB⟩
        go_wp2_with fail
        refine (htc _ (HE.out.below hB)).mono ?_
        rintro e w2 ⟨rfl, hB2⟩
        replace hB2 := hB.trans (hB2.mono hB.size)
        clear hB
        go_wp2_with fail
        refine (hrc _).mono ?_
        rintro e w3 ⟨rfl, hB3⟩
        replace hB3 := hB2.trans (hB3.mono hB2.size)
        go_wp2_with fail
        refine bodyPost_ret (v := .tuple #[.string P1, .int .i64 K, .int .i64 ((K : Int) + R1), .bool false]) (by simp [results, Tryd.results24, go_sem]) rfl ⟨?_, hB3⟩
        rw [hr.out]
      | true =>
        have hr : Hid (titledP s a = ⟨P1, K, (K : Int) + R1, decide (0 < P2)⟩) := by show _ = _; rw [hres.out]; rfl
        clear hres
        go_enter Tryd.func24, Tryd.ntmps24
        go_wp2_with fail
        refine (hgc _).mono ?_
        rintro e w1 ⟨rfl, hB⟩
        go_wp2_with fail
        refine (htc _ (HE.out.below hB)).mono ?_
        rintro e w2 ⟨rfl, hB2⟩
        replace hB2 := hB.trans (hB2.mono hB.size)
        clear hB
        go_wp2_with fail
        refine (hrc _).mono ?_
        rintro e w3 ⟨rfl, hB3⟩
        replace hB3 := hB2.trans (hB3.mono hB2.size)
        go_wp2_with fail
        refine bodyPost_ret (v := .tuple #[.string P1, .int .i64 K, .int .i64 ((K : Int) + R1), .bool (decide ((0 : Int) < (P2 : Int)))]) (by simp [results, Tryd.results24, go_sem]) rfl ⟨?_, hB3⟩
        rw [hr.out]
        simp

end Go.Proofs.YtcpbljhogenjoaaDoor
