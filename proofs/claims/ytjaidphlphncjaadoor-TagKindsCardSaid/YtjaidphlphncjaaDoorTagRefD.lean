/- Walk: tag's reference: Open. -/
import Derived.Test.YtjaidphlphncjaaDoorTagRefC
namespace Go.Proofs.YtjaidphlphncjaaDoor
set_option linter.unusedVariables false
set_option linter.unusedSimpArgs false
open Go Go.RowKit Go.Lib

theorem letter_name (c : UInt8) (h : letterU c = true) : nameU c = true := by unfold nameU; rw [h]; rfl
theorem skip_name_gt (s : ByteArray) (a : Nat) (h : a < s.size) (hl : letterU (byteU s a) = true) : a < skipN s nameT a := by
  unfold skipN
  rw [leadN_at s nameT nameU name_contains a h, ← byteU_in s a h, if_pos (letter_name _ hl)]
  omega

theorem openN_of (s : ByteArray) (k : Nat) (h : openF s = some k) : openN s = k := by unfold openN; rw [h]; rfl
theorem openN_no (s : ByteArray) (h : openF s = none) : openN s = 0 := by unfold openN; rw [h]; rfl

theorem refOpen_no (s : ByteArray) (w : World) (hs : s.size ≤ 1000000) (h : s.size < 2 ∨ 2 ≤ s.size ∧ byteU s 0 ≠ 60) :
    Calls Tryd.prog 12 #[.string s] w fun e w' => e = .returned (.int .i64 (openN s : Nat)) ∧ Below w.heap.size w w' := by
  have hr : Hid (openN s = 0) := by
    show _ = _
    refine openN_no s ?_
    rcases h with h | ⟨_, h⟩
    · by_cases h60 : (byteU s 0 == 60) = true
      · have e1 : slashF s 1 = 1 := by unfold slashF; rw [if_neg (by rintro ⟨h1, _⟩; omega)]
        exact openF_word s h60 1 e1 (by rintro ⟨h1, _⟩; omega)
      · exact openF_no s (by simpa using h60)
    · exact openF_no s (by simpa using h)
  rcases h with h | ⟨h2, h⟩
  · have d1 : decide ((s.size : Int) < 2) = true := decide_eq_true (by omega)
    go_enter Tryd.func12, Tryd.ntmps12
    go_wp2_with fail
    go_ret
    exact ⟨ret_int (by rw [hr.out]; rfl), Below.refl _ _⟩
  · have d1 : decide ((s.size : Int) < 2) = false := decide_eq_false (by omega)
    have i1 : (0 : Int) < (s.size : Int) := by omega
    have i2 : 0 < s.size := by omega
    have hb := byteU_in s 0 (by omega)
    have d2 : ((s[0].toNat : Int) != 60) = true := by
      rw [show ((s[0].toNat : Int) != 60) = !(s[0] == 60) from ne_b s[0] 60, ← hb]
      simpa using h
    clear hb h
    go_enter Tryd.func12, Tryd.ntmps12
    go_wp2_with fail
    go_ret
    exact ⟨ret_int (by rw [hr.out]; rfl), Below.refl _ _⟩

set_option maxRecDepth 100000 in
set_option maxHeartbeats 4000000 in
theorem refOpen_close (s : ByteArray) (w : World) (hs : s.size ≤ 1000000) (h2 : 2 ≤ s.size) (h60 : byteU s 0 = 60) (h47 : byteU s 1 = 47) :
    Calls Tryd.prog 12 #[.string s] w fun e w' => e = .returned (.int .i64 (openN s : Nat)) ∧ Below w.heap.size w w' := by
  have hsl : slashF s 1 = 2 := by unfold slashF; rw [if_pos ⟨by omega, h47⟩]
  have hopen : openF s = if 2 < s.size ∧ letterU (byteU s 2) = true then closeF s (skipN s gapT (skipN s nameT 2)) else none := by
    by_cases h : 2 < s.size ∧ letterU (byteU s 2) = true
    · rw [if_pos h]; exact openF_close s (by simpa using h60) hsl h.1 h.2
    · rw [if_neg h]; exact openF_word s (by simpa using h60) 2 hsl h
  have hnp : nameP s 2 = if 2 < s.size ∧ letterU (byteU s 2) = true then skipN s nameT 2 else 2 := rfl
  have hgt := fun (h : 2 < s.size ∧ letterU (byteU s 2) = true) => skip_name_gt s 2 h.1 h.2
  have hle := skip_le s nameT 2 (by omega)
  have q1 := fun w => refname_calls s 2 w hs (by omega)
  have hkb : nameP s 2 ≤ s.size := by rw [hnp]; split <;> omega
  have q2 := fun w => refgaps_calls s (nameP s 2) w hs (by omega)
  have hcl := close_of s (skipN s gapT (nameP s 2))
  have hres : Hid (openN s = if 2 < nameP s 2 ∧ (byteU s (skipN s gapT (nameP s 2)) == 62) = true then skipN s gapT (nameP s 2) + 1 else 0) := by
    show _ = _
    by_cases h : 2 < s.size ∧ letterU (byteU s 2) = true
    · have e1 : nameP s 2 = skipN s nameT 2 := by rw [hnp, if_pos h]
      rw [if_pos h, ← e1, hcl] at hopen
      have e2 : 2 < nameP s 2 := by rw [e1]; exact hgt h
      by_cases h62 : (byteU s (skipN s gapT (nameP s 2)) == 62) = true
      · rw [if_pos h62] at hopen; rw [if_pos ⟨e2, h62⟩]; exact openN_of s _ hopen
      · rw [if_neg h62] at hopen; rw [if_neg (by rintro ⟨_, h⟩; exact h62 h)]; exact openN_no s hopen
    · have e1 : nameP s 2 = 2 := by rw [hnp, if_neg h]
      rw [if_neg h] at hopen
      rw [if_neg (by rintro ⟨h, _⟩; omega)]; exact openN_no s hopen
  clear hsl hopen hnp hgt hle hcl
  have d1 : decide ((s.size : Int) < 2) = false := decide_eq_false (by omega)
  have i1 : (0 : Int) < (s.size : Int) := by omega
  have i2 : (1 : Int) < (s.size : Int) := by omega
  have i3 : 0 < s.size := by omega
  have i4 : 1 < s.size := by omega
  have d2 : ((s[0].toNat : Int) != 60) = false := by rw [← byteU_in s 0 i3, h60]; rfl
  have d3 : ((s[1].toNat : Int) == 47) = true := by rw [← byteU_in s 1 i4, h47]; rfl
  generalize nameP s 2 = k at *
  generalize hg : skipN s gapT k = e1 at *
  have HG := Lib.hid hg
  clear h60 h47 hg
  go_enter Tryd.func12, Tryd.ntmps12
  go_wp2_with fail
  refine (q1 _).mono ?_
  rintro e w1 ⟨rfl, rfl⟩
  go_wp2_with fail
  refine (q2 _).mono ?_
  rintro e w1 ⟨rfl, rfl⟩
  clear q1 q2
  by_cases hk : 2 < k
  · have c1 : decide ((2 : Int) < (k : Int)) = true := decide_eq_true (by omega)
    by_cases he : e1 < s.size
    · have c2 : decide ((e1 : Int) < (s.size : Int)) = true := decide_eq_true (by omega)
      have j0 : (0 : Int) ≤ (e1 : Int) := by omega
      have j1 : (e1 : Int) < (s.size : Int) := by omega
      have hu : ((s[e1].toNat : Int) == 62) = (s[e1] == 62) := u8_eq s[e1] 62
      have hbu := byteU_in s e1 he
      cases h62 : (s[e1] == 62) with
      | true =>
        rw [h62] at hu
        have hr : Hid (openN s = e1 + 1) := by show _ = _; rw [hres.out, if_pos ⟨hk, by rw [hbu]; exact h62⟩]
        clear hbu h62 hres
        go_wp2_with fail
        go_ret
        exact ⟨ret_int (by rw [hr.out]; simp), Below.refl _ _⟩
      | false =>
        rw [h62] at hu
        have hr : Hid (openN s = 0) := by show _ = _; rw [hres.out, if_neg (by rintro ⟨_, h⟩; rw [hbu, h62] at h; cases h)]
        clear hbu h62 hres
        go_wp2_with fail
        go_ret
        exact ⟨ret_int (by rw [hr.out]; rfl), Below.refl _ _⟩
    · have c2 : decide ((e1 : Int) < (s.size : Int)) = false := decide_eq_false (by omega)
      have hr : Hid (openN s = 0) := by show _ = _; rw [hres.out, if_neg (by rintro ⟨_, h⟩; rw [byteU_out s e1 (by omega)] at h; exact absurd h (by decide))]
      clear hres
      go_wp2_with fail
      go_ret
      exact ⟨ret_int (by rw [hr.out]; rfl), Below.refl _ _⟩
  · have c1 : decide ((2 : Int) < (k : Int)) = false := decide_eq_false (by omega)
    have hr : Hid (openN s = 0) := by show _ = _; rw [hres.out, if_neg (by rintro ⟨h, _⟩; exact hk h)]
    clear hres
    go_wp2_with fail
    go_ret
    exact ⟨ret_int (by rw [hr.out]; rfl), Below.refl _ _⟩

theorem attrI_cases (s : ByteArray) (a : Nat) (ha : a ≤ s.size) :
    (attrStart s a = false ∧ attrI s a = (a : Nat)) ∨ (attrStart s a = true ∧ attrNext s a = none ∧ attrI s a = -1) ∨ (attrStart s a = true ∧ ∃ k, attrNext s a = some k ∧ attrI s a = (k : Nat) ∧ a < k ∧ k ≤ s.size) := by
  unfold attrI
  cases hst : attrStart s a with
  | false => left; exact ⟨rfl, rfl⟩
  | true =>
    right
    cases hn : attrNext s a with
    | none => left; exact ⟨rfl, rfl, rfl⟩
    | some p =>
      right
      refine ⟨rfl, p, rfl, rfl, ?_⟩
      have g0 : a < skipN s gapT a := by
        unfold attrStart at hst
        simp only [Bool.and_eq_true, decide_eq_true_eq] at hst
        exact hst.1
      have g1 := skip_le s gapT a ha
      have g3 := skip_le s attrT _ g1
      have g4 := skip_ge s attrT (skipN s gapT a)
      have g5 := skip_ge s gapT (skipN s attrT (skipN s gapT a))
      have g6 := skip_ge s gapT (skipN s gapT (skipN s attrT (skipN s gapT a)) + 1)
      unfold attrNext at hn
      simp only [] at hn
      split at hn
      · have := valueF_bd s _ _ hn; omega
      · simp only [Option.some.injEq] at hn; omega

set_option maxRecDepth 100000 in
set_option maxHeartbeats 4000000 in
theorem refOpen_open (s : ByteArray) (w : World) (hs : s.size ≤ 1000000) (h2 : 2 ≤ s.size) (h60 : byteU s 0 = 60) (h47 : byteU s 1 ≠ 47) :
    Calls Tryd.prog 12 #[.string s] w fun e w' => e = .returned (.int .i64 (openN s : Nat)) ∧ Below w.heap.size w w' := by
  have hsl : slashF s 1 = 1 := by unfold slashF; rw [if_neg (by rintro ⟨_, h⟩; exact h47 h)]
  have hopen : openF s = if 1 < s.size ∧ letterU (byteU s 1) = true then (attrsF s (s.size + 1) (skipN s nameT 1)).bind (fun e => closeF s (slashF s e)) else none := by
    by_cases h : 1 < s.size ∧ letterU (byteU s 1) = true
    · rw [if_pos h]; exact openF_open s (by simpa using h60) hsl h.1 h.2
    · rw [if_neg h]; exact openF_word s (by simpa using h60) 1 hsl h
  have hnp : nameP s 1 = if 1 < s.size ∧ letterU (byteU s 1) = true then skipN s nameT 1 else 1 := rfl
  have hgt := fun (h : 1 < s.size ∧ letterU (byteU s 1) = true) => skip_name_gt s 1 h.1 h.2
  have hle := skip_le s nameT 1 (by omega)
  have q1 := fun w => refname_calls s 1 w hs (by omega)
  have hkb : nameP s 1 ≤ s.size := by rw [hnp]; split <;> omega
  have hres : Hid (openF s = if nameP s 1 = 1 then none else (attrsF s (s.size + 1) (nameP s 1)).bind (fun e => closeF s (slashF s e))) := by
    show _ = _
    by_cases h : 1 < s.size ∧ letterU (byteU s 1) = true
    · have e1 : nameP s 1 = skipN s nameT 1 := by rw [hnp, if_pos h]
      rw [hopen, if_pos h, e1, if_neg (by have := hgt h; omega)]
    · have e1 : nameP s 1 = 1 := by rw [hnp, if_neg h]
      rw [hopen, if_neg h, if_pos e1]
  clear hsl hopen hnp hgt hle
  have d1 : decide ((s.size : Int) < 2) = false := decide_eq_false (by omega)
  have i1 : (0 : Int) < (s.size : Int) := by omega
  have i2 : (1 : Int) < (s.size : Int) := by omega
  have i3 : 0 < s.size := by omega
  have i4 : 1 < s.size := by omega
  have d2 : ((s[0].toNat : Int) != 60) = false := by rw [← byteU_in s 0 i3, h60]; rfl
  have d3 : ((s[1].toNat : Int) == 47) = false := by
    rw [show ((s[1].toNat : Int) == 47) = (s[1] == 47) from u8_eq s[1] 47, ← byteU_in s 1 i4]
    simpa using h47
  generalize nameP s 1 = a0 at *
  clear h60 h47
  go_enter Tryd.func12, Tryd.ntmps12
  go_wp2_with fail
  refine (q1 _).mono ?_
  rintro e w1 ⟨rfl, rfl⟩
  clear q1
  by_cases ha1 : a0 = 1
  · have c1 : ((a0 : Int) == 1) = true := beq_iff_eq.2 (by omega)
    have hr : Hid (openN s = 0) := by show _ = _; exact openN_no s (by rw [hres.out, if_pos ha1])
    clear hres
    go_wp2_with fail
    go_ret
    exact ⟨ret_int (by rw [hr.out]; rfl), Below.refl _ _⟩
  · have c1 : ((a0 : Int) == 1) = false := beq_eq_false_iff_ne.2 (by omega)
    have hres2 : Hid (openF s = (attrsF s (s.size + 1) a0).bind (fun e => closeF s (slashF s e))) := by show _ = _; rw [hres.out, if_neg ha1]
    clear hres
    go_upto_block 0 with (fail)
    go_cut [5] (fun v wx => ∃ p : Nat, p ≤ s.size ∧ v = .int .i64 p ∧ Aside (attrsF s (s.size + 1) a0 = some (skipN s gapT p)) ∧ Below w1.heap.size w1 wx)
    case first =>
      go_wp2_with fail
      go_loopw [5, 6] (fun i _ wr => ∃ p f' : Nat, p ≤ s.size ∧ i = .int .i64 p ∧ Hid (s.size - p < f') ∧ Hid (attrsF s (s.size + 1) a0 = attrsF s f' p) ∧ Below w1.heap.size w1 wr) (fun i _ _ => s.size - (RowKit.intOf i).toNat)
      case atStart => exact ⟨a0, s.size + 1, hkb, rfl, (by show _ < _; omega), rfl, Below.refl _ _⟩
      case round =>
        obtain ⟨p, f', hp, rfl, hf', he, hB⟩ := hrel
        obtain ⟨f1, rfl⟩ : ∃ f1, f' = f1 + 1 := ⟨f' - 1, by have := hf'.out; omega⟩
        have hz := hB.size
        go_wp2_with fail
        refine (refattribute_calls s p _ hs hp).mono ?_
        rintro e w2 ⟨rfl, hb2⟩
        have hB2 := hB.trans (hb2.mono hz)
        clear hb2 hB
        rcases attrI_cases s p hp with ⟨h1, h2⟩ | ⟨h1, h2, h3⟩ | ⟨h1, k, h2, h3, h4, h5⟩
        · have hn := Lib.hid (he.out.trans (attrs_stop s f1 p h1))
          rw [h2]
          have c2 : decide ((p : Int) < 0) = false := decide_eq_false (by omega)
          have c3 : ((p : Int) == (p : Int)) = true := by simp
          clear h1 h2 he
          go_wp2_with fail
          go_meet
          exact ⟨p, hp, rfl, hn.out, hB2⟩
        · have hn : Hid (openN s = 0) := by
            show _ = _
            refine openN_no s ?_
            rw [hres2.out, he.out, attrs_step s f1 p h1, h2]; rfl
          rw [h3]
          clear h1 h2 h3 he
          go_wp2_with fail
          go_ret
          exact ⟨ret_int (by rw [hn.out]; rfl), hB2⟩
        · have hn : Hid (attrsF s (s.size + 1) a0 = attrsF s f1 k) := by
            show _ = _
            rw [he.out, attrs_step s f1 p h1, h2]; rfl
          rw [h3]
          have c2 : decide ((k : Int) < 0) = false := decide_eq_false (by omega)
          have c3 : ((k : Int) == (p : Int)) = false := beq_eq_false_iff_ne.2 (by omega)
          clear h1 h2 h3 he
          go_wp2_with fail
          exact ⟨⟨k, f1, h5, rfl, (by have := hf'.out; show _ < _; omega), hn.out, hB2⟩, by simp [RowKit.intOf]; omega⟩
    case rest =>
      obtain ⟨p, hp, rfl, hat, hB⟩ := hcut
      have hz := hB.size
      have g1 := skip_le s gapT p hp
      have hres3 : Hid (openF s = closeF s (slashF s (skipN s gapT p))) := by show _ = _; rw [hres2.out, hat.out]; rfl
      have q2 := fun w => refgaps_calls s p w hs (by omega)
      clear hres2 hat
      generalize skipN s gapT p = e1 at *
      go_wp2_with fail
      refine (q2 _).mono ?_
      rintro e w2 ⟨rfl, rfl⟩
      clear q2
      have g2 := slash_le s e1 g1
      have hsl := Lib.hid (slash_of s e1)
      by_cases hlt : e1 < s.size
      · have c2 : decide ((e1 : Int) < (s.size : Int)) = true := decide_eq_true (by omega)
        have j0 : (0 : Int) ≤ (e1 : Int) := by omega
        have j1 : (e1 : Int) < (s.size : Int) := by omega
        have hu : ((s[e1].toNat : Int) == 47) = (s[e1] == 47) := u8_eq s[e1] 47
        have hbu := byteU_in s e1 hlt
        cases h47 : (s[e1] == 47) with
        | true =>
          rw [h47] at hu
          have hsq : Hid (slashF s e1 = e1 + 1) := by show _ = _; rw [hsl.out, if_pos (by rw [hbu]; exact h47)]
          clear hbu h47 hsl
          by_cases hq : e1 + 1 < s.size
          · have c5 : decide (((e1 + 1 : Nat) : Int) < (s.size : Int)) = true := decide_eq_true (by omega)
            have k0 : (0 : Int) ≤ ((e1 + 1 : Nat) : Int) := by omega
            have k1 : ((e1 + 1 : Nat) : Int) < (s.size : Int) := by omega
            have hu2 : ((s[e1 + 1].toNat : Int) == 62) = (s[e1 + 1] == 62) := u8_eq s[e1 + 1] 62
            have hbu2 := byteU_in s (e1 + 1) hq
            cases h62 : (s[e1 + 1] == 62) with
            | true =>
              rw [h62] at hu2
              have hr : Hid (openN s = e1 + 1 + 1) := by show _ = _; exact openN_of s _ (by rw [hres3.out, hsq.out, close_of, if_pos (by rw [hbu2]; exact h62)])
              clear hbu2 h62
              go_wp2_with fail
              go_ret
              exact ⟨ret_int (by rw [hr.out]; simp), hB⟩
            | false =>
              rw [h62] at hu2
              have hr : Hid (openN s = 0) := by show _ = _; exact openN_no s (by rw [hres3.out, hsq.out, close_of, if_neg (by rw [hbu2, h62]; simp)])
              clear hbu2 h62
              go_wp2_with fail
              go_ret
              exact ⟨ret_int (by rw [hr.out]; rfl), hB⟩
          · have c5 : decide (((e1 + 1 : Nat) : Int) < (s.size : Int)) = false := decide_eq_false (by omega)
            have hr : Hid (openN s = 0) := by show _ = _; exact openN_no s (by rw [hres3.out, hsq.out, close_of, if_neg (by rw [byteU_out s (e1 + 1) (by omega)]; decide)])
            go_wp2_with fail
            go_ret
            exact ⟨ret_int (by rw [hr.out]; rfl), hB⟩
        | false =>
          rw [h47] at hu
          have hsq : Hid (slashF s e1 = e1) := by show _ = _; rw [hsl.out, if_neg (by rw [hbu, h47]; simp)]
          clear hbu h47 hsl
          by_cases hq : e1 < s.size
          · have c5 : decide (((e1 : Nat) : Int) < (s.size : Int)) = true := decide_eq_true (by omega)
            have k0 : (0 : Int) ≤ ((e1 : Nat) : Int) := by omega
            have k1 : ((e1 : Nat) : Int) < (s.size : Int) := by omega
            have hu2 : ((s[e1].toNat : Int) == 62) = (s[e1] == 62) := u8_eq s[e1] 62
            have hbu2 := byteU_in s (e1) hq
            cases h62 : (s[e1] == 62) with
            | true =>
              rw [h62] at hu2
              have hr : Hid (openN s = e1 + 1) := by show _ = _; exact openN_of s _ (by rw [hres3.out, hsq.out, close_of, if_pos (by rw [hbu2]; exact h62)])
              clear hbu2 h62
              go_wp2_with fail
              go_ret
              exact ⟨ret_int (by rw [hr.out]; simp), hB⟩
            | false =>
              rw [h62] at hu2
              have hr : Hid (openN s = 0) := by show _ = _; exact openN_no s (by rw [hres3.out, hsq.out, close_of, if_neg (by rw [hbu2, h62]; simp)])
              clear hbu2 h62
              go_wp2_with fail
              go_ret
              exact ⟨ret_int (by rw [hr.out]; rfl), hB⟩
          · exact absurd hlt hq
      · have c2 : decide ((e1 : Int) < (s.size : Int)) = false := decide_eq_false (by omega)
        have hsq : Hid (slashF s e1 = e1) := by show _ = _; rw [hsl.out, if_neg (by rw [byteU_out s e1 (by omega)]; decide)]
        clear hsl
        by_cases hq : e1 < s.size
        · exact absurd hq hlt
        · have c5 : decide (((e1 : Nat) : Int) < (s.size : Int)) = false := decide_eq_false (by omega)
          have hr : Hid (openN s = 0) := by show _ = _; exact openN_no s (by rw [hres3.out, hsq.out, close_of, if_neg (by rw [byteU_out s (e1) (by omega)]; decide)])
          go_wp2_with fail
          go_ret
          exact ⟨ret_int (by rw [hr.out]; rfl), hB⟩

theorem refOpen_calls (s : ByteArray) (w : World) (hs : s.size ≤ 1000000) :
    Calls Tryd.prog 12 #[.string s] w fun e w' => e = .returned (.int .i64 (openN s : Nat)) ∧ Below w.heap.size w w' := by
  by_cases h2 : s.size < 2
  · exact refOpen_no s w hs (Or.inl h2)
  · by_cases h60 : byteU s 0 = 60
    · by_cases h47 : byteU s 1 = 47
      · exact refOpen_close s w hs (by omega) h60 h47
      · exact refOpen_open s w hs (by omega) h60 h47
    · exact refOpen_no s w hs (Or.inr ⟨by omega, h60⟩)

end Go.Proofs.YtjaidphlphncjaaDoor
