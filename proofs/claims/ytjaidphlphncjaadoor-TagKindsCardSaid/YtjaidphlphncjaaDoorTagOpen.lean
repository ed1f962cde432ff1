/- Walk: tag's reader: open; tag.Open with its recover. -/
import Derived.Test.YtjaidphlphncjaaDoorTagAttrs
import Derived.Defers
import Derived.Recover
import Derived.Laws.Pointers
namespace Go.Proofs.YtjaidphlphncjaaDoor
set_option linter.unusedVariables false
set_option linter.unusedSimpArgs false
open Go Go.RowKit Go.Lib

theorem byte_in (s : ByteArray) (a : Nat) (c : UInt8) (hc : c ≠ 0) (h : byteU s a = c) : a < s.size := by
  by_cases hq : a < s.size
  · exact hq
  · rw [byteU_out s a (by omega)] at h; exact absurd h.symm hc

theorem slash_of (s : ByteArray) (a : Nat) : slashF s a = if (byteU s a == 47) = true then a + 1 else a := by
  unfold slashF
  by_cases h : byteU s a = 47
  · rw [if_pos ⟨byte_in s a 47 (by decide) h, h⟩, if_pos (by simpa using h)]
  · rw [if_neg (fun x => h x.2), if_neg (by simpa using h)]
theorem close_of (s : ByteArray) (a : Nat) : closeF s a = if (byteU s a == 62) = true then some (a + 1) else none := by
  unfold closeF
  by_cases h : byteU s a = 62
  · rw [if_pos ⟨byte_in s a 62 (by decide) h, h⟩, if_pos (by simpa using h)]
  · rw [if_neg (fun x => h x.2), if_neg (by simpa using h)]
theorem slash_le (s : ByteArray) (a : Nat) (h : a ≤ s.size) : slashF s a ≤ s.size := by
  unfold slashF
  split <;> omega

theorem attrs_bd (s : ByteArray) : ∀ f a k, a ≤ s.size → attrsF s f a = some k → a ≤ k ∧ k ≤ s.size := by
  intro f
  induction f with
  | zero => intro a k ha h; unfold attrsF at h; simp only [Option.some.injEq] at h; omega
  | succ f ih =>
    intro a k ha h
    cases hst : attrStart s a with
    | false =>
      rw [attrs_stop s f a hst] at h
      simp only [Option.some.injEq] at h
      have := skip_le s gapT a ha
      have := skip_ge s gapT a
      omega
    | true =>
      rw [attrs_step s f a hst] at h
      cases hn : attrNext s a with
      | none => rw [hn] at h; cases h
      | some p =>
        rw [hn] at h
        have hp : a ≤ p ∧ p ≤ s.size := by
          have g1 := skip_le s gapT a ha
          have g2 := skip_ge s gapT a
          have g3 := skip_le s attrT _ g1
          have g4 := skip_ge s attrT (skipN s gapT a)
          have g5 := skip_ge s gapT (skipN s attrT (skipN s gapT a))
          have g6 := skip_ge s gapT (skipN s gapT (skipN s attrT (skipN s gapT a)) + 1)
          unfold attrNext at hn
          simp only [] at hn
          split at hn
          · have := valueF_bd s _ _ hn; omega
          · simp only [Option.some.injEq] at hn; omega
        have := ih p k hp.2 h
        omega

/-- what is behind a tag's content -/
def tailF (s : ByteArray) (r : Option Nat) : Option Nat := r.bind fun e => closeF s e

/-- the last steps of open -/
theorem openF_no (s : ByteArray) (h : (byteU s 0 == 60) = false) : openF s = none := by
  unfold openF
  rw [if_neg (fun x => by rw [x.2] at h; exact absurd h (by decide))]
theorem openF_word (s : ByteArray) (h : (byteU s 0 == 60) = true) (a : Nat) (ha : slashF s 1 = a) (hw : ¬ (a < s.size ∧ letterU (byteU s a) = true)) : openF s = none := by
  unfold openF
  have h' : byteU s 0 = 60 := eq_of_beq h
  rw [if_pos ⟨byte_in s 0 60 (by decide) h', h'⟩, ha]
  simp only []
  rw [if_neg hw]
theorem openF_close (s : ByteArray) (h : (byteU s 0 == 60) = true) (ha : slashF s 1 = 2) (h2 : 2 < s.size) (hw : letterU (byteU s 2) = true) : openF s = closeF s (skipN s gapT (skipN s nameT 2)) := by
  unfold openF
  have h' : byteU s 0 = 60 := eq_of_beq h
  rw [if_pos ⟨byte_in s 0 60 (by decide) h', h'⟩, ha]
  simp only []
  rw [if_pos ⟨h2, hw⟩, if_pos trivial]
theorem openF_open (s : ByteArray) (h : (byteU s 0 == 60) = true) (ha : slashF s 1 = 1) (h2 : 1 < s.size) (hw : letterU (byteU s 1) = true) : openF s = (attrsF s (s.size + 1) (skipN s nameT 1)).bind fun e => closeF s (slashF s e) := by
  unfold openF
  have h' : byteU s 0 = 60 := eq_of_beq h
  rw [if_pos ⟨byte_in s 0 60 (by decide) h', h'⟩, ha]
  simp only []
  rw [if_pos ⟨h2, hw⟩, if_neg (by decide)]

set_option maxHeartbeats 2000000 in
set_option maxRecDepth 100000 in
theorem open_calls (s : ByteArray) (b : Nat) (w : World) (hr : At s 0 b w) (hM : MaxL w) (hg : 0 < b) (hs : s.size ≤ 1000000) :
    Calls Tryd.prog 24 #[.pointer (some ⟨b, 0, none⟩)] w fun e w' => Goes s b (openF s) w e w' := by
  have HM := Lib.hid hM
  have HR : Hid (At s 0 b w) := hr
  clear hM hr
  go_enter Tryd.func24, Tryd.ntmps24
  go_wp2_with fail
  cases h60 : (byteU s 0 == 60) with
  | false =>
    have hres := Lib.hid (openF_no s h60)
    refine (take_at s 60 (by decide) 0 b w HR.out false h60).mono ?_
    rintro e w1 ⟨rfl, R1, O1⟩
    clear h60 R1
    go_wp2_with fail
    refine (need_no _).mono ?_
    rintro e w2 ⟨rfl, rfl⟩
    go_wp2_with fail
    refine ⟨rfl, ?_⟩
    unfold Goes; rw [hres.out]
    exact ⟨rfl, O1⟩
  | true =>
    refine (take_at s 60 (by decide) 0 b w HR.out true h60).mono ?_
    rintro e w1 ⟨rfl, R1, O1⟩
    rw [if_pos rfl] at R1
    go_wp2_with fail
    refine (need_yes _).mono ?_
    rintro e w2 ⟨rfl, rfl⟩
    go_wp2_with fail
    have hsl := slash_of s 1
    have H60 := Lib.hid h60
    clear h60
    -- the slash
    cases h47 : (byteU s 1 == 47) with
    | true =>
      rw [h47, if_pos rfl] at hsl
      refine (take_at s 47 (by decide) 1 b w2 R1 true h47).mono ?_
      rintro e w3 ⟨rfl, R3, O3⟩
      rw [if_pos rfl] at R3
      replace O1 := O1.trans O3
      have HS := Lib.hid hsl
      clear h47 R1 O3 hsl
      go_wp2_with fail
      by_cases hw : 2 < s.size ∧ letterU (byteU s 2) = true
      · have hres := Lib.hid (openF_close s H60.out HS.out hw.1 hw.2)
        refine (word_at s lettersT nameT 2 b w3 R3 hs (by decide) name_ascii hw.1 (by rw [letters_contains]; exact hw.2)).mono ?_
        rintro e w4 ⟨⟨x, rfl⟩, R4, O4⟩
        replace O1 := O1.trans O4
        clear R3 O4 hw HS
        generalize skipN s nameT 2 = k at *
        go_wp2_with fail
        refine (eat_at s gapT k b w4 R4 hs (by decide) gap_ascii).mono ?_
        rintro e w5 ⟨⟨y, rfl, hy⟩, R5, O5⟩
        replace O1 := O1.trans O5
        clear R4 O5 hy
        generalize skipN s gapT k = q at *
        go_wp2_with fail
        have hcl := close_of s q
        cases h62 : (byteU s q == 62) with
        | true =>
          rw [h62, if_pos rfl] at hcl
          have hres2 := Lib.hid (hres.out.trans hcl)
          refine (take_at s 62 (by decide) q b w5 R5 true h62).mono ?_
          rintro e w6 ⟨rfl, R6, O6⟩
          rw [if_pos rfl] at R6
          replace O1 := O1.trans O6
          have HR6 : Hid (At s (q + 1) b w6) := R6
          clear h62 hcl R5 O6 hres R6
          go_wp2_with fail
          refine (need_yes _).mono ?_
          rintro e w7 ⟨rfl, rfl⟩
          go_wp2_with fail
          go_end0
          unfold Goes; rw [hres2.out]
          exact ⟨⟨rfl, HR6.out⟩, O1⟩
        | false =>
          rw [h62, if_neg (by simp)] at hcl
          have hres2 := Lib.hid (hres.out.trans hcl)
          refine (take_at s 62 (by decide) q b w5 R5 false h62).mono ?_
          rintro e w6 ⟨rfl, R6, O6⟩
          replace O1 := O1.trans O6
          clear h62 hcl R5 O6 hres R6
          go_wp2_with fail
          refine (need_no _).mono ?_
          rintro e w7 ⟨rfl, rfl⟩
          go_wp2_with fail
          refine ⟨rfl, ?_⟩
          unfold Goes; rw [hres2.out]
          exact ⟨rfl, O1⟩
      · have hres := Lib.hid (openF_word s H60.out 2 HS.out hw)
        refine (word_miss s lettersT nameT 2 b w3 R3 (by
          by_cases h2 : 2 < s.size
          · refine Or.inr ⟨h2, ?_⟩
            rw [letters_contains]
            cases hl : letterU (byteU s 2) with
            | false => rfl
            | true => exact absurd ⟨h2, hl⟩ hw
          · exact Or.inl (by omega))).mono ?_
        rintro e w4 ⟨rfl, O4⟩
        replace O1 := O1.trans O4
        clear hw R3 O4
        go_wp2_with fail
        refine ⟨rfl, ?_⟩
        unfold Goes; rw [hres.out]
        exact ⟨rfl, O1⟩
    | false =>
      rw [h47, if_neg (by simp)] at hsl
      refine (take_at s 47 (by decide) 1 b w2 R1 false h47).mono ?_
      rintro e w3 ⟨rfl, R3, O3⟩
      rw [if_neg (by simp)] at R3
      replace O1 := O1.trans O3
      have HS := Lib.hid hsl
      clear h47 R1 O3 hsl
      go_wp2_with fail
      by_cases hw : 1 < s.size ∧ letterU (byteU s 1) = true
      · have hres := Lib.hid (openF_open s H60.out HS.out hw.1 hw.2)
        have hk := skip_le s nameT 1 (by omega)
        refine (word_at s lettersT nameT 1 b w3 R3 hs (by decide) name_ascii hw.1 (by rw [letters_contains]; exact hw.2)).mono ?_
        rintro e w4 ⟨⟨x, rfl⟩, R4, O4⟩
        replace O1 := O1.trans O4
        clear R3 O4 hw HS
        generalize skipN s nameT 1 = k at *
        go_wp2_with fail
        have hM4 := HM.out.below O1.below hg
        refine (attributes_calls s k b w4 R4 hM4 hg hs hk (s.size + 1) (by omega)).mono ?_
        rintro e w5 ⟨hG, O5⟩
        replace O1 := O1.trans O5
        have hbd := attrs_bd s (s.size + 1) k
        have hG' : (match attrsF s (s.size + 1) k with | none => e = .panicked missedP | some k => e = .returned (.tuple #[]) ∧ At s k b w5) := hG
        clear hG R4 O5 hM4
        obtain ⟨r, hval⟩ : ∃ r, attrsF s (s.size + 1) k = r := ⟨_, rfl⟩
        have hres1 : openF s = r.bind fun e => closeF s (slashF s e) := by rw [hres.out, hval]
        rw [hval] at hG'
        clear hres
        cases r with
        | none =>
          obtain rfl : e = .panicked missedP := hG'
          have hres2 := Lib.hid hres1
          clear hres1 hval hbd
          go_wp2_with fail
          refine ⟨rfl, ?_⟩
          unfold Goes; rw [hres2.out]
          exact ⟨rfl, O1⟩
        | some p =>
          obtain ⟨rfl, R5⟩ : e = .returned (.tuple #[]) ∧ At s p b w5 := hG'
          have hp := (hbd p hk hval).2
          have hsp := slash_of s p
          have hres2 : Hid (openF s = closeF s (slashF s p)) := hres1
          clear hres1 hval hbd
          go_wp2_with fail
          cases h47 : (byteU s p == 47)
          all_goals
            rw [h47] at hsp
            refine (take_at s 47 (by decide) p b w5 R5 _ h47).mono ?_
            rintro e w6 ⟨rfl, R6, O6⟩
            replace O1 := O1.trans O6
            rw [← hsp] at R6
            clear h47 R5 O6 hsp
            generalize slashF s p = q at *
            go_wp2_with fail
            have hcl := close_of s q
            cases h62 : (byteU s q == 62) with
            | true =>
              rw [h62, if_pos rfl] at hcl
              have hres3 := Lib.hid (hres2.out.trans hcl)
              refine (take_at s 62 (by decide) q b w6 R6 true h62).mono ?_
              rintro e w7 ⟨rfl, R7, O7⟩
              rw [if_pos rfl] at R7
              replace O1 := O1.trans O7
              have HR7 : Hid (At s (q + 1) b w7) := R7
              clear h62 hcl R6 O7 hres2 R7
              go_wp2_with fail
              refine (need_yes _).mono ?_
              rintro e w8 ⟨rfl, rfl⟩
              go_wp2_with fail
              go_end0
              unfold Goes; rw [hres3.out]
              exact ⟨⟨rfl, HR7.out⟩, O1⟩
            | false =>
              rw [h62, if_neg (by simp)] at hcl
              have hres3 := Lib.hid (hres2.out.trans hcl)
              refine (take_at s 62 (by decide) q b w6 R6 false h62).mono ?_
              rintro e w7 ⟨rfl, R7, O7⟩
              replace O1 := O1.trans O7
              clear h62 hcl R6 O7 hres2 R7
              go_wp2_with fail
              refine (need_no _).mono ?_
              rintro e w8 ⟨rfl, rfl⟩
              go_wp2_with fail
              refine ⟨rfl, ?_⟩
              unfold Goes; rw [hres3.out]
              exact ⟨rfl, O1⟩
      · have hres := Lib.hid (openF_word s H60.out 1 HS.out hw)
        refine (word_miss s lettersT nameT 1 b w3 R3 (by
          by_cases h2 : 1 < s.size
          · refine Or.inr ⟨h2, ?_⟩
            rw [letters_contains]
            cases hl : letterU (byteU s 1) with
            | false => rfl
            | true => exact absurd ⟨h2, hl⟩ hw
          · exact Or.inl (by omega))).mono ?_
        rintro e w4 ⟨rfl, O4⟩
        replace O1 := O1.trans O4
        clear hw R3 O4
        go_wp2_with fail
        refine ⟨rfl, ?_⟩
        unfold Goes; rw [hres.out]
        exact ⟨rfl, O1⟩

end Go.Proofs.YtjaidphlphncjaaDoor
