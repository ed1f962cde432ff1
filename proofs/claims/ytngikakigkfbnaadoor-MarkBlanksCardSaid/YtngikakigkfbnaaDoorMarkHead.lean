/- Walk: mark.Head. -/
import Derived.Test.YtngikakigkfbnaaDoorCutRight
import Derived.Test.YtngikakigkfbnaaDoorMarkUnder
import Derived.OwnWalk
namespace Go.Proofs.YtngikakigkfbnaaDoor
set_option linter.unusedVariables false
set_option linter.unusedSimpArgs false
open Go Go.RowKit Go.Lib

theorem Head_not1 (s : ByteArray) (w : World) (hs : s.size ≤ 1000000) (h : lead s ⟨#[35]⟩ < 1 ∨ 6 < lead s ⟨#[35]⟩) :
    Calls Tryd.prog 15 #[.string s] w fun e w' => e = .returned (.tuple #[.int .i64 0, .int .i64 0, .int .i64 0]) ∧ Below w.heap.size w w' := by
  have hq := row_calls s ⟨#[35]⟩ w hs (by decide) (ascii_c 35 (by decide))
  generalize lead s ⟨#[35]⟩ = n at *
  go_enter Tryd.func15, Tryd.ntmps15
  go_wp2_with fail
  refine hq.mono ?_
  rintro e w1 ⟨rfl, hb⟩
  have hc : decide ((n : Int) < 1) = true ∨ decide ((n : Int) < 1) = false ∧ decide ((6 : Int) < (n : Int)) = true := by
    rcases h with h | h
    · exact Or.inl (decide_eq_true (by omega))
    · exact Or.inr ⟨decide_eq_false (by omega), decide_eq_true (by omega)⟩
  clear h hq
  rcases hc with hc | ⟨hc, hc'⟩
  all_goals
    go_wp2_with fail
    go_ret3
    exact ⟨rfl, hb⟩

theorem Head_not2 (s : ByteArray) (w : World) (hs : s.size ≤ 1000000) (h1 : 1 ≤ lead s ⟨#[35]⟩) (h6 : lead s ⟨#[35]⟩ ≤ 6) (he : endsB (s.extract (lead s ⟨#[35]⟩) s.size) = false) :
    Calls Tryd.prog 15 #[.string s] w fun e w' => e = .returned (.tuple #[.int .i64 0, .int .i64 0, .int .i64 0]) ∧ Below w.heap.size w w' := by
  have hq := row_calls s ⟨#[35]⟩ w hs (by decide) (ascii_c 35 (by decide))
  have hle := lead_le s ⟨#[35]⟩
  generalize lead s ⟨#[35]⟩ = n at *
  have hc : decide ((n : Int) < 1) = false := decide_eq_false (by omega)
  have hc' : decide ((6 : Int) < (n : Int)) = false := decide_eq_false (by omega)
  go_enter Tryd.func15, Tryd.ntmps15
  go_wp2_with fail
  refine hq.mono ?_
  rintro e w1 ⟨rfl, hb⟩
  clear hq
  go_wp2_with fail
  have hen := ends_calls (s.extract n s.size) w1 (by rw [Lib.tail_size]; omega)
  rw [he] at hen
  clear he
  refine hen.mono ?_
  rintro e w2 ⟨rfl, hb2⟩
  have hB := hb.trans (hb2.mono hb.size)
  clear hb hb2 hen
  go_wp2_with fail
  go_ret3
  exact ⟨rfl, hB⟩

theorem Head_yes (s : ByteArray) (w : World) (hs : s.size ≤ 1000000) (h1 : 1 ≤ lead s ⟨#[35]⟩) (h6 : lead s ⟨#[35]⟩ ≤ 6) (he : endsB (s.extract (lead s ⟨#[35]⟩) s.size) = true) (o d : ByteArray) (f : Nat)
    (hf : headFrom s = f) (ho : trimR (trimR (s.extract f s.size) blanksT) ⟨#[35]⟩ = o) (hd : trimR o blanksT = d) (hoz : o.size ≠ 0) (hod : o = d) :
    Calls Tryd.prog 15 #[.string s] w fun e w' => e = .returned (.tuple #[.int .i64 (lead s ⟨#[35]⟩ : Nat), .int .i64 f, .int .i64 ((f + (trimR (s.extract f s.size) blanksT).size : Nat) : Int)]) ∧ Below w.heap.size w w' := by
  have hq := row_calls s ⟨#[35]⟩ w hs (by decide) (ascii_c 35 (by decide))
  have hle := lead_le s ⟨#[35]⟩
  have hf' : f = lead s ⟨#[35]⟩ + lead (s.extract (lead s ⟨#[35]⟩) s.size) blanksT := hf.symm
  clear hf
  generalize lead s ⟨#[35]⟩ = n at *
  have hle2 := lead_le (s.extract n s.size) blanksT
  have hsz2 := Lib.tail_size s n
  have hc : decide ((n : Int) < 1) = false := decide_eq_false (by omega)
  have hc' : decide ((6 : Int) < (n : Int)) = false := decide_eq_false (by omega)
  have hfs : f ≤ s.size := by omega
  have hq2 := fun w => row_calls (s.extract n s.size) blanksT w (by omega) (by decide) blanks_ascii
  have hen := fun w => ends_calls (s.extract n s.size) w (by omega)
  rw [he] at hen
  generalize lead (s.extract n s.size) blanksT = k at *
  have HF := Lib.hid hf'
  clear hf' he
  go_enter Tryd.func15, Tryd.ntmps15
  go_wp2_with fail
  refine hq.mono ?_
  rintro e w1 ⟨rfl, hb⟩
  clear hq
  go_wp2_with fail
  refine (hen w1).mono ?_
  rintro e w2 ⟨rfl, hb2⟩
  replace hb := hb.trans (hb2.mono hb.size)
  clear hb2 hen
  go_wp2_with fail
  refine (hq2 w2).mono ?_
  rintro e w3 ⟨rfl, hb2⟩
  replace hb := hb.trans (hb2.mono hb.size)
  clear hb2 hq2
  go_wp2_with fail
  rw [← HF.out]
  have hszf := Lib.tail_size s f
  have hcl := trimR_le (s.extract f s.size) blanksT
  refine (TrimRight_calls (s.extract f s.size) blanksT w3 (by omega) (by decide) blanks_ascii).mono ?_
  rintro e w4 ⟨rfl, hb2⟩
  replace hb := hb.trans (hb2.mono hb.size)
  clear hb2
  obtain ⟨c, hc0⟩ : ∃ c, trimR (s.extract f s.size) blanksT = c := ⟨_, rfl⟩
  rw [hc0] at ho hcl ⊢
  have HC := Lib.hid hc0
  clear hc0
  go_wp2_with fail
  have hol := trimR_le c ⟨#[35]⟩
  refine (TrimRight_calls c ⟨#[35]⟩ w4 (by omega) (by decide) (ascii_c 35 (by decide))).mono ?_
  rintro e w5 ⟨rfl, hb2⟩
  replace hb := hb.trans (hb2.mono hb.size)
  clear hb2
  rw [ho] at hol ⊢
  clear ho
  have hz := toList_ne (s := o) (by omega)
  have HD := Lib.hid hd
  have HO := Lib.hid hod
  clear hd hod hoz
  go_wp2_with fail
  refine (TrimRight_calls o blanksT w5 (by omega) (by decide) blanks_ascii).mono ?_
  rintro e w6 ⟨rfl, hb2⟩
  replace hb := hb.trans (hb2.mono hb.size)
  clear hb2
  rw [HD.out, ← HO.out]
  have hw : wrap64 ((n : Int) + (k : Int) + (c.size : Int)) = ((f + c.size : Nat) : Int) := by rw [HF.out]; unfold wrap64; omega
  have HW := Lib.hid hw
  clear hw HD
  go_wp2_with fail
  go_ret3
  exact ⟨by rw [HC.out, HF.out]; simp [Int.natCast_add], hb⟩

theorem Head_open (s : ByteArray) (w : World) (hs : s.size ≤ 1000000) (h1 : 1 ≤ lead s ⟨#[35]⟩) (h6 : lead s ⟨#[35]⟩ ≤ 6) (he : endsB (s.extract (lead s ⟨#[35]⟩) s.size) = true) (o d : ByteArray) (f : Nat)
    (hf : headFrom s = f) (ho : trimR (trimR (s.extract f s.size) blanksT) ⟨#[35]⟩ = o) (hd : trimR o blanksT = d) (hoz : o.size ≠ 0) (hod : (o.toList == d.toList) = false) :
    Calls Tryd.prog 15 #[.string s] w fun e w' => e = .returned (.tuple #[.int .i64 (lead s ⟨#[35]⟩ : Nat), .int .i64 f, .int .i64 ((f + d.size : Nat) : Int)]) ∧ Below w.heap.size w w' := by
  have hq := row_calls s ⟨#[35]⟩ w hs (by decide) (ascii_c 35 (by decide))
  have hle := lead_le s ⟨#[35]⟩
  have hf' : f = lead s ⟨#[35]⟩ + lead (s.extract (lead s ⟨#[35]⟩) s.size) blanksT := hf.symm
  clear hf
  generalize lead s ⟨#[35]⟩ = n at *
  have hle2 := lead_le (s.extract n s.size) blanksT
  have hsz2 := Lib.tail_size s n
  have hc : decide ((n : Int) < 1) = false := decide_eq_false (by omega)
  have hc' : decide ((6 : Int) < (n : Int)) = false := decide_eq_false (by omega)
  have hfs : f ≤ s.size := by omega
  have hq2 := fun w => row_calls (s.extract n s.size) blanksT w (by omega) (by decide) blanks_ascii
  have hen := fun w => ends_calls (s.extract n s.size) w (by omega)
  rw [he] at hen
  generalize lead (s.extract n s.size) blanksT = k at *
  have HF := Lib.hid hf'
  clear hf' he
  go_enter Tryd.func15, Tryd.ntmps15
  go_wp2_with fail
  refine hq.mono ?_
  rintro e w1 ⟨rfl, hb⟩
  clear hq
  go_wp2_with fail
  refine (hen w1).mono ?_
  rintro e w2 ⟨rfl, hb2⟩
  replace hb := hb.trans (hb2.mono hb.size)
  clear hb2 hen
  go_wp2_with fail
  refine (hq2 w2).mono ?_
  rintro e w3 ⟨rfl, hb2⟩
  replace hb := hb.trans (hb2.mono hb.size)
  clear hb2 hq2
  go_wp2_with fail
  rw [← HF.out]
  have hszf := Lib.tail_size s f
  have hcl := trimR_le (s.extract f s.size) blanksT
  refine (TrimRight_calls (s.extract f s.size) blanksT w3 (by omega) (by decide) blanks_ascii).mono ?_
  rintro e w4 ⟨rfl, hb2⟩
  replace hb := hb.trans (hb2.mono hb.size)
  clear hb2
  obtain ⟨c, hc0⟩ : ∃ c, trimR (s.extract f s.size) blanksT = c := ⟨_, rfl⟩
  rw [hc0] at ho hcl ⊢
  have HC := Lib.hid hc0
  clear hc0
  go_wp2_with fail
  have hol := trimR_le c ⟨#[35]⟩
  refine (TrimRight_calls c ⟨#[35]⟩ w4 (by omega) (by decide) (ascii_c 35 (by decide))).mono ?_
  rintro e w5 ⟨rfl, hb2⟩
  replace hb := hb.trans (hb2.mono hb.size)
  clear hb2
  rw [ho] at hol ⊢
  clear ho
  have hz := toList_ne (s := o) (by omega)
  have HD := Lib.hid hd
  have HO := Lib.hid hod
  clear hd hod hoz
  go_wp2_with fail
  refine (TrimRight_calls o blanksT w5 (by omega) (by decide) blanks_ascii).mono ?_
  rintro e w6 ⟨rfl, hb2⟩
  replace hb := hb.trans (hb2.mono hb.size)
  clear hb2
  rw [HD.out]
  have hdl : d.size ≤ o.size := by rw [← HD.out]; exact trimR_le o blanksT
  have hw : wrap64 ((n : Int) + (k : Int) + (d.size : Int)) = ((f + d.size : Nat) : Int) := by rw [HF.out]; unfold wrap64; omega
  have HW := Lib.hid hw
  have hne := HO.out
  clear HO
  clear hw
  go_wp2_with fail
  refine (TrimRight_calls o blanksT w6 (by omega) (by decide) blanks_ascii).mono ?_
  rintro e w7 ⟨rfl, hb2⟩
  replace hb := hb.trans (hb2.mono hb.size)
  clear hb2
  rw [HD.out]
  clear HD
  go_wp2_with fail
  go_ret3
  exact ⟨by rw [HF.out]; simp [Int.natCast_add], hb⟩

theorem Head_bare (s : ByteArray) (w : World) (hs : s.size ≤ 1000000) (h1 : 1 ≤ lead s ⟨#[35]⟩) (h6 : lead s ⟨#[35]⟩ ≤ 6) (he : endsB (s.extract (lead s ⟨#[35]⟩) s.size) = true) (o d : ByteArray) (f : Nat)
    (hf : headFrom s = f) (ho : trimR (trimR (s.extract f s.size) blanksT) ⟨#[35]⟩ = o) (hd : trimR o blanksT = d) (hoz : o.size = 0) :
    Calls Tryd.prog 15 #[.string s] w fun e w' => e = .returned (.tuple #[.int .i64 (lead s ⟨#[35]⟩ : Nat), .int .i64 f, .int .i64 ((f + d.size : Nat) : Int)]) ∧ Below w.heap.size w w' := by
  have hq := row_calls s ⟨#[35]⟩ w hs (by decide) (ascii_c 35 (by decide))
  have hle := lead_le s ⟨#[35]⟩
  have hf' : f = lead s ⟨#[35]⟩ + lead (s.extract (lead s ⟨#[35]⟩) s.size) blanksT := hf.symm
  clear hf
  generalize lead s ⟨#[35]⟩ = n at *
  have hle2 := lead_le (s.extract n s.size) blanksT
  have hsz2 := Lib.tail_size s n
  have hc : decide ((n : Int) < 1) = false := decide_eq_false (by omega)
  have hc' : decide ((6 : Int) < (n : Int)) = false := decide_eq_false (by omega)
  have hfs : f ≤ s.size := by omega
  have hq2 := fun w => row_calls (s.extract n s.size) blanksT w (by omega) (by decide) blanks_ascii
  have hen := fun w => ends_calls (s.extract n s.size) w (by omega)
  rw [he] at hen
  generalize lead (s.extract n s.size) blanksT = k at *
  have HF := Lib.hid hf'
  clear hf' he
  go_enter Tryd.func15, Tryd.ntmps15
  go_wp2_with fail
  refine hq.mono ?_
  rintro e w1 ⟨rfl, hb⟩
  clear hq
  go_wp2_with fail
  refine (hen w1).mono ?_
  rintro e w2 ⟨rfl, hb2⟩
  replace hb := hb.trans (hb2.mono hb.size)
  clear hb2 hen
  go_wp2_with fail
  refine (hq2 w2).mono ?_
  rintro e w3 ⟨rfl, hb2⟩
  replace hb := hb.trans (hb2.mono hb.size)
  clear hb2 hq2
  go_wp2_with fail
  rw [← HF.out]
  have hszf := Lib.tail_size s f
  have hcl := trimR_le (s.extract f s.size) blanksT
  refine (TrimRight_calls (s.extract f s.size) blanksT w3 (by omega) (by decide) blanks_ascii).mono ?_
  rintro e w4 ⟨rfl, hb2⟩
  replace hb := hb.trans (hb2.mono hb.size)
  clear hb2
  obtain ⟨c, hc0⟩ : ∃ c, trimR (s.extract f s.size) blanksT = c := ⟨_, rfl⟩
  rw [hc0] at ho hcl ⊢
  have HC := Lib.hid hc0
  clear hc0
  go_wp2_with fail
  have hol := trimR_le c ⟨#[35]⟩
  refine (TrimRight_calls c ⟨#[35]⟩ w4 (by omega) (by decide) (ascii_c 35 (by decide))).mono ?_
  rintro e w5 ⟨rfl, hb2⟩
  replace hb := hb.trans (hb2.mono hb.size)
  clear hb2
  rw [ho] at hol ⊢
  clear ho
  have hz : o.toList.isEmpty = true := by rw [toList_nil hoz]; rfl
  have HD := Lib.hid hd
  clear hd hoz
  go_wp2_with fail
  have hdl : d.size ≤ o.size := by rw [← HD.out]; exact trimR_le o blanksT
  have hw : wrap64 ((n : Int) + (k : Int) + (d.size : Int)) = ((f + d.size : Nat) : Int) := by rw [HF.out]; unfold wrap64; omega
  have HW := Lib.hid hw
  clear hw
  refine (TrimRight_calls o blanksT w5 (by omega) (by decide) blanks_ascii).mono ?_
  rintro e w7 ⟨rfl, hb2⟩
  replace hb := hb.trans (hb2.mono hb.size)
  clear hb2
  rw [HD.out]
  clear HD
  go_wp2_with fail
  go_ret3
  exact ⟨by rw [HF.out]; simp [Int.natCast_add], hb⟩

theorem Head_calls (s : ByteArray) (w : World) (hs : s.size ≤ 1000000) :
    Calls Tryd.prog 15 #[.string s] w fun e w' => e = .returned (.tuple #[.int .i64 ((headF s).1 : Nat), .int .i64 ((headF s).2.1 : Nat), .int .i64 ((headF s).2.2 : Nat)]) ∧ Below w.heap.size w w' := by
  by_cases h1 : 1 ≤ lead s ⟨#[35]⟩
  · by_cases h6 : lead s ⟨#[35]⟩ ≤ 6
    · cases he : endsB (s.extract (lead s ⟨#[35]⟩) s.size) with
      | false =>
        have : headF s = (0, 0, 0) := by unfold headF headIs levelF; rw [he]; simp
        rw [this]; exact Head_not2 s w hs h1 h6 he
      | true =>
        have hi : headIs s = true := by unfold headIs levelF; rw [he, decide_eq_true h1, decide_eq_true h6]; rfl
        have hF : headF s = (lead s ⟨#[35]⟩, headFrom s, headFrom s + (headC s).size) := by unfold headF; rw [if_pos hi]; rfl
        rw [hF]
        by_cases hz : (headO s).size = 0
        · have : headC s = trimR (headO s) blanksT := by unfold headC; rw [toList_nil hz]; rfl
          rw [this]
          exact Head_bare s w hs h1 h6 he _ _ _ rfl rfl rfl hz
        · have hne := toList_ne (s := headO s) (by omega)
          cases ho : ((headO s).toList == (trimR (headO s) blanksT).toList) with
          | false =>
            have : headC s = trimR (headO s) blanksT := by unfold headC; rw [hne, ho]; rfl
            rw [this]
            exact Head_open s w hs h1 h6 he _ _ _ rfl rfl rfl hz ho
          | true =>
            have : headC s = trimR (s.extract (headFrom s) s.size) blanksT := by unfold headC; rw [hne, ho]; rfl
            rw [this]
            exact Head_yes s w hs h1 h6 he _ _ _ rfl rfl rfl hz (toList_inj (eq_of_beq ho))
    · have : headF s = (0, 0, 0) := by unfold headF headIs levelF; rw [decide_eq_false h6]; simp
      rw [this]; exact Head_not1 s w hs (Or.inr (by omega))
  · have : headF s = (0, 0, 0) := by unfold headF headIs levelF; rw [decide_eq_false h1]; simp
    rw [this]; exact Head_not1 s w hs (Or.inl (by omega))

end Go.Proofs.YtngikakigkfbnaaDoor
