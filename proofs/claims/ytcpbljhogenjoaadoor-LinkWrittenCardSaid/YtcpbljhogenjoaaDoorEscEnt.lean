/- Walks: escape.Entity. -/
import Derived.Test.YtcpbljhogenjoaaDoorEscNum2
namespace Go.Proofs.YtcpbljhogenjoaaDoor
set_option linter.unusedVariables false
set_option linter.unusedSimpArgs false
open Go Go.RowKit Go.Shelf Go.Lib

theorem leadN_tail (s set : ByteArray) (n k : Nat) : leadN (s.extract n s.size) set k = leadN s set (n + k) := by
  unfold leadN
  rw [tail_data, List.drop_drop]

theorem tail_num (s : ByteArray) (k : Nat) (hk : k ≤ s.size) : numF s k = ((numF (s.extract k s.size) 0).1, if (numF (s.extract k s.size) 0).2 = 0 then 0 else k + (numF (s.extract k s.size) 0).2) := by
  unfold numF
  simp only [tail_byte, Nat.add_zero, tail_sz]
  generalize (byteU s k == 120 || byteU s k == 88) = x
  have ha : atOf x k = k + atOf x 0 := by cases x <;> simp [atOf]
  have hn : numN (s.extract k s.size) x (atOf x 0) = numN s x (atOf x k) := by unfold numN; rw [leadN_tail, ← ha]
  rw [hn]
  by_cases hf : atOf x k ≤ s.size
  · have hl := numN_le s x (atOf x k) hf
    generalize numN s x (atOf x k) = n at *
    rw [ha] at *
    have d1 : decide (atOf x 0 + n < s.size - k) = decide (k + atOf x 0 + n < s.size) := by rw [decide_eq_decide]; omega
    rw [d1, tail_ext s k _ _ hk (by omega), show k + (atOf x 0 + n) = k + atOf x 0 + n by omega]
    split
    · simp; omega
    · simp
  · have hz : numN s x (atOf x k) = 0 := by unfold numN; rw [leadN_end s _ _ (by omega)]; simp
    rw [hz]; simp

theorem tail_cut1 (s : ByteArray) (k : Nat) (c : UInt8) (h : Lib.hasPrefix (s.extract k s.size).data.toList [c] = true) : (⟨(Lib.trimPrefix (s.extract k s.size).data.toList [c]).toArray⟩ : ByteArray) = s.extract (k + 1) s.size := by
  apply ba_ext
  unfold Lib.trimPrefix
  rw [if_pos h, tail_data, tail_data]
  show (s.data.toList.drop k).drop 1 = _
  rw [List.drop_drop]

/-- an entity at a place, whatever the place -/
def entI (s : ByteArray) (a : Int) : ByteArray × Nat := if 0 ≤ a then entF s a.toNat else (⟨#[]⟩, 0)
theorem entI_in (s : ByteArray) (n : Nat) : entI s n = entF s n := by unfold entI; rw [if_pos (by omega)]; rfl
theorem entI_out (s : ByteArray) (a : Int) (h : ¬ (0 ≤ a ∧ a < s.size)) : entI s a = (⟨#[]⟩, 0) := by
  unfold entI
  split
  · have d : decide (a.toNat < s.size) = false := decide_eq_false (by omega)
    unfold entF; rw [d]; rfl
  · rfl

theorem ent_no (s : ByteArray) (n : Nat) (h : (decide (n < s.size) && byteU s n == 38) = false) : entF s n = (⟨#[]⟩, 0) := by
  unfold entF; rw [if_neg (by rw [h]; decide)]

theorem ent_num (s : ByteArray) (n : Nat) (h : (decide (n < s.size) && byteU s n == 38) = true) (h2 : (decide (n + 1 < s.size) && byteU s (n + 1) == 35) = true) :
    entF s n = if (numF (s.extract (n + 2) s.size) 0).2 = 0 then (⟨#[]⟩, 0) else ((numF (s.extract (n + 2) s.size) 0).1, (numF (s.extract (n + 2) s.size) 0).2 + 2) := by
  have hk : n + 2 ≤ s.size := by simp only [Bool.and_eq_true, decide_eq_true_eq] at h2; omega
  unfold entF
  rw [if_pos h, if_pos h2, tail_num s (n + 2) hk]
  generalize numF (s.extract (n + 2) s.size) 0 = p
  by_cases h0 : p.2 = 0
  · rw [if_pos h0, if_pos rfl, if_pos h0]
  · rw [if_neg h0, if_neg h0, if_neg (show ¬ n + 2 + p.2 = 0 by omega)]
    congr 1; omega

theorem ent_name (s : ByteArray) (n : Nat) (h : (decide (n < s.size) && byteU s n == 38) = true) (h2 : (decide (n + 1 < s.size) && byteU s (n + 1) == 35) = false) (m : Nat) (hm : min (leadN s wordT (n + 1)) 8 = m) (D : ByteArray) (hD : s.extract (n + 1) (n + 1 + m) = D) (V : Int) (ok : Bool) (hP : entP D = (V, ok)) :
    entF s n = if (ok && (decide (n + 1 + m < s.size) && byteU s (n + 1 + m) == 59)) = true then (charF V.toNat, m + 2) else (⟨#[]⟩, 0) := by
  unfold entF
  rw [if_pos h, if_neg (by rw [h2]; decide)]
  simp only [hm, hD]
  unfold entP at hP
  cases hn : entNum D.data.toList with
  | none => rw [hn] at hP; simp only [Prod.mk.injEq] at hP; rw [← hP.2]; rfl
  | some v =>
    rw [hn] at hP
    simp only [Prod.mk.injEq] at hP
    rw [← hP.2, ← hP.1, Bool.true_and]; rfl

theorem entL_small : ∀ p ∈ entL, p.2 ≤ 10000 := by decide +kernel
theorem entP_bd (D : ByteArray) : 0 ≤ (entP D).1 ∧ (entP D).1 ≤ 10000 := by
  unfold entP entNum
  cases h : (entL.find? fun p => p.1 == D.data.toList) with
  | none => simp
  | some p =>
    have := entL_small p (List.mem_of_find?_eq_some h)
    simp; omega

set_option maxHeartbeats 4000000 in
set_option maxRecDepth 100000 in
theorem Entity_in (s : ByteArray) (n : Nat) (hn : n < s.size) (w : World) (hE : EnvE w) (hs : s.size ≤ 1000000) :
    Calls Tryd.prog 18 #[.string s, .int .i64 (n : Nat)] w fun e w' => e = .returned (.tuple #[.string (entF s n).1, .int .i64 ((entF s n).2 : Nat)]) ∧ Below w.heap.size w w' := by
  have HE := Lib.hid hE
  clear hE
  have j0 : (0 : Int) ≤ (n : Int) := by omega
  have j1 : (n : Int) < (s.size : Int) := by omega
  have j2 : (n : Int) ≤ (s.size : Int) := by omega
  have hc1 := fun w => Tryd.strings_CutPrefix (s.extract n s.size) ⟨#[38]⟩ w
  rw [show (ByteArray.mk #[38]).data.toList = [38] from rfl] at hc1
  have hp1 := pre_at s n 38 (by omega)
  cases h1 : (decide (n < s.size) && byteU s n == 38) with
  | false =>
    have hr : Hid (entF s n = (⟨#[]⟩, 0)) := ent_no s n h1
    rw [hp1, h1] at hc1
    clear hp1 h1
    go_enter Tryd.func18, Tryd.ntmps18
    go_wp2_with fail
    refine (hc1 _).mono ?_
    rintro e w1 ⟨rfl, rfl⟩
    go_wp2_with fail
    go_ret2
    exact ⟨ret_si (by rw [hr.out]) (by rw [hr.out]; rfl), Below.refl _ _⟩
  | true =>
    have hp1' := hp1.trans h1
    rw [tail_cut1 s n 38 hp1', hp1, h1] at hc1
    clear hp1
    have hc2 := fun w => Tryd.strings_CutPrefix (s.extract (n + 1) s.size) ⟨#[35]⟩ w
    rw [show (ByteArray.mk #[35]).data.toList = [35] from rfl] at hc2
    have hp2 := pre_at s (n + 1) 35 (by omega)
    cases h2 : (decide (n + 1 < s.size) && byteU s (n + 1) == 35) with
    | true =>
      have hof := Lib.hid (ent_num s n h1 h2)
      have hp2' := hp2.trans h2
      rw [tail_cut1 s (n + 1) 35 hp2', hp2, h2] at hc2
      have hnm := fun w hE => numeric_calls (s.extract (n + 1 + 1) s.size) w hE (by rw [tail_sz]; omega)
      clear hp2 hp2' hp1' h1 h2
      have hpb : Hid (0 ≤ (numF (s.extract (n + 2) s.size) 0).2) := Nat.zero_le _
      have hpd : (numF (s.extract (n + 2) s.size) 0).2 ≤ 1000001 := by
        unfold numF
        simp only []
        split
        · rename_i h
          simp only [Bool.and_eq_true, decide_eq_true_eq] at h
          have := h.2.1
          rw [tail_sz] at this
          show _ + 1 ≤ 1000001
          omega
        · exact Nat.zero_le _
      rw [show n + 1 + 1 = n + 2 from rfl] at *
      generalize numF (s.extract (n + 2) s.size) 0 = p at *
      generalize s.extract (n + 2) s.size = T at *
      by_cases h0 : p.2 = 0
      · have hr : Hid (entF s n = (⟨#[]⟩, 0)) := by show _ = _; rw [hof.out, if_pos h0]
        rw [h0] at hnm
        clear hof h0 hpd hpb
        go_enter Tryd.func18, Tryd.ntmps18
        go_wp2_with fail
        refine (hc1 _).mono ?_
        rintro e w1 ⟨rfl, rfl⟩
        go_wp2_with fail
        refine (hc2 _).mono ?_
        rintro e w1 ⟨rfl, rfl⟩
        go_wp2_with fail
        refine (hnm _ HE.out).mono ?_
        rintro e w1 ⟨rfl, hB⟩
        go_wp2_with fail
        go_ret2
        exact ⟨ret_si (by rw [hr.out]) (by rw [hr.out]; rfl), hB⟩
      · have hr : Hid (entF s n = (p.1, p.2 + 2)) := by show _ = _; rw [hof.out, if_neg h0]
        have d0 : ((p.2 : Int) == 0) = false := beq_eq_false_iff_ne.2 (by omega)
        have e1 : IntKind.i64.wrap ((p.2 : Int) + 2) = (p.2 : Int) + 2 := IntWalk.i64_in _ (by omega)
        clear hof h0 hpd hpb
        obtain ⟨P1, P2⟩ := p
        simp only at *
        go_enter Tryd.func18, Tryd.ntmps18
        go_wp2_with fail
        refine (hc1 _).mono ?_
        rintro e w1 ⟨rfl, rfl⟩
        go_wp2_with fail
        refine (hc2 _).mono ?_
        rintro e w1 ⟨rfl, rfl⟩
        go_wp2_with fail
        refine (hnm _ HE.out).mono ?_
        rintro e w1 ⟨rfl, hB⟩
        go_wp2_with fail
        go_ret2
        exact ⟨ret_si (by rw [hr.out]) (by rw [hr.out]; simp), hB⟩
    | false =>
      have hof := fun D hD V ok hP => ent_name s n h1 h2 _ rfl D hD V ok hP
      have HOF := Lib.hid hof
      clear hof
      rw [hp2, h2] at hc2
      have hfr := fun w => front_calls (s.extract (n + 1) s.size) wordT 8 w (by rw [tail_sz]; omega) (by decide) word_ascii (by decide)
      have hlw := leadN_le s wordT (n + 1) (by omega)
      have hd : (s.extract (n + 1) s.size).extract 0 (min (lead (s.extract (n + 1) s.size) wordT) 8) = s.extract (n + 1) (n + 1 + min (leadN s wordT (n + 1)) 8) := by
        rw [lead_tail]
        exact tail_ext s _ 0 _ (by omega) (by omega)
      rw [hd] at hfr
      clear hd hp2 h2 h1 hp1'
      have hm : n + 1 + min (leadN s wordT (n + 1)) 8 ≤ s.size := by omega
      have hm8 : min (leadN s wordT (n + 1)) 8 ≤ 8 := Nat.min_le_right _ _
      generalize min (leadN s wordT (n + 1)) 8 = m at *
      have hz : (s.extract (n + 1) (n + 1 + m)).size = m := by rw [ByteArray.size_extract]; omega
      have hHOF := Lib.hid (HOF.out (s.extract (n + 1) (n + 1 + m)) rfl (entP (s.extract (n + 1) (n + 1 + m))).1 (entP (s.extract (n + 1) (n + 1 + m))).2 rfl)
      have hbd := entP_bd (s.extract (n + 1) (n + 1 + m))
      have hcl := fun w => classEntity_calls (s.extract (n + 1) (n + 1 + m)) w
      have hpr := fun w => Tryd.strings_HasPrefix ((s.extract (n + 1) s.size).extract m (s.extract (n + 1) s.size).size) ⟨#[59]⟩ w
      have hp3 : Lib.hasPrefix ((s.extract (n + 1) s.size).extract m (s.extract (n + 1) s.size).size).data.toList [59] = (decide (n + 1 + m < s.size) && byteU s (n + 1 + m) == 59) := by
        rw [pre_at _ m 59 (by rw [tail_sz]; omega), tail_byte, tail_sz]
        have : decide (m < s.size - (n + 1)) = decide (n + 1 + m < s.size) := by rw [decide_eq_decide]; omega
        rw [this]
      rw [show (ByteArray.mk #[59]).data.toList = [59] from rfl, hp3] at hpr
      clear hp3 HOF hlw
      have hrz : (s.extract (n + 1) s.size).size = s.size - (n + 1) := tail_sz _ _
      generalize s.extract (n + 1) (n + 1 + m) = D at *
      have hch := fun w => char_calls (entP D).1.toNat w (by omega)
      have hV : (((entP D).1.toNat : Nat) : Int) = (entP D).1 := by omega
      rw [hV] at hch
      generalize (entP D).1 = V at *
      generalize (entP D).2 = ok at *
      generalize s.extract (n + 1) s.size = R at *
      subst hz
      have i2 : (0 : Int) ≤ (D.size : Int) := by omega
      have i3 : (D.size : Int) ≤ (R.size : Int) := by omega
      have i4 : D.size ≤ R.size := by omega
      have e1 : IntKind.i64.wrap ((D.size : Int) + 2) = (D.size : Int) + 2 := IntWalk.i64_in _ (by omega)
      clear hm hm8 hbd hV hrz
      cases ok with
      | false =>
        have hr : Hid (entF s n = (⟨#[]⟩, 0)) := hHOF.out
        clear hHOF
        go_enter Tryd.func18, Tryd.ntmps18
        go_wp2_with fail
        refine (hc1 _).mono ?_
        rintro e w1 ⟨rfl, rfl⟩
        go_wp2_with fail
        refine (hc2 _).mono ?_
        rintro e w1 ⟨rfl, rfl⟩
        go_wp2_with fail
        refine (hfr _).mono ?_
        rintro e w1 ⟨rfl, hB⟩
        go_wp2_with fail
        refine (hcl _).mono ?_
        rintro e w2 ⟨rfl, hB2⟩
        go_wp2_with fail
        go_ret2
        exact ⟨ret_si (by rw [hr.out]) (by rw [hr.out]; rfl), hB.trans (hB2.mono hB.size)⟩
      | true =>
        cases h3 : (decide (n + 1 + D.size < s.size) && byteU s (n + 1 + D.size) == 59) with
        | true =>
          have hr : Hid (entF s n = (charF V.toNat, D.size + 2)) := by show _ = _; rw [hHOF.out, h3]; rfl
          rw [h3] at hpr
          clear hHOF h3
          go_enter Tryd.func18, Tryd.ntmps18
          go_wp2_with fail
          refine (hc1 _).mono ?_
          rintro e w1 ⟨rfl, rfl⟩
          go_wp2_with fail
          refine (hc2 _).mono ?_
          rintro e w1 ⟨rfl, rfl⟩
          go_wp2_with fail
          refine (hfr _).mono ?_
          rintro e w1 ⟨rfl, hB⟩
          go_wp2_with fail
          refine (hcl _).mono ?_
          rintro e w2 ⟨rfl, hB2⟩
          go_wp2_with fail
          refine (hpr _).mono ?_
          rintro e w3 ⟨rfl, rfl⟩
          go_wp2_with fail
          refine (hch _).mono ?_
          rintro e w3 ⟨rfl, rfl⟩
          go_wp2_with fail
          go_ret2
          exact ⟨ret_si (by rw [hr.out]) (by rw [hr.out]; simp), hB.trans (hB2.mono hB.size)⟩
        | false =>
          have hr : Hid (entF s n = (⟨#[]⟩, 0)) := by show _ = _; rw [hHOF.out, h3]; rfl
          rw [h3] at hpr
          clear hHOF h3
          go_enter Tryd.func18, Tryd.ntmps18
          go_wp2_with fail
          refine (hc1 _).mono ?_
          rintro e w1 ⟨rfl, rfl⟩
          go_wp2_with fail
          refine (hc2 _).mono ?_
          rintro e w1 ⟨rfl, rfl⟩
          go_wp2_with fail
          refine (hfr _).mono ?_
          rintro e w1 ⟨rfl, hB⟩
          go_wp2_with fail
          refine (hcl _).mono ?_
          rintro e w2 ⟨rfl, hB2⟩
          go_wp2_with fail
          refine (hpr _).mono ?_
          rintro e w3 ⟨rfl, rfl⟩
          go_wp2_with fail
          go_ret2
          exact ⟨ret_si (by rw [hr.out]) (by rw [hr.out]; rfl), hB.trans (hB2.mono hB.size)⟩

end Go.Proofs.YtcpbljhogenjoaaDoor
