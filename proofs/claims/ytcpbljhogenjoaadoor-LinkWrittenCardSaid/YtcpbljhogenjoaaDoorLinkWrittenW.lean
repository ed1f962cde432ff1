/- Walk: the law LinkWritten. -/
import Derived.Test.YtcpbljhogenjoaaDoorAlive08
import Derived.Test.YtcpbljhogenjoaaDoorLinkWrittenP
import Derived.Test.YtcpbljhogenjoaaDoorBytes
import Derived.BigQuiet
import Derived.Deep.QuietTactic
import Derived.Deep.LoopGhost
import Derived.Deep.DeepCutAuto
namespace Go.Proofs.YtcpbljhogenjoaaDoor
set_option linter.unusedVariables false
set_option linter.unusedSimpArgs false
open Go Go.RowKit Go.Shelf Go.Lib

theorem mask_snoc (s : ByteArray) (k : Nat) (h : k < s.size) : maskL (s.data.toList.take (k + 1)) = maskL (s.data.toList.take k) ++ maskU s[k] := by
  have e : s.data.toList.take (k + 1) = s.data.toList.take k ++ [s[k]] := by
    rw [List.take_add_one]
    have : s.data.toList[k]? = some s[k] := by
      rw [List.getElem?_eq_getElem (by rw [lst_size]; exact h)]; rfl
    rw [this]; rfl
  rw [e]; simp [maskL]
theorem mask_len : ∀ l : List UInt8, (maskL l).length ≤ 2 * l.length := by
  intro l
  induction l with
  | nil => exact Nat.le_refl _
  | cons x l ih =>
    have : maskL (x :: l) = maskU x ++ maskL l := by simp [maskL]
    rw [this, List.length_append, List.length_cons]
    have : (maskU x).length ≤ 2 := by unfold maskU; split <;> simp
    omega

/-- what the law writes -/
def maskF (s : ByteArray) : ByteArray := ⟨(maskL s.data.toList).toArray⟩
theorem maskF_le (s : ByteArray) : (maskF s).size ≤ 2 * s.size := by
  have := mask_len s.data.toList
  rw [lst_size] at this
  have h : (maskF s).size = (maskL s.data.toList).length := by rw [← lst_size]; rfl
  omega

set_option maxHeartbeats 2000000 in
set_option maxRecDepth 100000 in
theorem masked_calls (s : ByteArray) (w : World) (hs : s.size ≤ 5000) :
    Calls Tryd.prog 12 #[.string s] w fun e w' => e = .returned (.string (maskF s)) ∧ Below w.heap.size w w' := by
  go_enter Tryd.func12, Tryd.ntmps12
  go_wp2_with fail
  have hO := Own.new w.heap.size w (Nat.le_refl _)
  have hW2 := (Below.refl w.heap.size w).alloc (Nat.le_refl _) (.cells #[] 5)
  generalize (w.alloc (.cells #[] 5)) = W2 at *
  generalize Value.slice (some { block := w.heap.size, off := 0 }) 0 0 = v0 at *
  go_loopg [3, 4] s.size (fun gk v i wr => ∃ k : Nat, Aside (gk + k = s.size) ∧ k ≤ s.size ∧ i = .int .i64 k ∧ Aside (Own w.heap.size v (maskL (s.data.toList.take k)) wr) ∧ Below w.heap.size w wr)
  case atStart => exact ⟨0, rfl, Nat.zero_le _, rfl, hO, hW2⟩
  case round =>
    obtain ⟨k, hgk, hk, rfl, hOw, hL⟩ := hrel
    clear hO hW2
    by_cases hlt : k < s.size
    · have HR := Lib.hid (mask_snoc s k hlt)
      have hll : (maskL (s.data.toList.take k)).length ≤ 10000 := by
        have := mask_len (s.data.toList.take k)
        rw [List.length_take, lst_size] at this
        omega
      have qp := fun w => Plain_calls (s[k].toNat : Int) (by omega) (by have := UInt8.toNat_lt s[k]; omega) w
      cases hp : plainB (s[k].toNat : Int) with
      | true =>
        rw [hp] at qp
        have hm : maskU s[k] = [92, s[k]] := by unfold maskU plainU; rw [hp]; rfl
        rw [hm] at HR
        clear hm hp
        go_wp2_with fail
        refine (qp _).mono ?_
        rintro e w1 ⟨rfl, hb⟩
        replace hL := hL.trans (hb.mono hL.size)
        have hO1 := hOw.out.below hb
        have zL := hL.size
        clear hb hOw qp
        have hll2 : (maskL (s.data.toList.take k) ++ [92]).length ≤ 1000000 := by rw [List.length_append, List.length_singleton]; omega
        go_wp2_with (at_builtin; first
          | (refine append_byte rfl (.tmp 16) (.tmp 17) rfl w.heap.size _ (maskL (s.data.toList.take k)) 92 _ w1 rfl rfl hO1 rfl (by omega) zL ?_; intro v' w' hO' hB' _)
          | (refine append_byte rfl (.tmp 19) (.tmp 23) rfl w.heap.size _ (maskL (s.data.toList.take k) ++ [92]) s[k] _ w' rfl rfl hO' rfl hll2 (hL.trans hB').size ?_; intro v'' w'' hO'' hB'' _))
        have hL2 := hL.trans hB'
        go_roundg (s.size - (k + 1))
        case measure => have := hgk.out; omega
        case rel => exact ⟨k + 1, by show _ = _; omega, by omega, by go_num, by show Own _ _ _ _; rw [HR.out]; rw [List.append_assoc] at hO''; exact hO'', hL2.trans hB''⟩
      | false =>
        rw [hp] at qp
        have hm : maskU s[k] = [s[k]] := by unfold maskU plainU; rw [hp]; rfl
        rw [hm] at HR
        clear hm hp
        go_wp2_with fail
        refine (qp _).mono ?_
        rintro e w1 ⟨rfl, hb⟩
        replace hL := hL.trans (hb.mono hL.size)
        have hO1 := hOw.out.below hb
        have zL := hL.size
        clear hb hOw qp
        go_wp2_with (at_builtin; refine append_byte rfl (.tmp 19) (.tmp 23) rfl w.heap.size _ (maskL (s.data.toList.take k)) s[k] _ w1 rfl rfl hO1 rfl (by omega) zL ?_; intro v'' w'' hO'' hB'' _)
        go_roundg (s.size - (k + 1))
        case measure => have := hgk.out; omega
        case rel => exact ⟨k + 1, by show _ = _; omega, by omega, by go_num, by show Own _ _ _ _; rw [HR.out]; exact hO'', hL.trans hB''⟩
    · have hl' : maskL (s.data.toList.take k) = maskL s.data.toList := by rw [List.take_of_length_le (by rw [lst_size]; omega)]
      obtain ⟨g, c, hv⟩ := hOw.out.2
      have hO3 := hOw.out
      rw [hv] at hO3
      have htx := text_of hO3
      rw [← hv, hl'] at htx
      clear hO3 hv hOw hgk hl'
      go_wp2_with fail
      go_ret
      exact ⟨rfl, hL⟩

theorem wr_list (o c : UInt8) (x : ByteArray) : ((⟨#[o]⟩ : ByteArray) ++ maskF x ++ (⟨#[c]⟩ : ByteArray)).data.toList = o :: (maskL x.data.toList ++ [c]) := by
  simp [maskF, ByteArray.data_append]
theorem wr_size (o c : UInt8) (x : ByteArray) : ((⟨#[o]⟩ : ByteArray) ++ maskF x ++ (⟨#[c]⟩ : ByteArray)).size = (maskF x).size + 2 := by
  rw [← lst_size, wr_list]
  have h : (maskF x).size = (maskL x.data.toList).length := by rw [← lst_size]; rfl
  simp [h]
theorem same_of (x : ByteArray) : (⟨x.data.toList.toArray⟩ : ByteArray) = x := by
  cases x; simp
theorem dest_written (d : ByteArray) (h10 : ∀ x ∈ d.data.toList, x ≠ 10) : destI ((⟨#[60]⟩ : ByteArray) ++ maskF d ++ (⟨#[62]⟩ : ByteArray)) 0 = (d, (maskF d).size + 2) := by
  have h := dest_mask _ d.data.toList (wr_list 60 62 d) h10
  have hz : (maskF d).size = (maskL d.data.toList).length := by rw [← lst_size]; rfl
  have e := destI_in ((⟨#[60]⟩ : ByteArray) ++ maskF d ++ (⟨#[62]⟩ : ByteArray)) 0 (Nat.zero_le _)
  rw [show ((0 : Int)) = ((0 : Nat) : Int) from rfl, e, h, same_of, hz]
theorem title_written (o c : UInt8) (ho : o = 34 ∧ c = 34 ∨ o = 40 ∧ c = 41) (t : ByteArray) : titleI ((⟨#[o]⟩ : ByteArray) ++ maskF t ++ (⟨#[c]⟩ : ByteArray)) 0 = (t, (maskF t).size + 2) := by
  have h := title_mask _ o c t.data.toList ho (wr_list o c t)
  have hz : (maskF t).size = (maskL t.data.toList).length := by rw [← lst_size]; rfl
  have e := titleI_in ((⟨#[o]⟩ : ByteArray) ++ maskF t ++ (⟨#[c]⟩ : ByteArray)) 0 (Nat.zero_le _)
  rw [show ((0 : Int)) = ((0 : Nat) : Int) from rfl, e, h, same_of, hz]

theorem str_same' (a : ByteArray) : (a.toList == a.toList) = true := by simp

set_option maxHeartbeats 4000000 in
set_option maxRecDepth 100000 in
theorem LinkWritten_in (d t : ByteArray) (w : World) (hE : EnvE w) (hd : d.size ≤ 5000) (ht : t.size ≤ 5000) :
    Calls Tryd.prog 4 #[.string d, .string t] w fun e w' => e = .returned (.bool true) ∧ Below w.heap.size w w' := by
  have HE := Lib.hid hE
  clear hE
  have d1 : decide ((5000 : Int) < (d.size : Int)) = false := decide_eq_false (by omega)
  have d2 : decide ((5000 : Int) < (t.size : Int)) = false := decide_eq_false (by omega)
  go_enter Tryd.func4, Tryd.ntmps4
  go_wp2_with fail
  refine (alive08_calls _ HE.out).mono ?_
  rintro e w1 ⟨rfl, b1⟩
  go_wp2_with fail
  go_loopg [5] d.size (fun gk i wr => ∃ k : Nat, Aside (gk + k = d.size) ∧ k ≤ d.size ∧ i = .int .i64 k ∧ Aside (∀ j, j < k → d.data.toList[j]? ≠ some 10) ∧ w1 = wr)
  case atStart => exact ⟨0, rfl, Nat.zero_le _, rfl, (fun j hj => absurd hj (Nat.not_lt_zero _)), rfl⟩
  case round =>
    obtain ⟨k, hgk, hk, rfl, hA, rfl⟩ := hrel
    by_cases hlt : k < d.size
    · cases hb : ((d[k].toNat : Int) == 10) with
      | true =>
        go_wp2_with fail
        go_ret
        exact ⟨rfl, b1⟩
      | false =>
        have hne : Hid (d.data.toList[k]? ≠ some 10) := by
          show _ ≠ _
          rw [List.getElem?_eq_getElem (by rw [lst_size]; exact hlt)]
          intro h
          have h2 : d[k] = 10 := by
            simp at h
            exact h
          rw [h2] at hb
          exact absurd hb (by decide)
        go_wp2_with fail
        go_roundg (d.size - (k + 1))
        case measure => have := hgk.out; omega
        case rel => exact ⟨k + 1, by show _ = _; omega, by omega, by go_num, (fun j hj => by
          by_cases e : j = k
          · rw [e]; exact hne.out
          · exact hA.out j (by omega)), rfl⟩
    · have h10 : ∀ x ∈ d.data.toList, x ≠ 10 := by
        intro x hx h
        obtain ⟨j, hj, hj2⟩ := List.getElem_of_mem hx
        have hjz : j < d.size := by rw [lst_size] at hj; exact hj
        exact hA.out j (by omega) (by rw [List.getElem?_eq_getElem hj, hj2, h])
      clear hA hgk
      have m1 := maskF_le d
      have m2 := maskF_le t
      have qa := fun w => masked_calls d w hd
      have qb := fun w => masked_calls t w ht
      have q1 := fun w hE => Dest_calls ((⟨#[60]⟩ : ByteArray) ++ maskF d ++ (⟨#[62]⟩ : ByteArray)) 0 w hE (by rw [wr_size]; omega)
      have q2 := fun w hE => Title_calls ((⟨#[34]⟩ : ByteArray) ++ maskF t ++ (⟨#[34]⟩ : ByteArray)) 0 w hE (by rw [wr_size]; omega)
      have q3 := fun w hE => Title_calls ((⟨#[40]⟩ : ByteArray) ++ maskF t ++ (⟨#[41]⟩ : ByteArray)) 0 w hE (by rw [wr_size]; omega)
      rw [dest_written d h10] at q1
      rw [title_written 34 34 (Or.inl ⟨rfl, rfl⟩) t] at q2
      rw [title_written 40 41 (Or.inr ⟨rfl, rfl⟩) t] at q3
      clear h10
      have c1 : (((maskF d).size + 2 : Nat) : Int) = ((maskF d).size : Int) + 2 := by omega
      have c2 : (((maskF t).size + 2 : Nat) : Int) = ((maskF t).size : Int) + 2 := by omega
      simp only [c1] at q1
      simp only [c2] at q2 q3
      have e1 : IntKind.i64.wrap (((maskF d).size : Int) + 2) = ((maskF d).size : Int) + 2 := IntWalk.i64_in _ (by omega)
      have e2 : IntKind.i64.wrap (((maskF t).size : Int) + 2) = ((maskF t).size : Int) + 2 := IntWalk.i64_in _ (by omega)
      clear c1 c2
      have s1 := str_same' d
      have s2 := str_same' t
      generalize maskF d = md at *
      generalize maskF t = mt at *
      have HB := Lib.hid b1
      go_wp2_with fail
      refine (qa _).mono ?_
      rintro e w2 ⟨rfl, b2⟩
      replace HB := Lib.hid (HB.out.trans (b2.mono HB.out.size))
      clear b2
      go_wp2_with fail
      refine (q1 _ (HE.out.below HB.out)).mono ?_
      rintro e w3 ⟨rfl, b2⟩
      replace HB := Lib.hid (HB.out.trans (b2.mono HB.out.size))
      clear b2
      go_wp2_with fail
      refine (qb _).mono ?_
      rintro e w4 ⟨rfl, b2⟩
      replace HB := Lib.hid (HB.out.trans (b2.mono HB.out.size))
      clear b2
      go_wp2_with fail
      refine (q2 _ (HE.out.below HB.out)).mono ?_
      rintro e w5 ⟨rfl, b2⟩
      replace HB := Lib.hid (HB.out.trans (b2.mono HB.out.size))
      clear b2
      go_wp2_with fail
      refine (qb _).mono ?_
      rintro e w6 ⟨rfl, b2⟩
      replace HB := Lib.hid (HB.out.trans (b2.mono HB.out.size))
      clear b2
      go_wp2_with fail
      refine (q3 _ (HE.out.below HB.out)).mono ?_
      rintro e w7 ⟨rfl, b2⟩
      replace HB := Lib.hid (HB.out.trans (b2.mono HB.out.size))
      clear b2
      go_wp2_with fail
      refine (qa _).mono ?_
      rintro e w8 ⟨rfl, b2⟩
      replace HB := Lib.hid (HB.out.trans (b2.mono HB.out.size))
      clear b2
      go_wp2_with fail
      refine (qb _).mono ?_
      rintro e w9 ⟨rfl, b2⟩
      replace HB := Lib.hid (HB.out.trans (b2.mono HB.out.size))
      clear b2
      go_wp2_with fail
      go_ret
      exact ⟨by first | rfl | simp, HB.out⟩

set_option maxHeartbeats 1000000 in
set_option maxRecDepth 100000 in
theorem LinkWritten_walk (d t : ByteArray) (w : World) (hE : EnvE w) :
    Calls Tryd.prog 4 #[.string d, .string t] w fun e w' => e = .returned (.bool true) ∧ Below w.heap.size w w' := by
  by_cases hd : d.size ≤ 5000
  · by_cases ht : t.size ≤ 5000
    · exact LinkWritten_in d t w hE hd ht
    · have d1 : decide ((5000 : Int) < (d.size : Int)) = false := decide_eq_false (by omega)
      have d2 : decide ((5000 : Int) < (t.size : Int)) = true := decide_eq_true (by omega)
      go_enter Tryd.func4, Tryd.ntmps4
      go_wp2_with fail
      refine (alive08_calls _ hE).mono ?_
      rintro e w1 ⟨rfl, h1⟩
      go_wp2_with fail
      go_ret
      exact ⟨rfl, h1⟩
  · have d1 : decide ((5000 : Int) < (d.size : Int)) = true := decide_eq_true (by omega)
    go_enter Tryd.func4, Tryd.ntmps4
    go_wp2_with fail
    refine (alive08_calls _ hE).mono ?_
    rintro e w1 ⟨rfl, h1⟩
    go_wp2_with fail
    go_ret
    exact ⟨rfl, h1⟩

end Go.Proofs.YtcpbljhogenjoaaDoor
