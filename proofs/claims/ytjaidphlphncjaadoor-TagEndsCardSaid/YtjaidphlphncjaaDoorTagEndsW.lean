/- Walk: the law TagEnds. -/
import Derived.Test.YtjaidphlphncjaaDoorTagSmall
import Derived.Laws.Concat
namespace Go.Proofs.YtjaidphlphncjaaDoor
set_option linter.unusedVariables false
set_option linter.unusedSimpArgs false
open Go Go.RowKit Go.Lib

theorem TagEnds_out (a s b : ByteArray) (kind : Int) (w : World) (hE : Env w) (h : ¬ (a.size ≤ 5000 ∧ s.size ≤ 5000 ∧ b.size ≤ 5000)) :
    Calls Tryd.prog 6 #[.string a, .string s, .string b, .int .i64 kind] w fun e w' => e = .returned (.bool true) ∧ Below w.heap.size w w' := by
  have hc : decide ((5000 : Int) < (a.size : Int)) = true ∨ decide ((5000 : Int) < (a.size : Int)) = false ∧ (decide ((5000 : Int) < (s.size : Int)) = true ∨ decide ((5000 : Int) < (s.size : Int)) = false ∧ decide ((5000 : Int) < (b.size : Int)) = true) := by
    by_cases h1 : 5000 < a.size
    · exact Or.inl (decide_eq_true (by omega))
    by_cases h2 : 5000 < s.size
    · exact Or.inr ⟨decide_eq_false (by omega), Or.inl (decide_eq_true (by omega))⟩
    · exact Or.inr ⟨decide_eq_false (by omega), Or.inr ⟨decide_eq_false (by omega), decide_eq_true (by omega)⟩⟩
  clear h
  go_enter Tryd.func6, Tryd.ntmps6
  go_wp2_with fail
  refine (alive06_calls _ hE).mono ?_
  rintro e w1 ⟨rfl, h1⟩
  clear hE
  rcases hc with hc | ⟨hc, hc2 | ⟨hc2, hc3⟩⟩
  all_goals
    go_wp2_with fail
    go_ret
    exact ⟨rfl, h1⟩

set_option maxHeartbeats 2000000 in
set_option maxRecDepth 100000 in
theorem TagEnds_in (a s b : ByteArray) (kind : Int) (w : World) (hE : Env w) (ha : a.size ≤ 5000) (hs : s.size ≤ 5000) (hb : b.size ≤ 5000) :
    Calls Tryd.prog 6 #[.string a, .string s, .string b, .int .i64 kind] w fun e w' => e = .returned (.bool true) ∧ Below w.heap.size w w' := by
  have HE := Lib.hid hE
  have d1 : decide ((5000 : Int) < (a.size : Int)) = false := decide_eq_false (by omega)
  have d2 : decide ((5000 : Int) < (s.size : Int)) = false := decide_eq_false (by omega)
  have d3 : decide ((5000 : Int) < (b.size : Int)) = false := decide_eq_false (by omega)
  have z1 : (a ++ s).size = a.size + s.size := ByteArray.size_append
  have z2 : (a ++ s ++ b).size = a.size + s.size + b.size := by rw [ByteArray.size_append, z1]
  have q1 := fun w hE => Ends_calls s kind w hE (by omega)
  have q2 := fun w hE => Ends_calls (a ++ s ++ b) kind w hE (by omega)
  have q3 := fun w hE => Ends_calls ⟨(s.data.toList.map upU).toArray⟩ kind w hE (by rw [← lst_size, List.length_map, lst_size]; omega)
  rw [endsK_up] at q3
  have hm : Hid (endsK s.data.toList kind = true → endsK (a ++ s ++ b).data.toList kind = true) := by
    intro h
    have := endsK_mid a.data.toList s.data.toList b.data.toList kind h
    simpa using this
  have ho : Hid (¬ (1 ≤ kind ∧ kind ≤ 5) → endsK s.data.toList kind = false) := fun h => endsK_other _ _ (by omega)
  generalize endsK s.data.toList kind = q at *
  generalize endsK (a ++ s ++ b).data.toList kind = q' at *
  clear hE
  go_enter Tryd.func6, Tryd.ntmps6
  go_wp2_with fail
  refine (alive06_calls _ HE.out).mono ?_
  rintro e w1 ⟨rfl, b1⟩
  go_upto_region 5 with (fail)
  go_cut [39] (fun v wx => v = .bool false ∧ Below w.heap.size w wx)
  case first =>
    have E1 := HE.out.below b1
    go_wp2_with fail
    refine (q1 _ E1).mono ?_
    rintro e w2 ⟨rfl, b2⟩
    replace b1 := b1.trans (b2.mono b1.size)
    clear b2 E1
    have E1 := HE.out.below b1
    cases q with
    | false =>
      go_wp2_with fail
      go_meet
      exact ⟨rfl, b1⟩
    | true =>
      obtain rfl := hm.out rfl
      go_wp2_with fail
      refine (q2 _ E1).mono ?_
      rintro e w3 ⟨rfl, b2⟩
      replace b1 := b1.trans (b2.mono b1.size)
      clear b2 E1
      go_wp2_with fail
      go_meet
      exact ⟨rfl, b1⟩
  case rest =>
    obtain ⟨rfl, hW⟩ := hcut
    clear b1 q2 hm
    go_wp2_with fail
    have hO := Own.new w.heap.size wc hW.size
    have hW2 := hW.alloc hW.size (.cells #[] 5)
    generalize (wc.alloc (.cells #[] 5)) = W2 at *
    generalize Value.slice (some { block := wc.heap.size, off := 0 }) 0 0 = v0 at *
    go_loopg [9, 10] s.size (fun gk v i wr => ∃ k : Nat, Aside (gk + k = s.size) ∧ k ≤ s.size ∧ i = .int .i64 k ∧ Aside (Own w.heap.size v ((s.data.toList.take k).map upU) wr) ∧ Below w.heap.size w wr)
    case atStart => exact ⟨0, rfl, Nat.zero_le _, rfl, hO, hW2⟩
    case round =>
      obtain ⟨k, hgk, hk, rfl, hOw, hL⟩ := hrel
      clear hO hW2 hW
      by_cases hlt : k < s.size
      · have HR := Lib.hid (take_map_snoc upU s k hlt)
        have hll : ((s.data.toList.take k).map upU).length ≤ 1000000 := by rw [List.length_map, List.length_take, lst_size]; omega
        have zL := hL.size
        by_cases h1 : 97 ≤ (s[k].toNat : Int)
        · by_cases h2 : (s[k].toNat : Int) ≤ 122
          · have hy := up_yes _ h1 h2
            have ez := IntWalk.u8_in ((s[k].toNat : Int) - 32) (by omega)
            go_wp2_with (at_builtin; refine append_byte rfl (.tmp 58) (.tmp 60) rfl w.heap.size _ _ (upU s[k]) _ wr (by rw [← hy]) rfl hOw.out rfl hll zL ?_; intro v' w' hO' hB' _)
            go_roundg (s.size - (k + 1))
            case measure => have := hgk.out; omega
            case rel => exact ⟨k + 1, by show _ = _; omega, by omega, by go_num, by rw [← HR.out]; exact hO', hL.trans hB'⟩
          · have hy := up_no2 _ h2
            go_wp2_with (at_builtin; refine append_byte rfl (.tmp 58) (.tmp 60) rfl w.heap.size _ _ (upU s[k]) _ wr (by rw [hy]) rfl hOw.out rfl hll zL ?_; intro v' w' hO' hB' _)
            go_roundg (s.size - (k + 1))
            case measure => have := hgk.out; omega
            case rel => exact ⟨k + 1, by show _ = _; omega, by omega, by go_num, by rw [← HR.out]; exact hO', hL.trans hB'⟩
        · have hy := up_no1 _ h1
          go_wp2_with (at_builtin; refine append_byte rfl (.tmp 58) (.tmp 60) rfl w.heap.size _ _ (upU s[k]) _ wr (by rw [hy]) rfl hOw.out rfl hll zL ?_; intro v' w' hO' hB' _)
          go_roundg (s.size - (k + 1))
          case measure => have := hgk.out; omega
          case rel => exact ⟨k + 1, by show _ = _; omega, by omega, by go_num, by rw [← HR.out]; exact hO', hL.trans hB'⟩
      · have hl' : (s.data.toList.take k).map upU = s.data.toList.map upU := by rw [List.take_of_length_le (by rw [lst_size]; omega)]
        obtain ⟨g, c, hv⟩ := hOw.out.2
        have hO3 := hOw.out
        rw [hv] at hO3
        have htx := text_of hO3
        rw [← hv, hl'] at htx
        clear hO3 hv hOw hgk hl'
        have E1 := HE.out.below hL
        go_wp2_with fail
        refine (q3 _ E1).mono ?_
        rintro e w2 ⟨rfl, b2⟩
        replace hL := hL.trans (b2.mono hL.size)
        clear b2 E1 htx
        have E1 := HE.out.below hL
        go_wp2_with fail
        refine (q1 _ E1).mono ?_
        rintro e w2 ⟨rfl, b2⟩
        replace hL := hL.trans (b2.mono hL.size)
        clear b2 E1
        have E1 := HE.out.below hL
        have hqq : (q == q) = true := by cases q <;> rfl
        by_cases k1 : 1 ≤ kind
        · by_cases k2 : kind ≤ 5
          · go_wp2_with fail
            go_ret
            exact ⟨rfl, hL⟩
          · obtain rfl := ho.out (by omega)
            go_wp2_with fail
            refine (q1 _ E1).mono ?_
            rintro e w2 ⟨rfl, b2⟩
            replace hL := hL.trans (b2.mono hL.size)
            go_wp2_with fail
            go_ret
            exact ⟨rfl, hL⟩
        · obtain rfl := ho.out (by omega)
          go_wp2_with fail
          refine (q1 _ E1).mono ?_
          rintro e w2 ⟨rfl, b2⟩
          replace hL := hL.trans (b2.mono hL.size)
          go_wp2_with fail
          go_ret
          exact ⟨rfl, hL⟩

theorem TagEnds_walk (a s b : ByteArray) (kind : Int) (w : World) (hE : Env w) :
    Calls Tryd.prog 6 #[.string a, .string s, .string b, .int .i64 kind] w fun e w' => e = .returned (.bool true) ∧ Below w.heap.size w w' := by
  by_cases h : a.size ≤ 5000 ∧ s.size ≤ 5000 ∧ b.size ≤ 5000
  · exact TagEnds_in a s b kind w hE h.1 h.2.1 h.2.2
  · exact TagEnds_out a s b kind w hE h

end Go.Proofs.YtjaidphlphncjaaDoor
