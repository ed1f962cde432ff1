/- Walk: the law LinkWithin. -/
import Derived.Test.YtcpbljhogenjoaaDoorAlive08
import Derived.Test.YtcpbljhogenjoaaDoorLinkWithinP
import Derived.Deep.RegionHeld3
import Derived.Deep.QuietTactic
import Derived.Deep.DeepCutAuto
import Derived.Deep.CutBlock
namespace Go.Proofs.YtcpbljhogenjoaaDoor
set_option linter.unusedVariables false
set_option linter.unusedSimpArgs false
open Go Go.RowKit Go.Shelf Go.Lib

theorem labelI_facts (s : ByteArray) (a : Int) (n : Nat) (L : ByteArray) (h : labelI s a = (L, n)) : n = 0 ∨ ∃ i : Nat, a = i ∧ i < s.size ∧ labelF s i = (L, n) ∧ 0 < n := by
  by_cases hn : n = 0
  · exact Or.inl hn
  · refine Or.inr ?_
    by_cases ha : 0 ≤ a ∧ a < s.size
    · obtain ⟨i, rfl⟩ : ∃ i : Nat, a = i := ⟨a.toNat, by omega⟩
      exact ⟨i, rfl, by omega, by rw [← labelI_nat]; exact h, by omega⟩
    · rw [labelI_out s a ha] at h; cases h; exact absurd rfl hn
theorem destI_out' (s : ByteArray) (a : Int) (h : ¬ (0 ≤ a ∧ a < s.size)) : destI s a = (⟨#[]⟩, 0) := by
  unfold destI
  rw [fromF_out s a h]; rfl
theorem titleI_out' (s : ByteArray) (a : Int) (h : ¬ (0 ≤ a ∧ a < s.size)) : titleI s a = (⟨#[]⟩, 0) := by
  unfold titleI
  rw [fromF_out s a h]; rfl
theorem destI_facts (s : ByteArray) (a : Int) (n : Nat) (D : ByteArray) (h : destI s a = (D, n)) : n = 0 ∨ ∃ i : Nat, a = i ∧ 0 < n ∧ i + n ≤ s.size := by
  by_cases hn : n = 0
  · exact Or.inl hn
  · refine Or.inr ?_
    by_cases ha : 0 ≤ a ∧ a < s.size
    · obtain ⟨i, rfl⟩ : ∃ i : Nat, a = i := ⟨a.toNat, by omega⟩
      have := destF_bd s i (by omega)
      rw [← destI_in s i (by omega), h] at this
      exact ⟨i, rfl, by omega, this⟩
    · rw [destI_out' s a ha] at h; cases h; exact absurd rfl hn
theorem titleI_facts (s : ByteArray) (a : Int) (n : Nat) (T : ByteArray) (h : titleI s a = (T, n)) : n = 0 ∨ ∃ i : Nat, a = i ∧ 2 ≤ n ∧ i + n ≤ s.size ∧ T = plainF (s.extract (i + 1) (i + n - 1)) := by
  by_cases hn : n = 0
  · exact Or.inl hn
  · refine Or.inr ?_
    by_cases ha : 0 ≤ a ∧ a < s.size
    · obtain ⟨i, rfl⟩ : ∃ i : Nat, a = i := ⟨a.toNat, by omega⟩
      rw [titleI_in s i (by omega)] at h
      obtain ⟨_, h1, h2, h3⟩ := title_facts s i n T h (by omega)
      exact ⟨i, rfl, h1, h2, h3⟩
    · rw [titleI_out' s a ha] at h; cases h; exact absurd rfl hn
theorem defineI_facts (s : ByteArray) (a : Int) : (defineI s a).n = 0 ∨ ∃ i : Nat, a = i ∧ defineI s a = defineF s i ∧ 0 < (defineF s i).n := by
  by_cases hn : (defineI s a).n = 0
  · exact Or.inl hn
  · refine Or.inr ?_
    by_cases ha : 0 ≤ a
    · obtain ⟨i, rfl⟩ : ∃ i : Nat, a = i := ⟨a.toNat, by omega⟩
      have he : defineI s i = defineF s i := by unfold defineI; rw [if_pos ha]; rfl
      rw [he] at hn
      exact ⟨i, rfl, he, by omega⟩
    · unfold defineI at hn; rw [if_neg ha] at hn; exact absurd rfl hn

theorem defineI_facts' (s : ByteArray) (a : Int) : (defineI s a).n = 0 ∨ ∃ i : Nat, a = i ∧ 0 < (defineI s a).n ∧ (defineI s a).from_ = i ∧ i < (defineI s a).upto ∧ (defineI s a).upto ≤ i + (defineI s a).n ∧ i + (defineI s a).n ≤ s.size ∧ foldF (defineI s a).label = (defineI s a).label ∧ ∃ L', (defineI s a).label = foldF L' ∧ L'.size ≤ s.size := by
  rcases defineI_facts s a with h | ⟨i, rfl, he, hn⟩
  · exact Or.inl h
  · rw [he]
    exact Or.inr ⟨i, rfl, hn, define_facts s i hn⟩
theorem keep3 {W2 x y : World} {p : Nat} {v0 v1 v2 : Value} (hp : p < W2.heap.size)
    (h : x.cell? ⟨p, 0, none⟩ = some v0 ∧ x.cell? ⟨p, 3, none⟩ = some v1 ∧ x.cell? ⟨p, 4, none⟩ = some v2 ∧ Below W2.heap.size W2 x) (hb : Below x.heap.size x y) :
    y.cell? ⟨p, 0, none⟩ = some v0 ∧ y.cell? ⟨p, 3, none⟩ = some v1 ∧ y.cell? ⟨p, 4, none⟩ = some v2 ∧ Below W2.heap.size W2 y := by
  obtain ⟨h0, h1, h2, hB⟩ := h
  have hz := hB.size
  exact ⟨(hb.cell (p := ⟨p, 0, none⟩) (by show p < _; omega)).trans h0, (hb.cell (p := ⟨p, 3, none⟩) (by show p < _; omega)).trans h1,
    (hb.cell (p := ⟨p, 4, none⟩) (by show p < _; omega)).trans h2, hB.trans (hb.mono hz)⟩
theorem str_same (a : ByteArray) : (a.toList == a.toList) = true := by simp
theorem nb' (c d : UInt8) : ((c.toNat : Int) != (d.toNat : Int)) = !(c == d) := by rw [bne, u8_eq]

set_option maxHeartbeats 8000000 in
set_option maxRecDepth 100000 in
theorem LinkWithin_in (s : ByteArray) (a : Int) (w : World) (hE : EnvE w) (hs : s.size ≤ 20000) :
    Calls Tryd.prog 3 #[.string s, .int .i64 a] w fun e w' => e = .returned (.bool true) ∧ Below w.heap.size w w' := by
  have HE := Lib.hid hE
  clear hE
  have d1 : decide ((20000 : Int) < (s.size : Int)) = false := decide_eq_false (by omega)
  have q1 := fun w => Label_calls s a w (by omega)
  have q2 := fun w hE => Dest_calls s a w hE (by omega)
  have q3 := fun w hE => Title_calls s a w hE (by omega)
  have q4 := fun w hE => Define_calls s a w hE (by omega)
  have f1 := Lib.hid (labelI_facts s a (labelI s a).2 (labelI s a).1 rfl)
  have f2 := Lib.hid (destI_facts s a (destI s a).2 (destI s a).1 rfl)
  have f3 := Lib.hid (titleI_facts s a (titleI s a).2 (titleI s a).1 rfl)
  have f4 := Lib.hid (defineI_facts' s a)
  have f1' : Hid (∀ i n L, labelF s i = (L, n) → 0 < n → 3 ≤ n ∧ i + n ≤ s.size ∧ byteU s i = 91 ∧ byteU s (i + n - 1) = 93 ∧ L = s.extract (i + 1) (i + n - 1)) := fun i n L h hn => label_facts s i n L h hn
  generalize (labelI s a).1 = L1 at *
  generalize (labelI s a).2 = L2 at *
  generalize (destI s a).1 = D1 at *
  generalize (destI s a).2 = D2 at *
  generalize (titleI s a).1 = T1 at *
  generalize (titleI s a).2 = T2 at *
  generalize defineI s a = D at *
  obtain ⟨L, K, T, F, U, N⟩ := D
  simp only [defV] at q4
  replace f4 := Lib.hid (show N = 0 ∨ ∃ i : Nat, a = i ∧ 0 < N ∧ F = i ∧ i < U ∧ U ≤ i + N ∧ i + N ≤ s.size ∧ foldF L = L ∧ ∃ L', L = foldF L' ∧ L'.size ≤ s.size from f4.out)
  go_enter Tryd.func3, Tryd.ntmps3
  go_wp2_with fail
  refine (alive08_calls _ HE.out).mono ?_
  rintro e w1 ⟨rfl, b1⟩
  go_wp2_with fail
  refine (q1 _).mono ?_
  rintro e w2 ⟨rfl, b2⟩
  replace b1 := b1.trans (b2.mono b1.size)
  clear b2 q1
  have HB := Lib.hid b1
  clear b1
  go_upto_region 6 with (fail)
  go_cut [68] (fun v wx => v = .bool false ∧ w2 = wx)
  case first =>
    clear f2 f3 f4 q2 q3 q4
    rcases f1.out with h0 | ⟨i, rfl, hi, hl, hn⟩
    · subst h0
      clear f1 f1'
      go_wp2_with fail
      go_meet
      exact ⟨rfl, rfl⟩
    · obtain ⟨h3, hin, hb1, hb2, hL⟩ := f1'.out i L2 L1 hl hn
      subst hL
      have j0 : (0 : Int) ≤ (i : Int) := by omega
      have j1 : (i : Int) < (s.size : Int) := by omega
      have u1 : ((s[i].toNat : Int) != 91) = false := by rw [show ((s[i].toNat : Int) != 91) = !(s[i] == 91) from nb' s[i] 91, ← byteU_in s i hi, hb1]; rfl
      have hk : i + L2 - 1 < s.size := by omega
      have u2 : ((s[i + L2 - 1].toNat : Int) != 93) = false := by rw [show ((s[i + L2 - 1].toNat : Int) != 93) = !(s[i + L2 - 1] == 93) from nb' s[i + L2 - 1] 93, ← byteU_in s _ hk, hb2]; rfl
      have e1 : IntKind.i64.wrap ((s.size : Int) - (i : Int)) = (s.size : Int) - (i : Int) := IntWalk.i64_in _ (by omega)
      have e2 : IntKind.i64.wrap ((i : Int) + (L2 : Int)) = (i : Int) + (L2 : Int) := IntWalk.i64_in _ (by omega)
      have e3 : IntKind.i64.wrap ((i : Int) + (L2 : Int) - 1) = ((i + L2 - 1 : Nat) : Int) := by rw [IntWalk.i64_in _ (by omega)]; omega
      have e4 : IntKind.i64.wrap ((i : Int) + 1) = ((i + 1 : Nat) : Int) := by rw [IntWalk.i64_in _ (by omega)]; omega
      have d2 : decide ((0 : Int) < (L2 : Int)) = true := decide_eq_true (by omega)
      have d3 : decide ((i : Int) < 0) = false := decide_eq_false (by omega)
      have d4 : decide ((L2 : Int) < 3) = false := decide_eq_false (by omega)
      have d5 : decide ((s.size : Int) - (i : Int) < (L2 : Int)) = false := decide_eq_false (by omega)
      have j2 : (0 : Int) ≤ ((i + L2 - 1 : Nat) : Int) := by omega
      have j3 : ((i + L2 - 1 : Nat) : Int) < (s.size : Int) := by omega
      have j4 : (0 : Int) ≤ ((i + 1 : Nat) : Int) := by omega
      have j5 : ((i + 1 : Nat) : Int) ≤ ((i + L2 - 1 : Nat) : Int) := by omega
      have j6 : ((i + L2 - 1 : Nat) : Int) ≤ (s.size : Int) := by omega
      clear f1 f1' hl hb1 hb2
      generalize hkk : i + L2 - 1 = k at *
      clear hkk
      have st := str_same (s.extract (i + 1) k)
      go_wp2_with fail
      go_meet
      exact ⟨by first | rfl | simp, rfl⟩
  case rest =>
    obtain ⟨rfl, rfl⟩ := hcut
    clear f1 f1'
    go_wp2_with fail
    refine (q2 _ (HE.out.below HB.out)).mono ?_
    rintro e w3 ⟨rfl, b3⟩
    replace HB := Lib.hid (HB.out.trans (b3.mono HB.out.size))
    clear b3 q2
    go_upto_region 9 with (fail)
    go_cut [88] (fun v wx => v = .bool false ∧ w3 = wx)
    case first =>
      clear f3 f4 q3 q4
      rcases f2.out with h0 | ⟨i, rfl, hn, hin⟩
      · subst h0
        clear f2
        go_wp2_with fail
        go_meet
        exact ⟨rfl, rfl⟩
      · have e1 : IntKind.i64.wrap ((s.size : Int) - (i : Int)) = (s.size : Int) - (i : Int) := IntWalk.i64_in _ (by omega)
        have d2 : decide ((0 : Int) < (D2 : Int)) = true := decide_eq_true (by omega)
        have d3 : decide ((i : Int) < 0) = false := decide_eq_false (by omega)
        have d5 : decide ((s.size : Int) - (i : Int) < (D2 : Int)) = false := decide_eq_false (by omega)
        clear f2
        go_wp2_with fail
        go_meet
        exact ⟨by first | rfl | simp, rfl⟩
    case rest =>
      obtain ⟨rfl, rfl⟩ := hcut
      clear f2
      go_wp2_with fail
      refine (q3 _ (HE.out.below HB.out)).mono ?_
      rintro e w4 ⟨rfl, b4⟩
      replace HB := Lib.hid (HB.out.trans (b4.mono HB.out.size))
      clear b4 q3
      go_upto_region 12 with (fail)
      go_cut [125] (fun v wx => v = .bool false ∧ Below w.heap.size w wx)
      case first =>
        clear f4 q4
        rcases f3.out with h0 | ⟨i, rfl, hn, hin, hT⟩
        · subst h0
          clear f3
          go_wp2_with fail
          go_meet
          exact ⟨rfl, HB.out⟩
        · have q5 := fun w hE => Plain_calls' (s.extract (i + 1) (i + T2 - 1)) w hE (by rw [ByteArray.size_extract]; omega)
          rw [← hT] at q5
          have hk : i + T2 - 1 < s.size := by omega
          have e1 : IntKind.i64.wrap ((s.size : Int) - (i : Int)) = (s.size : Int) - (i : Int) := IntWalk.i64_in _ (by omega)
          have e2 : IntKind.i64.wrap ((i : Int) + (T2 : Int)) = (i : Int) + (T2 : Int) := IntWalk.i64_in _ (by omega)
          have e3 : IntKind.i64.wrap ((i : Int) + (T2 : Int) - 1) = ((i + T2 - 1 : Nat) : Int) := by rw [IntWalk.i64_in _ (by omega)]; omega
          have e4 : IntKind.i64.wrap ((i : Int) + 1) = ((i + 1 : Nat) : Int) := by rw [IntWalk.i64_in _ (by omega)]; omega
          have d2 : decide ((0 : Int) < (T2 : Int)) = true := decide_eq_true (by omega)
          have d3 : decide ((i : Int) < 0) = false := decide_eq_false (by omega)
          have d4 : decide ((T2 : Int) < 2) = false := decide_eq_false (by omega)
          have d5 : decide ((s.size : Int) - (i : Int) < (T2 : Int)) = false := decide_eq_false (by omega)
          have j4 : (0 : Int) ≤ ((i + 1 : Nat) : Int) := by omega
          have j5 : ((i + 1 : Nat) : Int) ≤ ((i + T2 - 1 : Nat) : Int) := by omega
          have j6 : ((i + T2 - 1 : Nat) : Int) ≤ (s.size : Int) := by omega
          clear f3 hT
          generalize hkk : i + T2 - 1 = k at *
          clear hkk
          have st := str_same T1
          go_wp2_with fail
          refine (q5 _ (HE.out.below HB.out)).mono ?_
          rintro e w5 ⟨rfl, b5⟩
          replace HB := Lib.hid (HB.out.trans (b5.mono HB.out.size))
          clear b5 q5
          go_wp2_with fail
          go_meet
          exact ⟨by first | rfl | simp, HB.out⟩
      case rest =>
        obtain ⟨rfl, HB'⟩ := hcut
        clear HB f3
        have HB := Lib.hid HB'
        clear HB'
        go_wp2_with fail
        refine (q4 _ (HE.out.below HB.out)).mono ?_
        rintro e w5 ⟨rfl, b5⟩
        replace HB := Lib.hid (HB.out.trans (b5.mono HB.out.size))
        clear b5 q4
        go_upto_region 15 with (fail)
        have C1 := heap_alloc_new w5 (.cells #[.string L, .string K, .string T, .int .i64 (F : Nat), .int .i64 (U : Nat)] 27)
        replace HB := Lib.hid (HB.out.trans (((Below.refl w5.heap.size w5).alloc (Nat.le_refl _) (.cells #[.string L, .string K, .string T, .int .i64 (F : Nat), .int .i64 (U : Nat)] 27)).mono HB.out.size))
        generalize w5.alloc (.cells #[.string L, .string K, .string T, .int .i64 (F : Nat), .int .i64 (U : Nat)] 27) = W5 at *
        generalize w5.heap.size = x5 at *
        have hx5 := blk_lt C1
        have k0 := blk_cell C1 0
        have k3 := blk_cell C1 3
        have k4 := blk_cell C1 4
        simp at k0 k3 k4
        clear C1
        rcases f4.out with h0 | ⟨i, rfl, hn, hF, h1, h2, h3, h4, L', h5, h6⟩
        · subst h0
          clear f4
          have mixed : Tryd.prog.follows .mixedOrders = true := by kernel_rfl
          go_region_o
          go_wp2_with fail
          go_ret
          exact ⟨rfl, HB.out.trans ((bel_drewN (Below.refl _ _) 1).mono HB.out.size)⟩
        · have hsz : L.size ≤ 1000000 := by rw [h5]; have := foldF_len L'; omega
          have qf := fun w hT => Fold_calls L w hT hsz
          rw [h4] at qf
          have HT := Lib.hid ((HE.out.below HB.out).1)
          have e1 : IntKind.i64.wrap ((s.size : Int) - (i : Int)) = (s.size : Int) - (i : Int) := IntWalk.i64_in _ (by omega)
          have e2 : IntKind.i64.wrap ((U : Int) - (i : Int)) = (U : Int) - (i : Int) := IntWalk.i64_in _ (by omega)
          have d1 : ((N : Int) == 0) = false := beq_eq_false_iff_ne.2 (by omega)
          have d2 : decide ((0 : Int) ≤ (i : Int)) = true := decide_eq_true (by omega)
          have d3 : decide ((N : Int) ≤ (s.size : Int) - (i : Int)) = true := decide_eq_true (by omega)
          have d4 : ((F : Int) == (i : Int)) = true := by rw [hF]; simp
          have d5 : decide ((i : Int) < (U : Int)) = true := decide_eq_true (by omega)
          have d6 : decide ((U : Int) - (i : Int) ≤ (N : Int)) = true := decide_eq_true (by omega)
          have st := str_same L
          clear f4 h4 h5 h6 hF h1 h2 h3 hn
          generalize ((U : Nat) : Int) = uu at *
          generalize ((F : Nat) : Int) = ff at *
          generalize ((N : Nat) : Int) = nn at *
          generalize ((i : Nat) : Int) = aa at *
          go_region_held3 (fun wx => wx.cell? ⟨x5, 0, none⟩ = some (.string L) ∧ wx.cell? ⟨x5, 3, none⟩ = some (.int .i64 ff) ∧ wx.cell? ⟨x5, 4, none⟩ = some (.int .i64 uu) ∧ Below W5.heap.size W5 wx)
            (first | exact ⟨k0, k3, k4, (Below.refl _ _).drew⟩ | exact keep3 hx5 (by assumption) (by assumption))
            (first | (go_at_call 11; refine (qf _ (HT.out.below (And.right (And.right (And.right (by assumption)))))).mono ?_; rintro e w6 ⟨rfl, hb7⟩))
          have hS : w6.cell? ⟨x5, 0, none⟩ = some (.string L) ∧ w6.cell? ⟨x5, 3, none⟩ = some (.int .i64 ff) ∧ w6.cell? ⟨x5, 4, none⟩ = some (.int .i64 uu) ∧ Below W5.heap.size W5 w6 := by assumption
          obtain ⟨l0, l3, l4, hw6⟩ := hS
          go_wp2_with fail
          go_ret
          have hB6 : Below w.heap.size w w6 := HB.out.trans (hw6.mono HB.out.size)
          refine ⟨by first | rfl | simp, ?_⟩
          first | exact hB6 | exact below_drewN hB6 _ | (go_grown; exact below_drewN hB6 _)

set_option maxHeartbeats 1000000 in
set_option maxRecDepth 100000 in
theorem LinkWithin_walk (s : ByteArray) (a : Int) (w : World) (hE : EnvE w) :
    Calls Tryd.prog 3 #[.string s, .int .i64 a] w fun e w' => e = .returned (.bool true) ∧ Below w.heap.size w w' := by
  by_cases hs : s.size ≤ 20000
  · exact LinkWithin_in s a w hE hs
  · have d1 : decide ((20000 : Int) < (s.size : Int)) = true := decide_eq_true (by omega)
    go_enter Tryd.func3, Tryd.ntmps3
    go_wp2_with fail
    refine (alive08_calls _ hE).mono ?_
    rintro e w1 ⟨rfl, h1⟩
    go_wp2_with fail
    go_ret
    exact ⟨rfl, h1⟩

end Go.Proofs.YtcpbljhogenjoaaDoor
