/- Walk: the reference Scan. -/
import Derived.Test.YtkpjcbpfpfjjkaaDoorRefBefore
import Derived.Test.YtkpjcbpfpfjjkaaDoorRef
import Derived.Test.YtkpjcbpfpfjjkaaDoorScanDef
import Derived.Deep.QuietTactic
import Derived.Deep.DeepCutAuto
import Derived.Deep.CutBlock
import Derived.Deep.LoopGhost
import Derived.BigQuiet
import Derived.Handy
import Derived.WalkSmall
namespace Go.Proofs.YtkpjcbpfpfjjkaaDoor
set_option linter.unusedVariables false
set_option linter.unusedSimpArgs false
open Go Go.RowKit Go.Lib

set_option maxRecDepth 100000 in
set_option maxHeartbeats 4000000 in
theorem refScan_row (s : ByteArray) (n : Nat) (w : World) (hs : s.size ≤ 1000000) (hn : n < s.size) (m : Int) (hm0 : 0 ≤ m) (hm1 : m < 128) (hc : ((s[n].toNat : Int) != 42) = false ∨ ((s[n].toNat : Int) != 42) = true ∧ ((s[n].toNat : Int) != 95) = false) (hmm : Hid ((s[n].toNat : Int) = m)) :
    Calls Tryd.prog 9 #[.string s, .int .i64 n] w fun e w' => e = .returned (.tuple #[.agg #[.int .u8 m, .int .i64 (rowOf s n m), .bool (flags (m == 95) (aheadOf s n) (behindOf s ((n : Int) + (rowOf s n m : Nat)))).1, .bool (flags (m == 95) (aheadOf s n) (behindOf s ((n : Int) + (rowOf s n m : Nat)))).2], .bool true]) ∧ Below w.heap.size w w' := by
  have b0 : (0 : Int) ≤ n := by omega
  have b1 : (n : Int) ≤ s.size := by omega
  have c0 : decide ((n : Int) < 0) = false := by simp
  have c1 : decide (s.size ≤ n) = false := by simp; omega
  go_enter Tryd.func9, Tryd.ntmps9
  go_upto_region 1 with (fail)
  go_cut [30] (fun v wx => v = .bool false ∧ wx = w.alloc (.cells #[.int .u8 0, .int .i64 0, .bool false, .bool false] 24))
  case first =>
    rcases hc with hc | ⟨hc, hc'⟩
    all_goals
      go_wp2_with fail
      go_meet
      exact ⟨rfl, rfl⟩
  case rest =>
    obtain ⟨rfl, rfl⟩ := hcut
    clear hc
    go_upto_block 0 with (fail)
    rw [hmm.out]
    have q0 := Lib.hid ((Go.RowKit.Below.heap_alloc (w.alloc (.cells #[.int .u8 0, .int .i64 0, .bool false, .bool false] 24)) (.cells #[.int .u8 m, .int .i64 0, .bool false, .bool false] 24) w.heap.size (by simp)).trans (heap_alloc_new w _))
    have q1 := Lib.hid ((congrArg (fun i => ((w.alloc (.cells #[.int .u8 0, .int .i64 0, .bool false, .bool false] 24)).alloc (.cells #[.int .u8 m, .int .i64 0, .bool false, .bool false] 24)).heap[i]?) (World.size_alloc (w := w) (o := (.cells #[.int .u8 0, .int .i64 0, .bool false, .bool false] 24))).symm).trans (heap_alloc_new (w.alloc (.cells #[.int .u8 0, .int .i64 0, .bool false, .bool false] 24)) (.cells #[.int .u8 m, .int .i64 0, .bool false, .bool false] 24)))
    have qb := ((Below.refl w.heap.size w).alloc (Nat.le_refl _) (.cells #[.int .u8 0, .int .i64 0, .bool false, .bool false] 24)).alloc (by simp) (.cells #[.int .u8 m, .int .i64 0, .bool false, .bool false] 24)
    generalize ((w.alloc (.cells #[.int .u8 0, .int .i64 0, .bool false, .bool false] 24)).alloc (.cells #[.int .u8 m, .int .i64 0, .bool false, .bool false] 24)) = W at *
    go_cut [] (fun wx => ∃ k : Nat, n + k ≤ s.size ∧ Aside (rowOf s n m = k) ∧ Aside (wx.heap[w.heap.size]? = some (.cells #[.int .u8 0, .int .i64 0, .bool false, .bool false] 24 (0, 0))) ∧ Aside (wx.heap[w.heap.size + 1]? = some (.cells #[.int .u8 m, .int .i64 k, .bool false, .bool false] 24 (0, 0))) ∧ Below w.heap.size w wx)
    case first =>
      go_wp2_with fail
      go_loopg [] (s.size - n) (fun gk wr => ∃ k : Nat, Aside (gk = s.size - n - k) ∧ n + k ≤ s.size ∧ Aside (rowOf s n m = k + leadN s (Utf8.encode m) (n + k)) ∧ Aside (wr.heap[w.heap.size]? = some (.cells #[.int .u8 0, .int .i64 0, .bool false, .bool false] 24 (0, 0))) ∧ Aside (wr.heap[w.heap.size + 1]? = some (.cells #[.int .u8 m, .int .i64 k, .bool false, .bool false] 24 (0, 0))) ∧ Below w.heap.size w wr)
      case atStart => exact ⟨0, (by show _ = _; omega), by omega, (by show _ = _; rw [rowOf_eq]; simp), q0.out, q1.out, qb⟩
      case round =>
        obtain ⟨k, hgk, hk, hrow, h0, h1, hB⟩ := hrel
        clear q0 q1 qb
        have k0 := blk_cell h1.out 0
        have k1 := blk_cell h1.out 1
        have f1 := blk_free h1.out 1
        simp at k0 k1
        have e64 := IntWalk.i64_in ((n : Int) + (k : Int)) (by omega)
        have n0 : (0 : Int) ≤ (n : Int) + (k : Int) := by omega
        have en : ((n : Int) + (k : Int)).toNat = n + k := by omega
        have hz : w.heap.size + 1 < wr.heap.size := blk_lt h1.out
        by_cases hlt : n + k < s.size
        · have i1 : (n : Int) + (k : Int) < (s.size : Int) := by omega
          have d1 : decide ((n : Int) + (k : Int) < (s.size : Int)) = true := by simpa using i1
          have hl := Lib.hid (leadN_enc s m hm0 hm1 (n + k) hlt)
          cases hq : ((s[n + k].toNat : Int) == m) with
          | true =>
            have hr : Hid (rowOf s n m = (k + 1) + leadN s (Utf8.encode m) (n + (k + 1))) := by
              show _ = _
              rw [hrow.out, hl.out, if_pos hq, show n + k + 1 = n + (k + 1) from by omega]; omega
            go_wp2_with fail
            go_quiet (fail)
            go_wp2_with fail
            go_roundg (s.size - n - (k + 1))
            case measure => rw [hgk.out]; omega
            case rel => exact ⟨k + 1, rfl, by omega, hr, blk_far (w := wr.drewN _) h0.out _ _ (by omega), blk_set (w := wr.drewN _) h1.out 1 _, (below_drewN hB _).setCell (by simp) _⟩
          | false =>
            have hr : Hid (rowOf s n m = k) := by show _ = _; rw [hrow.out, hl.out, if_neg (by rw [hq]; simp)]; rfl
            go_wp2_with fail
            go_quiet (fail)
            go_wp2_with fail
            go_meet
            exact ⟨k, by omega, hr, h0.out, h1.out, below_drewN hB _⟩
        · have hr : Hid (rowOf s n m = k) := by show _ = _; rw [hrow.out, leadN_end _ _ _ (by omega)]; rfl
          have d1 : decide ((n : Int) + (k : Int) < (s.size : Int)) = false := by simp; omega
          go_wp2_with fail
          go_quiet (fail)
          go_wp2_with fail
          go_meet
          exact ⟨k, by omega, hr, h0.out, h1.out, below_drewN hB _⟩
    case rest =>
      obtain ⟨k, hk, hrow, h0, h1, hB⟩ := hcut
      clear q0 q1 qb
      have hS : St w 24 m k false false wc := ⟨h0.out, h1.out, hB⟩
      clear h0 h1 hB
      go_upto_if 59 with (fail)
      go_cut [7] (fun v wx => ∃ ra : Int, v = .int .i64 ra ∧ Aside (aheadOf s n = sideC ra) ∧ St w 24 m k false false wx)
      case first =>
        by_cases hp : 0 < n
        · have hb := Lib.hid (ahead_yes s n hp)
          go_wp2_with fail
          refine (refBefore_calls s _ _ hs).mono ?_
          rintro e w2 ⟨rfl, hb2⟩
          go_wp2_with fail
          go_meet
          exact ⟨_, rfl, hb.out, hS.next hb2⟩
        · have hb := Lib.hid (ahead_no s n hp)
          go_wp2_with fail
          go_meet
          exact ⟨_, rfl, hb.out, hS⟩
      case rest =>
        obtain ⟨ra, rfl, hA, hS⟩ := hcut
        have hz := hS.lt
        obtain ⟨k0, k1, -, -⟩ := hS.cells
        go_upto_if 69 with (fail)
        go_cut [8] (fun v wx => ∃ rb : Int, v = .int .i64 rb ∧ Aside (behindOf s ((n : Int) + (k : Int)) = sideC rb) ∧ St w 24 m k false false wx)
        case first =>
          by_cases hp : n + k < s.size
          · have hb := Lib.hid (behind_yes s (n + k) hp)
            have hp' : (n : Int) + (k : Int) < s.size := by omega
            go_wp2_with fail
            refine (refRune_calls s _ _ hs).mono ?_
            rintro e w2 ⟨rfl, hb2⟩
            go_wp2_with fail
            go_meet
            exact ⟨_, rfl, hb.out, hS.next hb2⟩
          · have hb := Lib.hid (behind_no s (n + k) (by omega))
            have hp' : ¬ ((n : Int) + (k : Int) < s.size) := by omega
            go_wp2_with fail
            go_meet
            exact ⟨_, rfl, hb.out, hS⟩
        case rest =>
          rename_i wa
          obtain ⟨rb, rfl, hBe, hS⟩ := hcut
          clear k0 k1 hz
          go_upto_region 12 with (fail)
          have hdef : Hid (leansB (sideC rb) (sideC ra) = (!blankB rb && (!markB rb || blankB ra || markB ra))) := rfl
          go_cut [9] (fun v wx => v = .bool (leansB (sideC rb) (sideC ra)) ∧ St w 24 m k false false wx)
          case first =>
            go_wp2_with fail
            refine (refBlank_calls _ _).mono ?_
            rintro e v1 ⟨rfl, h1⟩
            cases e1 : blankB rb with
            | true =>
              go_wp2_with fail
              go_meet
              exact ⟨by rw [hdef.out, e1]; rfl, hS.next h1⟩
            | false =>
              go_wp2_with fail
              refine (refMark_calls _ _).mono ?_
              rintro e v2 ⟨rfl, h2⟩
              cases e2 : markB rb with
              | false =>
                go_wp2_with fail
                go_meet
                exact ⟨by rw [hdef.out, e1, e2]; rfl, (hS.next h1).next h2⟩
              | true =>
                go_wp2_with fail
                refine (refBlank_calls _ _).mono ?_
                rintro e v3 ⟨rfl, h3⟩
                cases e3 : blankB ra with
                | true =>
                  go_wp2_with fail
                  go_meet
                  exact ⟨by rw [hdef.out, e1, e2, e3]; rfl, ((hS.next h1).next h2).next h3⟩
                | false =>
                  go_wp2_with fail
                  refine (refMark_calls _ _).mono ?_
                  rintro e v4 ⟨rfl, h4⟩
                  go_wp2_with fail
                  go_meet
                  exact ⟨by rw [hdef.out, e1, e2, e3]; rfl, (((hS.next h1).next h2).next h3).next h4⟩
          case rest =>
            obtain ⟨rfl, hS⟩ := hcut
            clear hdef
            go_upto_region 13 with (fail)
            have hdef : Hid (leansB (sideC ra) (sideC rb) = (!blankB ra && (!markB ra || blankB rb || markB rb))) := rfl
            go_cut [10] (fun v wx => v = .bool (leansB (sideC ra) (sideC rb)) ∧ St w 24 m k false false wx)
            case first =>
              go_wp2_with fail
              refine (refBlank_calls _ _).mono ?_
              rintro e v1 ⟨rfl, h1⟩
              cases e1 : blankB ra with
              | true =>
                go_wp2_with fail
                go_meet
                exact ⟨by rw [hdef.out, e1]; rfl, hS.next h1⟩
              | false =>
                go_wp2_with fail
                refine (refMark_calls _ _).mono ?_
                rintro e v2 ⟨rfl, h2⟩
                cases e2 : markB ra with
                | false =>
                  go_wp2_with fail
                  go_meet
                  exact ⟨by rw [hdef.out, e1, e2]; rfl, (hS.next h1).next h2⟩
                | true =>
                  go_wp2_with fail
                  refine (refBlank_calls _ _).mono ?_
                  rintro e v3 ⟨rfl, h3⟩
                  cases e3 : blankB rb with
                  | true =>
                    go_wp2_with fail
                    go_meet
                    exact ⟨by rw [hdef.out, e1, e2, e3]; rfl, ((hS.next h1).next h2).next h3⟩
                  | false =>
                    go_wp2_with fail
                    refine (refMark_calls _ _).mono ?_
                    rintro e v4 ⟨rfl, h4⟩
                    go_wp2_with fail
                    go_meet
                    exact ⟨by rw [hdef.out, e1, e2, e3]; rfl, (((hS.next h1).next h2).next h3).next h4⟩
            case rest =>
              obtain ⟨rfl, hS⟩ := hcut
              clear hdef
              have hS1 := hS
              have hfl0 := Lib.hid (show flags false (sideC ra) (sideC rb) = (leansB (sideC rb) (sideC ra), leansB (sideC ra) (sideC rb)) from rfl)
              have hfl1 := Lib.hid (show flags true (sideC ra) (sideC rb) = (leansB (sideC rb) (sideC ra) && (!leansB (sideC ra) (sideC rb) || markB ra), leansB (sideC ra) (sideC rb) && (!leansB (sideC rb) (sideC ra) || markB rb)) from rfl)
              generalize leansB (sideC rb) (sideC ra) = L at *
              generalize leansB (sideC ra) (sideC rb) = R at *
              obtain ⟨k0, k1, k2, k3⟩ := hS.cells
              have g2 := hS.free 2
              have g3 := hS.free 3
              have hz := hS.lt
              go_upto_if 117 with (fail)
              have hS2 := (hS.set2 L).set3 R
              generalize ((wc.setCell ⟨w.heap.size + 1, 2, none⟩ (.bool L)).setCell ⟨w.heap.size + 1, 3, none⟩ (.bool R)) = wq at *
              clear k0 k1 k2 k3 g2 g3 hz hS hS1
              go_cut [] (fun wx => St w 24 m k (flags (m == 95) (sideC ra) (sideC rb)).1 (flags (m == 95) (sideC ra) (sideC rb)).2 wx)
              case first =>
                obtain ⟨k0, k1, k2, k3⟩ := hS2.cells
                have g2 := hS2.free 2
                have g3 := hS2.free 3
                have hz := hS2.lt
                cases hm : (m == 95) with
                | false =>
                  go_wp2_with fail
                  go_meet
                  have := hfl0.out
                  rw [hm, this]
                  exact hS2
                | true =>
                  have H1 := hfl1
                  clear hfl0 hfl1
                  cases L with
                  | false =>
                    cases R
                    all_goals
                      go_wp2_with fail
                      go_meet
                      rw [hm, H1.out]
                      exact (hS2.set2 _).set3 _
                  | true =>
                    cases R with
                    | false =>
                      go_wp2_with fail
                      go_meet
                      rw [hm, H1.out]
                      exact (hS2.set2 _).set3 _
                    | true =>
                      go_wp2_with fail
                      refine (refMark_calls _ _).mono ?_
                      rintro e v1 ⟨rfl, h1⟩
                      have hT1 := hS2.next h1
                      obtain ⟨-, -, k2, k3⟩ := hT1.cells
                      have g2 := hT1.free 2
                      have g3 := hT1.free 3
                      have hz := hT1.lt
                      go_wp2_with fail
                      have hT2 := hT1.set2 (markB ra)
                      refine (refMark_calls _ _).mono ?_
                      rintro e v2 ⟨rfl, h2⟩
                      have hT3 := hT2.next h2
                      clear hT1 hT2 h1 h2 hS2
                      obtain ⟨-, -, k2, k3⟩ := hT3.cells
                      have g2 := hT3.free 2
                      have g3 := hT3.free 3
                      have hz := hT3.lt
                      go_wp2_with fail
                      go_meet
                      rw [hm, H1.out]
                      exact hT3.set3 _
              case rest =>
                clear hS2 hfl0 hfl1
                have hfin : Hid (flags (m == 95) (aheadOf s n) (behindOf s ((n : Int) + (rowOf s n m : Nat))) = flags (m == 95) (sideC ra) (sideC rb)) := by show _ = _; rw [hrow.out, hA.out, hBe.out]
                generalize flags (m == 95) (sideC ra) (sideC rb) = F at *
                obtain ⟨k0, k1, k2, k3⟩ := St.cells hcut
                obtain ⟨y0, y1, y2, y3⟩ := St.cells0 hcut
                have z0 := St.free0 hcut 0
                have z1 := St.free0 hcut 1
                have z2 := St.free0 hcut 2
                have z3 := St.free0 hcut 3
                have hz := St.lt hcut
                have hB6 := hcut.2.2
                go_wp2_with fail
                refine bodyPost_ret (v := .tuple #[.agg #[.int .u8 m, .int .i64 k, .bool F.1, .bool F.2], .bool true]) (by simp [results, Tryd.results9, go_sem, y0, y1, y2, y3]) rfl ⟨?_, ?_⟩
                · rw [hfin.out, hrow.out]
                · go_grown

end Go.Proofs.YtkpjcbpfpfjjkaaDoor
