/- Walk: the law RunsWhole. -/
import Derived.Test.YtkpjcbpfpfjjkaaDoorAlive11
import Derived.Test.YtkpjcbpfpfjjkaaDoorRunsPlain
import Derived.BigQuiet
import Derived.Deep.QuietTactic
import Derived.Deep.LoopGhost
import Derived.Deep.DeepCutAuto
import Derived.Handy
namespace Go.Proofs.YtkpjcbpfpfjjkaaDoor
open Go Go.RowKit Go.Lib

theorem RunsWhole_no (s : ByteArray) (a : Int) (w : World) (hT : Tabs w) (hs : s.size ≤ 20000) (h : ¬ (0 ≤ a ∧ a < s.size ∧ (byteI s a = 42 ∨ byteI s a = 95))) :
    Calls Tryd.prog 6 #[.string s, .int .i64 a] w fun e w' => e = .returned (.bool true) ∧ Below w.heap.size w w' := by
  have hr := Lib.hid (scanR_no s a h)
  clear h
  go_enter Tryd.func6, Tryd.ntmps6
  go_wp2_with fail
  refine (alive11_calls _ hT).mono ?_
  rintro e w1 ⟨rfl, h1⟩
  go_wp2_with fail
  refine (Scan_calls s a _ (by omega) (hT.below h1)).mono ?_
  rintro e w2 ⟨rfl, h2⟩
  rw [hr.out]
  have hB : Below w.heap.size w w2 := h1.trans (h2.mono h1.size)
  have zB := hB.size
  clear h1 h2 hT
  go_wp2_with fail
  go_ret
  exact ⟨rfl, by go_grown⟩

set_option maxHeartbeats 1000000 in
set_option maxRecDepth 100000 in
theorem RunsWhole_yes (s : ByteArray) (n : Nat) (w : World) (hT : Tabs w) (hs : s.size ≤ 20000) (hn : n < s.size) (m : Int) (hm : (s[n].toNat : Int) = m) (h2 : m = 42 ∨ m = 95) :
    Calls Tryd.prog 6 #[.string s, .int .i64 n] w fun e w' => e = .returned (.bool true) ∧ Below w.heap.size w w' := by
  have HT := Lib.hid hT
  have hr := Lib.hid (scanR_yes s n hn m hm h2)
  have hcut := Lib.hid (row_cut s n hn m hm h2)
  obtain ⟨f1, f2, f3, f4⟩ := row_facts s n hn m hm (by omega) (by omega)
  have F3 := Lib.hid f3
  have F4 := Lib.hid f4
  have hm0 : 0 ≤ m := by omega
  have hm1 : m < 128 := by omega
  clear f3 f4 hT hm h2
  generalize hk : rowOf s n m = k at *
  generalize (flags (m == 95) (aheadOf s n) (behindOf s ((n : Int) + (k : Nat)))).1 = o1 at *
  generalize (flags (m == 95) (aheadOf s n) (behindOf s ((n : Int) + (k : Nat)))).2 = o2 at *
  clear hk
  go_enter Tryd.func6, Tryd.ntmps6
  go_wp2_with fail
  refine (alive11_calls _ HT.out).mono ?_
  rintro e w1 ⟨rfl, h1⟩
  go_wp2_with fail
  refine (Scan_calls s n _ (by omega) (HT.out.below h1)).mono ?_
  rintro e w2 ⟨rfl, h2⟩
  have hB : Below w.heap.size w w2 := h1.trans (h2.mono h1.size)
  have zB := hB.size
  clear h1 h2
  rw [hr.out]
  go_upto_region 9 with (fail)
  have K0 := Lib.hid (heap_alloc_new w2 (.cells #[.int .u8 m, .int .i64 k, .bool o1, .bool o2] 24))
  have hB3 := hB.trans (((Below.refl w2.heap.size w2).alloc (Nat.le_refl _) (.cells #[.int .u8 m, .int .i64 k, .bool o1, .bool o2] 24)).mono zB)
  generalize (w2.alloc (.cells #[.int .u8 m, .int .i64 k, .bool o1, .bool o2] 24)) = W3 at *
  generalize w2.heap.size = b at *
  clear hB
  have ez := IntWalk.i64_in ((n : Int) + (k : Int)) (by omega)
  go_cut [54] (fun v wx => v = .bool false ∧ Aside (wx.heap[b]? = some (.cells #[.int .u8 m, .int .i64 k, .bool o1, .bool o2] 24 (0, 0))) ∧ Below w.heap.size w wx)
  case first =>
    have k0 := blk_cell K0.out 0
    have k1 := blk_cell K0.out 1
    simp at k0 k1
    have d1 : decide ((k : Int) < 1) = false := by simp; omega
    have d2 : decide ((s.size : Int) < (n : Int) + (k : Int)) = false := by simp; omega
    by_cases he : n + k < s.size
    · have d3 : decide ((n : Int) + (k : Int) < (s.size : Int)) = true := by simp; omega
      have i0 : (0 : Int) ≤ (n : Int) + (k : Int) := by omega
      have i1 : (n : Int) + (k : Int) < (s.size : Int) := by omega
      have en : ((n : Int) + (k : Int)).toNat = n + k := by omega
      have d4 : ((s[n + k].toNat : Int) == m) = false := by simpa using F4.out he
      go_quiet (fail)
      go_wp2_with fail
      go_meet
      exact ⟨rfl, K0.out, below_drewN hB3 _⟩
    · have d3 : decide ((n : Int) + (k : Int) < (s.size : Int)) = false := by simp; omega
      go_quiet (fail)
      go_wp2_with fail
      go_meet
      exact ⟨rfl, K0.out, below_drewN hB3 _⟩
  case rest =>
    obtain ⟨rfl, K, hW⟩ := hcut
    clear K0 hB3
    go_wp2_with fail
    go_loopg [8] k (fun gk i wr => ∃ j : Nat, Aside (gk + j = k) ∧ j ≤ k ∧ i = .int .i64 ((n : Int) + (j : Int)) ∧ Aside (wr.heap[b]? = some (.cells #[.int .u8 m, .int .i64 k, .bool o1, .bool o2] 24 (0, 0))) ∧ Below w.heap.size w wr)
    case atStart => exact ⟨0, (by show _ = _; omega), by omega, by simp, K, hW⟩
    case round =>
      obtain ⟨j, hgj, hj, rfl, KL, hL⟩ := hrel
      clear K hW
      have k0 := blk_cell KL.out 0
      have k1 := blk_cell KL.out 1
      simp at k0 k1
      by_cases hlt : j < k
      · have i0 : (0 : Int) ≤ (n : Int) + (j : Int) := by omega
        have i1 : (n : Int) + (j : Int) < (s.size : Int) := by omega
        have en : ((n : Int) + (j : Int)).toNat = n + j := by omega
        have d4 : ((s[n + j].toNat : Int) != m) = false := by simpa using F3.out (n + j) (by omega) (by omega) (by omega)
        go_wp2_with fail
        go_quiet (fail)
        go_wp2_with fail
        go_roundg (k - (j + 1))
        case measure => have := hgj.out; omega
        case rel => exact ⟨j + 1, (by show _ = _; omega), by omega, by go_num, KL, below_drewN hL _⟩
      · have hjk : Hid (j = k) := by show _ = _; omega
        obtain rfl : j = k := hjk.out
        clear hjk hlt hgj
        have hz := blk_lt KL.out
        have zL := hL.size
        have k2 := blk_cell KL.out 2
        have k3 := blk_cell KL.out 3
        simp at k2 k3
        have i0 : (0 : Int) ≤ (n : Int) + (j : Int) := by omega
        have en : ((n : Int) + (j : Int)).toNat = n + j := by omega
        by_cases he : n + j = s.size
        · have t1 : ((n : Int) + (j : Int) == (s.size : Int)) = true := by simp; omega
          clear he
          go_wp2_with fail
          go_ret
          exact ⟨rfl, by go_grown⟩
        · have t1 : ((n : Int) + (j : Int) == (s.size : Int)) = false := by simp; omega
          have he' : n + j < s.size := by omega
          have i1 : (n : Int) + (j : Int) < (s.size : Int) := by omega
          clear he
          by_cases hb : 128 ≤ (s[n + j].toNat : Int)
          · go_wp2_with fail
            go_ret
            exact ⟨rfl, by go_grown⟩
          · by_cases hp : 0 < n
            · have j0 : (0 : Int) ≤ (n : Int) - 1 := by omega
              have j1 : (n : Int) - 1 < (s.size : Int) := by omega
              by_cases hq : 128 ≤ (s[n - 1].toNat : Int)
              · go_wp2_with fail
                go_ret
                exact ⟨rfl, by go_grown⟩
              · have hc := Lib.hid (hcut.out (n - 1) (Or.inr (by omega)) he' (by rw [get!_of_lt he']; omega) (fun _ => by rw [get!_of_lt (by omega)]; omega))
                have em : max ((n : Int) - 1) 0 = (n : Int) - 1 := by omega
                have d5 : decide (128 ≤ (s[n + j].toNat : Int)) = false := by simpa using hb
                have d6 : decide (128 ≤ (s[n - 1].toNat : Int)) = false := by simpa using hq
                go_wp2_with fail
                refine (Scan_calls _ _ _ (by rw [size_sub _ _ _ (by omega)]; omega) (HT.out.below hL)).mono ?_
                rintro e w4 ⟨rfl, h4⟩
                rw [show ((n : Int) - ((n : Int) - 1)) = ((n - (n - 1) : Nat) : Int) from by omega, hc.out, hr.out]
                have K4 := below_block h4 hz KL.out
                have hW4 := hL.trans (h4.mono zL)
                have z4 := hW4.size
                have y0 := blk_cell K4 0
                have y1 := blk_cell K4 1
                have y2 := blk_cell K4 2
                have y3 := blk_cell K4 3
                have yz := blk_lt K4
                simp at y0 y1 y2 y3
                clear h4 k0 k1 k2 k3 KL hL K4
                go_wp2_with fail
                go_ret
                exact ⟨rfl, by go_grown⟩
            · have hc := Lib.hid (hcut.out 0 (Or.inl ⟨by omega, rfl⟩) he' (by rw [get!_of_lt he']; omega) (fun h => absurd h hp))
              have em : max ((n : Int) - 1) 0 = 0 := by omega
              have d5 : decide (128 ≤ (s[n + j].toNat : Int)) = false := by simpa using hb
              have p0 : decide (0 < n) = false := by simpa using hp
              go_wp2_with fail
              refine (Scan_calls _ _ _ (by rw [size_sub _ _ _ (by omega)]; omega) (HT.out.below hL)).mono ?_
              rintro e w4 ⟨rfl, h4⟩
              have hc' : scanR (s.extract 0 (n + j + 1)) (n : Int) = scanR s n := hc.out
              rw [hc', hr.out]
              clear hc'
              have K4 := below_block h4 hz KL.out
              have hW4 := hL.trans (h4.mono zL)
              have z4 := hW4.size
              have y0 := blk_cell K4 0
              have y1 := blk_cell K4 1
              have y2 := blk_cell K4 2
              have y3 := blk_cell K4 3
              have yz := blk_lt K4
              simp at y0 y1 y2 y3
              clear h4 k0 k1 k2 k3 KL hL K4
              go_wp2_with fail
              go_ret
              exact ⟨rfl, by go_grown⟩

theorem RunsWhole_walk (s : ByteArray) (a : Int) (w : World) (hT : Tabs w) :
    Calls Tryd.prog 6 #[.string s, .int .i64 a] w fun e w' => e = .returned (.bool true) ∧ Below w.heap.size w w' := by
  by_cases hs : s.size ≤ 20000
  · by_cases h : 0 ≤ a ∧ a < s.size ∧ (byteI s a = 42 ∨ byteI s a = 95)
    · obtain ⟨n, rfl⟩ := Int.eq_ofNat_of_zero_le h.1
      have hn : n < s.size := by omega
      have hb : byteI s n = (s[n].toNat : Int) := by unfold byteI; rw [Int.toNat_natCast, get!_of_lt hn]
      exact RunsWhole_yes s n w hT hs hn _ hb.symm h.2.2
    · exact RunsWhole_no s a w hT hs h
  · go_enter Tryd.func6, Tryd.ntmps6
    go_wp2_with fail
    refine (alive11_calls _ hT).mono ?_
    rintro e w1 ⟨rfl, h1⟩
    go_wp2_with fail
    go_ret
    exact ⟨rfl, h1⟩

end Go.Proofs.YtkpjcbpfpfjjkaaDoor
