/- Walk: the law RunsTurned. -/
import Derived.Test.YtkpjcbpfpfjjkaaDoorAlive11
import Derived.Test.YtkpjcbpfpfjjkaaDoorTurnedPlain
import Derived.Test.YtkpjcbpfpfjjkaaDoorBytes
import Derived.BigQuiet
import Derived.Deep.QuietTactic
import Derived.Deep.LoopGhost
import Derived.Deep.DeepCutAuto
namespace Go.Proofs.YtkpjcbpfpfjjkaaDoor
set_option linter.unusedVariables false
set_option linter.unusedSimpArgs false
open Go Go.RowKit Go.Lib

set_option maxRecDepth 100000 in
set_option maxHeartbeats 1000000 in
theorem RunsTurned_in (s : ByteArray) (n : Nat) (w : World) (hT : Tabs w) (hs : s.size ≤ 20000) (hn : n < s.size) (hd : n = 0 ∨ 0 < n ∧ (s.get! (n - 1)).toNat ≠ (s.get! n).toNat) :
    Calls Tryd.prog 5 #[.string s, .int .i64 n] w fun e w' => e = .returned (.bool true) ∧ Below w.heap.size w w' := by
  have HT := Lib.hid hT
  clear hT
  have c0 : decide (20000 < (s.size : Int)) = false := by simp; omega
  have c1 : decide ((n : Int) < 0) = false := by simp
  have c2 : decide (s.size ≤ n) = false := by simp; omega
  have c2' : decide ((s.size : Int) ≤ (n : Int)) = false := by simp; omega
  go_enter Tryd.func5, Tryd.ntmps5
  go_wp2_with fail
  refine (alive11_calls _ HT.out).mono ?_
  rintro e w1 ⟨rfl, h1⟩
  go_upto_region 3 with (fail)
  go_cut [39] (fun v wx => v = .bool false ∧ Below w.heap.size w wx)
  case first =>
    rcases hd with hd | ⟨hd, hne⟩
    · have d1 : decide (0 < n) = false := by simp; omega
      have d1' : decide ((0 : Int) < (n : Int)) = false := by simp; omega
      clear hd
      go_quiet (fail)
      go_wp2_with fail
      go_meet
      exact ⟨rfl, below_drewN h1 _⟩
    · have i0 : (0 : Int) ≤ (n : Int) - 1 := by omega
      have j0 : (1 : Int) ≤ (n : Int) := by omega
      have i1 : (n : Int) - 1 < (s.size : Int) := by omega
      have i2 : (n : Int) < (s.size : Int) := by omega
      have en : ((n : Int) - 1).toNat = n - 1 := by omega
      have ez := IntWalk.i64_in ((n : Int) - 1) (by omega)
      have d1 : decide (0 < n) = true := by simpa using hd
      have d1' : decide ((0 : Int) < (n : Int)) = true := by simpa using hd
      have d4 : ((s[n - 1].toNat : Int) == (s[n].toNat : Int)) = false := by
        rw [get!_of_lt (by omega), get!_of_lt hn] at hne
        simp; omega
      go_quiet (fail)
      go_wp2_with fail
      go_meet
      exact ⟨rfl, below_drewN h1 _⟩
  case rest =>
    obtain ⟨rfl, hW⟩ := hcut
    clear h1
    go_wp2_with fail
    have hO := Own.new w.heap.size wc hW.size
    have hW2 := hW.alloc hW.size (.cells #[] 5)
    generalize (wc.alloc (.cells #[] 5)) = W2 at *
    generalize Value.slice (some { block := wc.heap.size, off := 0 }) 0 0 = v0 at *
    go_loopg [5, 6] s.size (fun gk v i wr => ∃ d : Nat, Aside (gk + d = s.size) ∧ d ≤ s.size ∧ i = .int .i64 ((s.size : Int) - 1 - (d : Int)) ∧ Aside (∃ l, l = s.data.toList.reverse.take d ∧ Own w.heap.size v l wr) ∧ Aside (∀ x, x < s.size → s.size - d ≤ x → (s.get! x).toNat < 128) ∧ Below w.heap.size w wr)
    case atStart => exact ⟨0, rfl, Nat.zero_le _, by simp, ⟨[], rfl, hO⟩, (fun x a b => by omega), hW2⟩
    case round =>
      obtain ⟨d, hgd, hdd, rfl, ⟨l, hl, hOw⟩, hA, hL⟩ := hrel
      clear hO hW2 hW
      by_cases hlt : d < s.size
      · have i0 : (0 : Int) ≤ (s.size : Int) - 1 - (d : Int) := by omega
        have i1 : (s.size : Int) - 1 - (d : Int) < (s.size : Int) := by omega
        have en : ((s.size : Int) - 1 - (d : Int)).toNat = s.size - 1 - d := by omega
        have hll : l.length ≤ 1000000 := by rw [hl, List.length_take]; omega
        have HL := Lib.hid hl
        have HR := Lib.hid (rev_take s d hlt)
        have zL := hL.size
        clear hl
        have hg0 : (s.get! (s.size - 1 - d)).toNat = s[s.size - 1 - d].toNat := by rw [get!_of_lt (by omega)]
        have HG := Lib.hid hg0
        clear hg0
        by_cases hb : 128 ≤ (s[s.size - 1 - d].toNat : Int)
        · go_wp2_with fail
          go_ret
          exact ⟨rfl, hL⟩
        · go_wp2_with (at_builtin; refine append_byte rfl (.tmp 52) (.tmp 56) rfl w.heap.size _ l s[s.size - 1 - d] _ wr rfl rfl hOw rfl hll zL ?_; intro v' w' hO' hB' _)
          go_roundg (s.size - (d + 1))
          case measure => have := hgd.out; omega
          case rel =>
            refine ⟨d + 1, (by show _ = _; omega), by omega, by go_num, ⟨_, by rw [HR.out, HL.out], hO'⟩, fun x h0 h1 => ?_, hL.trans hB'⟩
            by_cases hx : x = s.size - 1 - d
            · rw [hx, HG.out]; omega
            · exact hA.out x h0 (by omega)
      · have hl' : l = s.data.toList.reverse := by rw [hl, List.take_of_length_le (by rw [rev_len]; omega)]
        have hAll : ∀ x, x < s.size → (s.get! x).toNat < 128 := fun x h => hA.out x h (by omega)
        have hll : Hid (l.length = s.size) := by show _ = _; rw [hl', rev_len]
        have HT2 : Hid ((⟨l.toArray⟩ : ByteArray) = turned s) := by show _ = _; rw [hl']; rfl
        have HAll := Lib.hid hAll
        clear hl hl' hAll hA hgd
        obtain ⟨g, c, hv⟩ := hOw.2
        subst hv
        go_wp2_with fail
        refine (Scan_calls s n _ (by omega) (HT.out.below hL)).mono ?_
        rintro e w2 ⟨rfl, h2⟩
        have hO2 := hOw.below h2
        have hW3 := hL.trans (h2.mono hL.size)
        have z3 := hW3.size
        clear hOw h2 hL
        have hby : byteI s n = (s[n].toNat : Int) := by unfold byteI; rw [Int.toNat_natCast, get!_of_lt hn]
        by_cases hm : byteI s n = 42 ∨ byteI s n = 95
        · rw [hby] at hm
          have hp : 0 < n → ((s.get! (n - 1)).toNat : Int) ≠ (s[n].toNat : Int) := by
            intro h0
            rcases hd with hd | ⟨_, hd⟩
            · omega
            · rw [get!_of_lt hn] at hd; omega
          have hr := Lib.hid (scanR_yes s n hn _ rfl hm)
          have ht := Lib.hid (scan_turned s HAll.out n hn _ rfl hm hp)
          have hk := (row_facts s n hn _ rfl (by omega) (by omega)).2.1
          rw [hr.out]
          clear hr hby hm hp hd
          generalize (s[n].toNat : Int) = m at *
          generalize rowOf s n m = k at *
          generalize (flags (m == 95) (aheadOf s n) (behindOf s ((n : Int) + (k : Nat)))).1 = o1 at *
          generalize (flags (m == 95) (aheadOf s n) (behindOf s ((n : Int) + (k : Nat)))).2 = o2 at *
          have htx := text_of (hO2.alloc (.cells #[.int .u8 m, .int .i64 k, .bool o1, .bool o2] 24))
          rw [HT2.out] at htx
          have K0 := Lib.hid (heap_alloc_new w2 (.cells #[.int .u8 m, .int .i64 k, .bool o1, .bool o2] 24))
          have hW4 := hW3.alloc z3 (.cells #[.int .u8 m, .int .i64 k, .bool o1, .bool o2] 24)
          go_upto_region 15 with (fail)
          generalize (w2.alloc (.cells #[.int .u8 m, .int .i64 k, .bool o1, .bool o2] 24)) = W4 at *
          have hz := blk_lt K0.out
          have z4 := hW4.size
          have k0 := blk_cell K0.out 0
          have k1 := blk_cell K0.out 1
          simp at k0 k1
          have ei : (s.size : Int) - (n : Int) - (k : Int) = ((s.size - n - k : Nat) : Int) := by omega
          have EI := Lib.hid ei
          clear ei
          go_wp2_with fail
          rw [EI.out]
          refine (Scan_calls (turned s) _ _ (by rw [turned_size]; omega) (HT.out.below hW4)).mono ?_
          rintro e w5 ⟨rfl, h5⟩
          rw [ht.out]
          have K5 := below_block h5 hz K0.out
          have hW5 := hW4.trans (h5.mono z4)
          have z5 := hW5.size
          have yz := blk_lt K5
          have y0 := blk_cell K5 0
          have y1 := blk_cell K5 1
          have y2 := blk_cell K5 2
          have y3 := blk_cell K5 3
          simp at y0 y1 y2 y3
          clear k0 k1 h5 hW4 K5 K0 htx hO2 hW3
          go_wp2_with fail
          go_ret
          exact ⟨rfl, by go_grown⟩
        · have hr := Lib.hid (scanR_no s n (fun h => hm h.2.2))
          rw [hr.out]
          have d0 : ((s[n].toNat : Int) != 42) = true := by rw [bne_iff_ne]; intro e; exact hm (Or.inl (by rw [hby]; exact e))
          have d1 : ((s[n].toNat : Int) != 95) = true := by rw [bne_iff_ne]; intro e; exact hm (Or.inr (by rw [hby]; exact e))
          clear hby hm hd
          go_wp2_with fail
          go_ret
          exact ⟨rfl, by go_grown⟩

set_option maxRecDepth 100000 in
theorem RunsTurned_large (s : ByteArray) (a : Int) (c0 : decide (20000 < (s.size : Int)) = true) (w : World) (hT : Tabs w) :
    Calls Tryd.prog 5 #[.string s, .int .i64 a] w fun e w' => e = .returned (.bool true) ∧ Below w.heap.size w w' := by
  go_enter Tryd.func5, Tryd.ntmps5
  go_wp2_with fail
  refine (alive11_calls _ hT).mono ?_
  rintro e w1 ⟨rfl, h1⟩
  clear hT
  go_wp2_with fail
  go_quiet (fail)
  go_wp2_with fail
  go_ret
  exact ⟨rfl, below_drewN h1 _⟩

set_option maxRecDepth 100000 in
theorem RunsTurned_neg (s : ByteArray) (a : Int) (c0 : decide (20000 < (s.size : Int)) = false) (c1 : decide (a < 0) = true) (w : World) (hT : Tabs w) :
    Calls Tryd.prog 5 #[.string s, .int .i64 a] w fun e w' => e = .returned (.bool true) ∧ Below w.heap.size w w' := by
  go_enter Tryd.func5, Tryd.ntmps5
  go_wp2_with fail
  refine (alive11_calls _ hT).mono ?_
  rintro e w1 ⟨rfl, h1⟩
  clear hT
  go_wp2_with fail
  go_quiet (fail)
  go_wp2_with fail
  go_ret
  exact ⟨rfl, below_drewN h1 _⟩

set_option maxRecDepth 100000 in
theorem RunsTurned_far (s : ByteArray) (a : Int) (c0 : decide (20000 < (s.size : Int)) = false) (c1 : decide (a < 0) = false) (c2 : decide ((s.size : Int) ≤ a) = true) (w : World) (hT : Tabs w) :
    Calls Tryd.prog 5 #[.string s, .int .i64 a] w fun e w' => e = .returned (.bool true) ∧ Below w.heap.size w w' := by
  go_enter Tryd.func5, Tryd.ntmps5
  go_wp2_with fail
  refine (alive11_calls _ hT).mono ?_
  rintro e w1 ⟨rfl, h1⟩
  clear hT
  go_wp2_with fail
  go_quiet (fail)
  go_wp2_with fail
  go_ret
  exact ⟨rfl, below_drewN h1 _⟩

set_option maxRecDepth 100000 in
theorem RunsTurned_same (s : ByteArray) (n : Nat) (w : World) (hT : Tabs w) (hs : s.size ≤ 20000) (hn : n < s.size) (hd : 0 < n) (hne : (s.get! (n - 1)).toNat = (s.get! n).toNat) :
    Calls Tryd.prog 5 #[.string s, .int .i64 n] w fun e w' => e = .returned (.bool true) ∧ Below w.heap.size w w' := by
  have c0 : decide (20000 < (s.size : Int)) = false := by simp; omega
  have c1 : decide ((n : Int) < 0) = false := by simp
  have c2 : decide (s.size ≤ n) = false := by simp; omega
  have c2' : decide ((s.size : Int) ≤ (n : Int)) = false := by simp; omega
  have i0 : (0 : Int) ≤ (n : Int) - 1 := by omega
  have j0 : (1 : Int) ≤ (n : Int) := by omega
  have i1 : (n : Int) - 1 < (s.size : Int) := by omega
  have i2 : (n : Int) < (s.size : Int) := by omega
  have en : ((n : Int) - 1).toNat = n - 1 := by omega
  have ez := IntWalk.i64_in ((n : Int) - 1) (by omega)
  have d1 : decide (0 < n) = true := by simpa using hd
  have d1' : decide ((0 : Int) < (n : Int)) = true := by simpa using hd
  have d4 : ((s[n - 1].toNat : Int) == (s[n].toNat : Int)) = true := by
    rw [get!_of_lt (by omega), get!_of_lt hn] at hne
    simp; omega
  clear hne
  go_enter Tryd.func5, Tryd.ntmps5
  go_wp2_with fail
  refine (alive11_calls _ hT).mono ?_
  rintro e w1 ⟨rfl, h1⟩
  clear hT
  go_wp2_with fail
  go_quiet (fail)
  go_wp2_with fail
  go_ret
  exact ⟨rfl, below_drewN h1 _⟩

theorem RunsTurned_walk (s : ByteArray) (a : Int) (w : World) (hT : Tabs w) :
    Calls Tryd.prog 5 #[.string s, .int .i64 a] w fun e w' => e = .returned (.bool true) ∧ Below w.heap.size w w' := by
  by_cases hs : s.size ≤ 20000
  · have c0 : decide (20000 < (s.size : Int)) = false := by simp; omega
    by_cases h0 : a < 0
    · exact RunsTurned_neg s a c0 (by simpa using h0) w hT
    by_cases h1 : (s.size : Int) ≤ a
    · exact RunsTurned_far s a c0 (by simpa using h0) (by simpa using h1) w hT
    obtain ⟨n, rfl⟩ := Int.eq_ofNat_of_zero_le (show 0 ≤ a by omega)
    by_cases hd : 0 < n ∧ (s.get! (n - 1)).toNat = (s.get! n).toNat
    · exact RunsTurned_same s n w hT hs (by omega) hd.1 hd.2
    · refine RunsTurned_in s n w hT hs (by omega) ?_
      by_cases hn : 0 < n
      · exact Or.inr ⟨hn, fun e => hd ⟨hn, e⟩⟩
      · exact Or.inl (by omega)
  · exact RunsTurned_large s a (by simp; omega) w hT

end Go.Proofs.YtkpjcbpfpfjjkaaDoor
