/- Scan and its reference: they answer one thing. -/
import Derived.Test.YtkpjcbpfpfjjkaaDoorScan
import Derived.Test.YtkpjcbpfpfjjkaaDoorRefScan
namespace Go.Proofs.YtkpjcbpfpfjjkaaDoor
set_option linter.unusedVariables false
set_option linter.unusedSimpArgs false
open Go Go.RowKit Go.Lib

theorem Scan_no (s : ByteArray) (a : Int) (w : World) (hs : s.size ≤ 1000000) (h : ¬ (0 ≤ a ∧ a < s.size ∧ (byteI s a = 42 ∨ byteI s a = 95))) :
    Calls Tryd.prog 8 #[.string s, .int .i64 a] w fun e w' => e = .returned (.tuple #[.agg #[.int .u8 0, .int .i64 0, .bool false, .bool false], .bool false]) ∧ Below w.heap.size w w' := by
  by_cases h0 : 0 ≤ a
  · obtain ⟨n, rfl⟩ := Int.eq_ofNat_of_zero_le h0
    by_cases h1 : n < s.size
    · have hb : byteI s n = (s[n].toNat : Int) := by unfold byteI; rw [Int.toNat_natCast, get!_of_lt h1]
      have c0 : decide ((n : Int) < 0) = false := by simp
      have c1 : decide (s.size ≤ n) = false := by simp; omega
      have d0 : ((s[n].toNat : Int) != 42) = true := by rw [bne_iff_ne]; intro e; exact h ⟨h0, by omega, by rw [hb]; exact Or.inl e⟩
      have d1 : ((s[n].toNat : Int) != 95) = true := by rw [bne_iff_ne]; intro e; exact h ⟨h0, by omega, by rw [hb]; exact Or.inr e⟩
      clear hb h
      go_enter Tryd.func8, Tryd.ntmps8
      go_wp2_with fail
      refine bodyPost_ret (v := .tuple #[.agg #[.int .u8 0, .int .i64 0, .bool false, .bool false], .bool false]) (by simp [results, Tryd.results8, go_sem]) rfl ⟨rfl, ?_⟩
      go_grown
    · clear h
      have c0 : decide ((n : Int) < 0) = false := by simp
      have c1 : decide (s.size ≤ n) = true := by simp; omega
      go_enter Tryd.func8, Tryd.ntmps8
      go_wp2_with fail
      refine bodyPost_ret (v := .tuple #[.agg #[.int .u8 0, .int .i64 0, .bool false, .bool false], .bool false]) (by simp [results, Tryd.results8, go_sem]) rfl ⟨rfl, ?_⟩
      go_grown
  · clear h
    have c0 : decide (a < 0) = true := by simp; omega
    go_enter Tryd.func8, Tryd.ntmps8
    go_wp2_with fail
    refine bodyPost_ret (v := .tuple #[.agg #[.int .u8 0, .int .i64 0, .bool false, .bool false], .bool false]) (by simp [results, Tryd.results8, go_sem]) rfl ⟨rfl, ?_⟩
    go_grown

theorem Scan_calls (s : ByteArray) (a : Int) (w : World) (hs : s.size ≤ 1000000) (hT : Tabs w) :
    Calls Tryd.prog 8 #[.string s, .int .i64 a] w fun e w' => e = .returned (.tuple #[.agg #[.int .u8 (scanR s a).mark, .int .i64 (scanR s a).n, .bool (scanR s a).op, .bool (scanR s a).cl], .bool (scanR s a).ok]) ∧ Below w.heap.size w w' := by
  by_cases h : 0 ≤ a ∧ a < s.size ∧ (byteI s a = 42 ∨ byteI s a = 95)
  · obtain ⟨n, rfl⟩ := Int.eq_ofNat_of_zero_le h.1
    have hn : n < s.size := by omega
    have hb : byteI s n = (s[n].toNat : Int) := by unfold byteI; rw [Int.toNat_natCast, get!_of_lt hn]
    have h2 := h.2.2
    rw [hb] at h2
    rw [scanR_yes s n hn _ rfl h2]
    refine Scan_row s n w hs hT hn (s[n].toNat : Int) (by omega) (by omega) ?_ rfl
    rcases h2 with h2 | h2
    · exact Or.inl (by rw [h2]; rfl)
    · exact Or.inr ⟨by rw [h2]; rfl, by rw [h2]; rfl⟩
  · rw [scanR_no s a h]
    exact Scan_no s a w hs h

theorem refScan_no (s : ByteArray) (a : Int) (w : World) (hs : s.size ≤ 1000000) (h : ¬ (0 ≤ a ∧ a < s.size ∧ (byteI s a = 42 ∨ byteI s a = 95))) :
    Calls Tryd.prog 9 #[.string s, .int .i64 a] w fun e w' => e = .returned (.tuple #[.agg #[.int .u8 0, .int .i64 0, .bool false, .bool false], .bool false]) ∧ Below w.heap.size w w' := by
  by_cases h0 : 0 ≤ a
  · obtain ⟨n, rfl⟩ := Int.eq_ofNat_of_zero_le h0
    by_cases h1 : n < s.size
    · have hb : byteI s n = (s[n].toNat : Int) := by unfold byteI; rw [Int.toNat_natCast, get!_of_lt h1]
      have c0 : decide ((n : Int) < 0) = false := by simp
      have c1 : decide (s.size ≤ n) = false := by simp; omega
      have d0 : ((s[n].toNat : Int) != 42) = true := by rw [bne_iff_ne]; intro e; exact h ⟨h0, by omega, by rw [hb]; exact Or.inl e⟩
      have d1 : ((s[n].toNat : Int) != 95) = true := by rw [bne_iff_ne]; intro e; exact h ⟨h0, by omega, by rw [hb]; exact Or.inr e⟩
      clear hb h
      go_enter Tryd.func9, Tryd.ntmps9
      go_wp2_with fail
      refine bodyPost_ret (v := .tuple #[.agg #[.int .u8 0, .int .i64 0, .bool false, .bool false], .bool false]) (by simp [results, Tryd.results9, go_sem]) rfl ⟨rfl, ?_⟩
      go_grown
    · clear h
      have c0 : decide ((n : Int) < 0) = false := by simp
      have c1 : decide (s.size ≤ n) = true := by simp; omega
      go_enter Tryd.func9, Tryd.ntmps9
      go_wp2_with fail
      refine bodyPost_ret (v := .tuple #[.agg #[.int .u8 0, .int .i64 0, .bool false, .bool false], .bool false]) (by simp [results, Tryd.results9, go_sem]) rfl ⟨rfl, ?_⟩
      go_grown
  · clear h
    have c0 : decide (a < 0) = true := by simp; omega
    go_enter Tryd.func9, Tryd.ntmps9
    go_wp2_with fail
    refine bodyPost_ret (v := .tuple #[.agg #[.int .u8 0, .int .i64 0, .bool false, .bool false], .bool false]) (by simp [results, Tryd.results9, go_sem]) rfl ⟨rfl, ?_⟩
    go_grown

theorem refScan_calls (s : ByteArray) (a : Int) (w : World) (hs : s.size ≤ 1000000) :
    Calls Tryd.prog 9 #[.string s, .int .i64 a] w fun e w' => e = .returned (.tuple #[.agg #[.int .u8 (scanR s a).mark, .int .i64 (scanR s a).n, .bool (scanR s a).op, .bool (scanR s a).cl], .bool (scanR s a).ok]) ∧ Below w.heap.size w w' := by
  by_cases h : 0 ≤ a ∧ a < s.size ∧ (byteI s a = 42 ∨ byteI s a = 95)
  · obtain ⟨n, rfl⟩ := Int.eq_ofNat_of_zero_le h.1
    have hn : n < s.size := by omega
    have hb : byteI s n = (s[n].toNat : Int) := by unfold byteI; rw [Int.toNat_natCast, get!_of_lt hn]
    have h2 := h.2.2
    rw [hb] at h2
    rw [scanR_yes s n hn _ rfl h2]
    refine refScan_row s n w hs hn (s[n].toNat : Int) (by omega) (by omega) ?_ rfl
    rcases h2 with h2 | h2
    · exact Or.inl (by rw [h2]; rfl)
    · exact Or.inr ⟨by rw [h2]; rfl, by rw [h2]; rfl⟩
  · rw [scanR_no s a h]
    exact refScan_no s a w hs h

end Go.Proofs.YtkpjcbpfpfjjkaaDoor
