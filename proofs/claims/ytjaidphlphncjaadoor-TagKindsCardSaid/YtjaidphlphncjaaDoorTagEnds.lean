/- Walks: tag's ends, with nothing more and with one text more. -/
import Derived.Test.YtjaidphlphncjaaDoorTagRaw
import Derived.OwnWalk
import Derived.Laws.AppendOwn
namespace Go.Proofs.YtjaidphlphncjaaDoor
set_option linter.unusedVariables false
set_option linter.unusedSimpArgs false
open Go Go.RowKit Go.Lib

theorem infoStr : (Tryd.prog.info? 9).map (fun i => (i.zero, i.size, i.bytes)) = some (some (.string ⟨#[]⟩), 1, 16) := by kernel_rfl

/-- does it end, or does a blank or a '>' stand there? -/
def endF (s : ByteArray) : Bool := Lib.hasPrefix s.data.toList [32] || (Lib.hasPrefix s.data.toList [9] || (Lib.hasPrefix s.data.toList [62] || s.toList.isEmpty))

theorem owned_cells {w : World} {base : Nat} {e : TypeId} {v : Value} {n : Nat} {xs : List Value} (h : w.ownsRow base e 1 v n xs) (hn : 0 < n) :
    ∃ g cap, v = .slice (some ⟨g, 0, none⟩) n cap ∧ base ≤ g ∧ n ≤ cap ∧ cap ≤ maxLen ∧ ∀ j (hj : j < xs.length), w.cell? ⟨g, j, none⟩ = some xs[j] := by
  obtain ⟨hl, h | ⟨g, cap, cur, hv, hg, hb, hc, hm, hs, hx⟩⟩ := h
  · omega
  · refine ⟨g, cap, hv, hg, hc, hm, fun j hj => ?_⟩
    rw [blk_cell hb j]
    have : xs[j] = cur.toList[j]'(by rw [Array.length_toList, hs]; omega) := by
      simp only [← hx, List.getElem_take]
    rw [this]
    simp

theorem news_at (w : World) (cs : Array Value) (t : TypeId) : ∀ (j : Nat) u, cs.toList[j]? = some u → (w.alloc (.cells cs t)).cell? ((⟨w.heap.size, 0, none⟩ : Addr).add j) = some u := by
  intro j u h
  have e := blk_cell (heap_alloc_new w (Obj.cells cs t)) j
  have ha : (⟨w.heap.size, 0, none⟩ : Addr).add j = ⟨w.heap.size, j, none⟩ := by
    unfold Addr.add
    split
    · rename_i h0; rw [h0]
    · simp
  rw [ha, e]
  simpa using h

set_option maxHeartbeats 2000000 in
set_option maxRecDepth 100000 in
theorem ends_nil (s : ByteArray) (w : World) :
    Calls Tryd.prog 31 #[.string s, .slice none 0 0] w fun e w' => e = .returned (.bool (endF s)) ∧ Below w.heap.size w w' := by
  obtain ⟨i0, hi, hz0, hz1, hz2⟩ := info_parts infoStr
  have hown : w.ownsRow w.heap.size 9 1 (.slice none 0 0) 0 [] := ⟨rfl, Or.inl ⟨rfl, rfl⟩⟩
  have hB0 : Below w.heap.size w w := Below.refl _ _
  have hbw : w.heap.size ≤ w.heap.size := Nat.le_refl _
  have hend : Hid (endF s = (Lib.hasPrefix s.data.toList [32] || (Lib.hasPrefix s.data.toList [9] || (Lib.hasPrefix s.data.toList [62] || s.toList.isEmpty)))) := rfl
  go_enter Tryd.func31, Tryd.ntmps31
  go_wp2_with (at_builtin; refine wpList_append_own _ rfl _ _ 30 rfl w.heap.size 9 i0 (.string ⟨#[]⟩) 1 16 Tryd.underlying30 hi hz0 hz1 hz2 rfl (by decide) _ _ _ rfl (hown.alloc _) ⟨w.heap.size, 0, none⟩ 3 3 [.string ⟨#[32]⟩, .string ⟨#[9]⟩, .string ⟨#[62]⟩] rfl rfl (news_at w #[.string ⟨#[32]⟩, .string ⟨#[9]⟩, .string ⟨#[62]⟩] 9) (fun x hx => by simp at hx; rcases hx with rfl | rfl | rfl <;> rfl) (by unfold maxLen; omega) (by omega) (by simp <;> omega) ?_; intro v' w1 hown' hgrow _)
  obtain ⟨g, cap, rfl, hg, hc1, hc2, hcell⟩ := owned_cells hown' (by omega)
  have hB1 : Below w.heap.size w w1 := (hB0.alloc hbw _).grown hgrow (by simp <;> omega) (fun k hk => by cases hk)
  have hglt : g < w1.heap.size := by
    have h := hcell 0 (by simp)
    by_cases hh : g < w1.heap.size
    · exact hh
    · simp [World.cell?, Array.getElem?_eq_none (Nat.le_of_not_lt hh)] at h
  have c0 := hcell 0 (by simp)
  have c1 := hcell 1 (by simp)
  have c2 := hcell 2 (by simp)
  simp at c0 c1 c2
  clear hown hown' hgrow hcell hB0 hi hz0 hz1 hz2
  simp only [Nat.zero_add, Nat.reduceAdd]
  simp [go_sem]
  go_wp2_with fail
  refine wp_loop_rounds 5 ?_
  rw [rounds_succ]
  go_wp2_with fail
  refine (Tryd.strings_HasPrefix s ⟨#[32]⟩ _).mono ?_
  rintro e x0 ⟨rfl, rfl⟩
  rw [show (ByteArray.mk #[32]).data.toList = [32] from rfl]
  cases h0 : Lib.hasPrefix s.data.toList [32] with
  | true =>
    go_wp2_with fail
    go_ret
    exact ⟨ret_bool (by rw [hend.out]; simp [h0]), hB1⟩
  | false =>
    go_wp2_with fail
    rw [rounds_succ]
    go_wp2_with fail
    refine (Tryd.strings_HasPrefix s ⟨#[9]⟩ _).mono ?_
    rintro e x1 ⟨rfl, rfl⟩
    rw [show (ByteArray.mk #[9]).data.toList = [9] from rfl]
    cases h1 : Lib.hasPrefix s.data.toList [9] with
    | true =>
      go_wp2_with fail
      go_ret
      exact ⟨ret_bool (by rw [hend.out]; simp [h0, h1]), hB1⟩
    | false =>
      go_wp2_with fail
      rw [rounds_succ]
      go_wp2_with fail
      refine (Tryd.strings_HasPrefix s ⟨#[62]⟩ _).mono ?_
      rintro e x2 ⟨rfl, rfl⟩
      rw [show (ByteArray.mk #[62]).data.toList = [62] from rfl]
      cases h2 : Lib.hasPrefix s.data.toList [62] with
      | true =>
        go_wp2_with fail
        go_ret
        exact ⟨ret_bool (by rw [hend.out]; simp [h0, h1, h2]), hB1⟩
      | false =>
        go_wp2_with fail
        rw [rounds_succ]
        go_wp2_with fail
        go_ret
        exact ⟨ret_bool (by rw [hend.out]; simp [h0, h1, h2]), hB1⟩

set_option maxHeartbeats 2000000 in
set_option maxRecDepth 100000 in
theorem ends_more (s : ByteArray) (w : World) (b : Nat) (p : ByteArray) (hb : w.heap[b]? = some (.cells #[.string p] 9 (0, 0))) :
    Calls Tryd.prog 31 #[.string s, .slice (some ⟨b, 0, none⟩) 1 1] w fun e w' => e = .returned (.bool ((Lib.hasPrefix s.data.toList p.data.toList || endF s))) ∧ Below b w w' := by
  obtain ⟨i0, hi, hz0, hz1, hz2⟩ := info_parts infoStr
  have hown : w.ownsRow b 9 1 (.slice (some ⟨b, 0, none⟩) 1 1) 1 [.string p] := ⟨rfl, Or.inr ⟨b, 1, #[.string p], rfl, Nat.le_refl _, hb, Nat.le_refl _, (by unfold maxLen; omega), rfl, rfl⟩⟩
  have hB0 : Below b w w := Below.refl _ _
  have hbw : b ≤ w.heap.size := Nat.le_of_lt (blk_lt hb)
  have hend : Hid (endF s = (Lib.hasPrefix s.data.toList [32] || (Lib.hasPrefix s.data.toList [9] || (Lib.hasPrefix s.data.toList [62] || s.toList.isEmpty)))) := rfl
  go_enter Tryd.func31, Tryd.ntmps31
  go_wp2_with (at_builtin; refine wpList_append_own _ rfl _ _ 30 rfl b 9 i0 (.string ⟨#[]⟩) 1 16 Tryd.underlying30 hi hz0 hz1 hz2 rfl (by decide) _ _ _ rfl (hown.alloc _) ⟨w.heap.size, 0, none⟩ 3 3 [.string ⟨#[32]⟩, .string ⟨#[9]⟩, .string ⟨#[62]⟩] rfl rfl (news_at w #[.string ⟨#[32]⟩, .string ⟨#[9]⟩, .string ⟨#[62]⟩] 9) (fun x hx => by simp at hx; rcases hx with rfl | rfl | rfl <;> rfl) (by unfold maxLen; omega) (by omega) (by simp <;> omega) ?_; intro v' w1 hown' hgrow _)
  obtain ⟨g, cap, rfl, hg, hc1, hc2, hcell⟩ := owned_cells hown' (by omega)
  have hB1 : Below b w w1 := (hB0.alloc hbw _).grown hgrow (by simp <;> omega) (fun k hk => by cases hk; exact Nat.le_refl _)
  have hglt : g < w1.heap.size := by
    have h := hcell 0 (by simp)
    by_cases hh : g < w1.heap.size
    · exact hh
    · simp [World.cell?, Array.getElem?_eq_none (Nat.le_of_not_lt hh)] at h
  have c0 := hcell 0 (by simp)
  have c1 := hcell 1 (by simp)
  have c2 := hcell 2 (by simp)
  have c3 := hcell 3 (by simp)
  simp at c0 c1 c2 c3
  clear hown hown' hgrow hcell hB0 hi hz0 hz1 hz2
  simp only [Nat.reduceAdd]
  simp [go_sem]
  go_wp2_with fail
  refine wp_loop_rounds 6 ?_
  rw [rounds_succ]
  go_wp2_with fail
  refine (Tryd.strings_HasPrefix s p _).mono ?_
  rintro e x0 ⟨rfl, rfl⟩
  cases h0 : Lib.hasPrefix s.data.toList p.data.toList with
  | true =>
    go_wp2_with fail
    go_ret
    exact ⟨ret_bool (by rw [hend.out]; simp [h0]), hB1⟩
  | false =>
    go_wp2_with fail
    rw [rounds_succ]
    go_wp2_with fail
    refine (Tryd.strings_HasPrefix s ⟨#[32]⟩ _).mono ?_
    rintro e x1 ⟨rfl, rfl⟩
    rw [show (ByteArray.mk #[32]).data.toList = [32] from rfl]
    cases h1 : Lib.hasPrefix s.data.toList [32] with
    | true =>
      go_wp2_with fail
      go_ret
      exact ⟨ret_bool (by rw [hend.out]; simp [h0, h1]), hB1⟩
    | false =>
      go_wp2_with fail
      rw [rounds_succ]
      go_wp2_with fail
      refine (Tryd.strings_HasPrefix s ⟨#[9]⟩ _).mono ?_
      rintro e x2 ⟨rfl, rfl⟩
      rw [show (ByteArray.mk #[9]).data.toList = [9] from rfl]
      cases h2 : Lib.hasPrefix s.data.toList [9] with
      | true =>
        go_wp2_with fail
        go_ret
        exact ⟨ret_bool (by rw [hend.out]; simp [h0, h1, h2]), hB1⟩
      | false =>
        go_wp2_with fail
        rw [rounds_succ]
        go_wp2_with fail
        refine (Tryd.strings_HasPrefix s ⟨#[62]⟩ _).mono ?_
        rintro e x3 ⟨rfl, rfl⟩
        rw [show (ByteArray.mk #[62]).data.toList = [62] from rfl]
        cases h3 : Lib.hasPrefix s.data.toList [62] with
        | true =>
          go_wp2_with fail
          go_ret
          exact ⟨ret_bool (by rw [hend.out]; simp [h0, h1, h2, h3]), hB1⟩
        | false =>
          go_wp2_with fail
          rw [rounds_succ]
          go_wp2_with fail
          go_ret
          exact ⟨ret_bool (by rw [hend.out]; simp [h0, h1, h2, h3]), hB1⟩

end Go.Proofs.YtjaidphlphncjaaDoor
