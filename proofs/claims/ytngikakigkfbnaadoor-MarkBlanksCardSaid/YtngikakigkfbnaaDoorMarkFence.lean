/- Walk: mark.Fence. -/
import Derived.Test.YtngikakigkfbnaaDoorMarkUnder
import Derived.Test.YtngikakigkfbnaaDoorMarkPlain3
import Derived.OwnWalk
namespace Go.Proofs.YtngikakigkfbnaaDoor
set_option linter.unusedVariables false
set_option linter.unusedSimpArgs false
open Go Go.RowKit Go.Lib

def tickIn (t : ByteArray) : Bool := decide (0 ≤ Lib.indexByte t.data.toList 96)
def infoOf (s : ByteArray) (c : UInt8) : ByteArray := trimB (s.extract (lead s ⟨#[c]⟩) s.size) blanksT
def fenceF (s : ByteArray) : Int × Nat × ByteArray :=
  if 3 ≤ lead s ⟨#[96]⟩ then (if tickIn (infoOf s 96) = true then (0, 0, ⟨#[]⟩) else (96, lead s ⟨#[96]⟩, infoOf s 96))
  else if 3 ≤ lead s ⟨#[126]⟩ then (126, lead s ⟨#[126]⟩, infoOf s 126) else (0, 0, ⟨#[]⟩)

set_option maxRecDepth 100000 in
set_option maxHeartbeats 1000000 in
theorem Fence_tick (s : ByteArray) (w : World) (hs : s.size ≤ 1000000) (h : 3 ≤ lead s ⟨#[96]⟩) (b : Bool) (hb : tickIn (infoOf s 96) = b) :
    Calls Tryd.prog 19 #[.string s] w fun e w' => e = .returned (.tuple (if b = true then #[.int .u8 0, .int .i64 0, .string ⟨#[]⟩] else #[.int .u8 96, .int .i64 (lead s ⟨#[96]⟩ : Nat), .string (infoOf s 96)])) ∧ Below w.heap.size w w' := by
  have q1 := fun w => row_calls s ⟨#[96]⟩ w hs (by decide) (ascii_c 96 (by decide))
  have hle := lead_le s ⟨#[96]⟩
  have hi : Hid (trimB (s.extract (lead s ⟨#[96]⟩) s.size) blanksT = infoOf s 96) := rfl
  generalize infoOf s 96 = t at *
  generalize lead s ⟨#[96]⟩ = n at *
  have hc := fun w => Tryd.strings_Contains_one t 96 w
  have hb' : decide (0 ≤ Lib.indexByte t.data.toList 96) = b := hb
  rw [hb'] at hc
  clear hb hb'
  have d3 : decide ((n : Int) < 3) = false := decide_eq_false (by omega)
  go_enter Tryd.func19, Tryd.ntmps19
  go_wp2_with fail
  refine wp_loop_rounds 3 ?_
  rw [rounds_succ]
  go_wp2_with fail
  have hB0 := (Below.refl w.heap.size w).alloc (Nat.le_refl _) (Obj.cells #[Value.string { data := #[96] }, Value.string { data := #[126] }] 9)
  generalize w.alloc (Obj.cells #[Value.string { data := #[96] }, Value.string { data := #[126] }] 9) = w2 at *
  refine (q1 _).mono ?_
  rintro e w3 ⟨rfl, b1⟩
  have hB1 := hB0.trans (b1.mono hB0.size)
  clear b1 q1
  go_wp2_with fail
  refine (Trim_calls _ blanksT _ (by rw [Lib.tail_size]; omega) (by decide) blanks_ascii).mono ?_
  rintro e w4 ⟨rfl, b1⟩
  have hB2 := hB1.trans (b1.mono hB1.size)
  clear b1
  rw [hi.out]
  go_wp2_with fail
  refine (hc _).mono ?_
  rintro e w5 ⟨rfl, rfl⟩
  clear hc
  cases b
  all_goals
    go_wp2_with fail
    go_ret3
    exact ⟨rfl, hB2⟩

set_option maxRecDepth 100000 in
set_option maxHeartbeats 1000000 in
theorem Fence_wave (s : ByteArray) (w : World) (hs : s.size ≤ 1000000) (h : ¬ 3 ≤ lead s ⟨#[96]⟩) (b : Bool) (hb : decide ((lead s ⟨#[126]⟩ : Int) < 3) = b) :
    Calls Tryd.prog 19 #[.string s] w fun e w' => e = .returned (.tuple (if b = true then #[.int .u8 0, .int .i64 0, .string ⟨#[]⟩] else #[.int .u8 126, .int .i64 (lead s ⟨#[126]⟩ : Nat), .string (infoOf s 126)])) ∧ Below w.heap.size w w' := by
  have q1 := fun w => row_calls s ⟨#[96]⟩ w hs (by decide) (ascii_c 96 (by decide))
  have q2 := fun w => row_calls s ⟨#[126]⟩ w hs (by decide) (ascii_c 126 (by decide))
  have hle := lead_le s ⟨#[126]⟩
  have hi : Hid (trimB (s.extract (lead s ⟨#[126]⟩) s.size) blanksT = infoOf s 126) := rfl
  generalize infoOf s 126 = t at *
  generalize lead s ⟨#[126]⟩ = n at *
  generalize lead s ⟨#[96]⟩ = p at *
  have d3 : decide ((p : Int) < 3) = true := decide_eq_true (by omega)
  go_enter Tryd.func19, Tryd.ntmps19
  go_wp2_with fail
  refine wp_loop_rounds 4 ?_
  rw [rounds_succ]
  go_wp2_with fail
  have hB0 := (Below.refl w.heap.size w).alloc (Nat.le_refl _) (Obj.cells #[Value.string { data := #[96] }, Value.string { data := #[126] }] 9)
  have K := heap_alloc_new w (Obj.cells #[Value.string { data := #[96] }, Value.string { data := #[126] }] 9)
  generalize w.alloc (Obj.cells #[Value.string { data := #[96] }, Value.string { data := #[126] }] 9) = w2 at *
  refine (q1 _).mono ?_
  rintro e w3 ⟨rfl, b1⟩
  replace K := below_block b1 (blk_lt K) K
  have hB1 := hB0.trans (b1.mono hB0.size)
  have k1 := blk_cell K 1
  have kz := blk_lt K
  simp at k1
  clear b1 q1 K
  go_wp2_with fail
  rw [rounds_succ]
  go_wp2_with fail
  refine (q2 _).mono ?_
  rintro e w4 ⟨rfl, b1⟩
  replace hB1 := hB1.trans (b1.mono hB1.size)
  clear b1 q2 k1
  cases b with
  | true =>
    go_wp2_with fail
    rw [rounds_succ]
    go_wp2_with fail
    go_ret3
    exact ⟨rfl, hB1⟩
  | false =>
    go_wp2_with fail
    refine (Trim_calls _ blanksT _ (by rw [Lib.tail_size]; omega) (by decide) blanks_ascii).mono ?_
    rintro e w5 ⟨rfl, b1⟩
    have hB2 := hB1.trans (b1.mono hB1.size)
    clear b1
    rw [hi.out]
    go_wp2_with fail
    go_ret3
    exact ⟨rfl, hB2⟩

theorem Fence_calls (s : ByteArray) (w : World) (hs : s.size ≤ 1000000) :
    Calls Tryd.prog 19 #[.string s] w fun e w' => e = .returned (.tuple #[.int .u8 (fenceF s).1, .int .i64 ((fenceF s).2.1 : Nat), .string (fenceF s).2.2]) ∧ Below w.heap.size w w' := by
  by_cases h : 3 ≤ lead s ⟨#[96]⟩
  · have := Fence_tick s w hs h _ rfl
    cases hb : tickIn (infoOf s 96) with
    | true =>
      have e : fenceF s = (0, 0, ⟨#[]⟩) := by unfold fenceF; rw [if_pos h, if_pos hb]
      rw [hb] at this; rw [e]; exact this
    | false =>
      have e : fenceF s = (96, lead s ⟨#[96]⟩, infoOf s 96) := by unfold fenceF; rw [if_pos h, hb]; rfl
      rw [hb] at this; rw [e]; exact this
  · by_cases h2 : 3 ≤ lead s ⟨#[126]⟩
    · have := Fence_wave s w hs h false (decide_eq_false (by omega))
      have e : fenceF s = (126, lead s ⟨#[126]⟩, infoOf s 126) := by unfold fenceF; rw [if_neg h, if_pos h2]
      rw [e]; exact this
    · have := Fence_wave s w hs h true (decide_eq_true (by omega))
      have e : fenceF s = (0, 0, ⟨#[]⟩) := by unfold fenceF; rw [if_neg h, if_neg h2]
      rw [e]; exact this

end Go.Proofs.YtngikakigkfbnaaDoor
