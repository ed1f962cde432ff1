/- Walks: tag's reader: eat, take, need. -/
import Derived.Test.YtjaidphlphncjaaDoorCutTag
import Derived.Test.YtjaidphlphncjaaDoorHelp
import Derived.Test.YtjaidphlphncjaaDoorTagDef
import Derived.Test.YtjaidphlphncjaaDoorMarkPlain2
import Derived.Handy
import Derived.OwnWalk
import Derived.WalkLawsBesides
import Derived.Deep.RegionHeld3
import Derived.Deep.DeepCutAuto
import Derived.WalkSmall
namespace Go.Proofs.YtjaidphlphncjaaDoor
set_option linter.unusedVariables false
set_option linter.unusedSimpArgs false
open Go Go.RowKit Go.Lib

/-- a reader with this text before it -/
def Rdr (t : ByteArray) (b : Nat) (w : World) : Prop := w.heap[b]? = some (.cells #[.string t] 40 (0, 0))

theorem Rdr.cell {t : ByteArray} {b : Nat} {w : World} (h : Rdr t b w) : w.cell? ⟨b, 0, none⟩ = some (.string t) := blk_cell h 0
theorem Rdr.free {t : ByteArray} {b : Nat} {w : World} (h : Rdr t b w) : w.frozen? ⟨b, 0, none⟩ = false := blk_free h 0
theorem Rdr.lt {t : ByteArray} {b : Nat} {w : World} (h : Rdr t b w) : b < w.heap.size := blk_lt h
theorem Rdr.set {t : ByteArray} {b : Nat} {w : World} (h : Rdr t b w) (u : ByteArray) : Rdr u b (w.setCell ⟨b, 0, none⟩ (.string u)) := blk_set h 0 _
theorem Rdr.keep {t : ByteArray} {b B : Nat} {w w' : World} (h : Rdr t b w) (hb : Below B w w') (hB : b < B) : Rdr t b w' := below_block hb hB h

theorem below_set {b : Nat} {w w' : World} (h : Below b w w') (v : Value) : Below b w (w'.setCell ⟨b, 0, none⟩ v) :=
  h.setCell (show b ≤ (⟨b, 0, none⟩ : Addr).block from Nat.le_refl b) v

/-- nothing that was there has changed but one block -/
structure Only (b : Nat) (w w' : World) : Prop where
  below : Below b w w'
  far : ∀ k, k < w.heap.size → k ≠ b → w'.heap[k]? = w.heap[k]?

theorem Only.of {b : Nat} {w w' : World} (h : Below w.heap.size w w') (hb : b ≤ w.heap.size) : Only b w w' := ⟨h.mono hb, fun k hk _ => h.block k hk⟩
theorem Only.refl (b : Nat) (w : World) : Only b w w := ⟨Below.refl _ _, fun _ _ _ => rfl⟩
theorem Only.trans {b : Nat} {w w' w'' : World} (h : Only b w w') (h2 : Only b w' w'') : Only b w w'' :=
  ⟨h.below.trans h2.below, fun k hk hne => (h2.far k (by have := h.below.size; omega) hne).trans (h.far k hk hne)⟩
theorem Only.set {b : Nat} {w w' : World} (h : Only b w w') (v : Value) : Only b w (w'.setCell ⟨b, 0, none⟩ v) :=
  ⟨below_set h.below v, fun k hk hne => by
    rw [Go.RowKit.Below.heap_setCell _ _ _ _ (fun e => hne e)]; exact h.far k hk hne⟩
theorem Only.new {b B : Nat} {w w1 w' : World} (h0 : Below B w w1) (h : Only b w1 w') (hB : B ≤ w.heap.size) (hb : B ≤ b) : Below B w w' := h0.trans (h.below.mono hb)
theorem Only.blk {b k : Nat} {w w' : World} (h : Only b w w') {o : Obj} (ho : w.heap[k]? = some o) (hne : k ≠ b) : w'.heap[k]? = some o := (h.far k (blk_lt ho) hne).trans ho

theorem keep1 {W x y : World} {p : Nat} {v : Value} (hp : p < W.heap.size)
    (h : x.cell? ⟨p, 0, none⟩ = some v ∧ Below W.heap.size W x) (hb : Below x.heap.size x y) :
    y.cell? ⟨p, 0, none⟩ = some v ∧ Below W.heap.size W y := by
  obtain ⟨h0, hB⟩ := h
  have hz := hB.size
  exact ⟨(hb.cell (p := ⟨p, 0, none⟩) (by show p < _; omega)).trans h0, hB.trans (hb.mono hz)⟩

theorem cut_len (t set : ByteArray) (ht : t.size ≤ 1000000) : IntKind.i64.wrap ((t.size : Int) - ((cutL t set).size : Nat)) = (lead t set : Nat) := by
  have h := row_eq t set ht
  have h2 := lead_le t set
  rw [cutL_size]
  exact IntWalk.i64_in _ (by omega) |>.trans (by omega)

set_option maxHeartbeats 1000000 in
theorem eat_calls (t set : ByteArray) (b : Nat) (w : World) (hr : Rdr t b w) (ht : t.size ≤ 1000000) (hs : set.size ≤ 1000000) (hA : Ascii set.data.toList) :
    Calls Tryd.prog 48 #[.pointer (some ⟨b, 0, none⟩), .string set] w fun e w' => e = .returned (.string (t.extract 0 (lead t set))) ∧ Rdr (cutL t set) b w' ∧ Only b w w' := by
  have HA := Lib.hid hA
  have HR : Hid (Rdr t b w) := hr
  have hc := hr.cell
  have hz := hr.lt
  have hle := lead_le t set
  have HW := cut_len t set ht
  have e32 := IntWalk.i64_in (lead t set : Nat) (by omega)
  clear hA hr
  go_enter Tryd.func48, Tryd.ntmps48
  go_upto_region 1 with (fail)
  go_region_held3 (fun wx => wx.cell? ⟨b, 0, none⟩ = some (.string t) ∧ Below w.heap.size w wx)
    (first | exact ⟨hc, (Below.refl _ _).drew⟩ | exact keep1 (by assumption) (by assumption) (by assumption))
    (first | (go_at_call 73; refine (tagCutLeft_calls t set _ ht hs HA.out).mono ?_; rintro e w1 ⟨rfl, hb1⟩))
  have hw1 : Below w.heap.size w w1 := by
    have h : w1.cell? ⟨b, 0, none⟩ = some (.string t) ∧ Below w.heap.size w w1 := by assumption
    exact h.2
  have R1 : Hid (Rdr t b w1) := Rdr.keep HR.out hw1 hz
  have c1 := R1.out.cell
  have f1 := R1.out.free
  have z1 := R1.out.lt
  have hB : Only b w w1 := Only.of hw1 (by omega)
  clear hb1 HW e32 hc hw1 HR
  have HC : Hid (t.extract (lead t set) t.size = cutL t set) := rfl
  generalize hN : lead t set = n at *
  have HN := Lib.hid hN
  clear hN
  have i0 : (0 : Int) ≤ (n : Int) := by omega
  have i1 : (n : Int) ≤ (t.size : Int) := by omega
  go_wp2_with fail
  go_ret
  exact ⟨ret_str (by rw [HN.out]), HC.out ▸ R1.out.set _, hB.set _⟩

/-- is a prefix there? then it is gone -/
theorem take_calls (t p : ByteArray) (b : Nat) (w : World) (hr : Rdr t b w) :
    Calls Tryd.prog 46 #[.pointer (some ⟨b, 0, none⟩), .string p] w fun e w' => e = .returned (.bool (Lib.hasPrefix t.data.toList p.data.toList)) ∧ Rdr ⟨(Lib.trimPrefix t.data.toList p.data.toList).toArray⟩ b w' ∧ Only b w w' := by
  have HR : Hid (Rdr t b w) := hr
  have hc := hr.cell
  have hf := hr.free
  have hz := hr.lt
  clear hr
  go_enter Tryd.func46, Tryd.ntmps46
  go_wp2_with fail
  refine (Tryd.strings_CutPrefix t p _).mono ?_
  rintro e w1 ⟨rfl, rfl⟩
  generalize hU : (ByteArray.mk (Lib.trimPrefix t.data.toList p.data.toList).toArray) = u at *
  generalize hV : Lib.hasPrefix t.data.toList p.data.toList = v at *
  have HU := Lib.hid hU
  have HV := Lib.hid hV
  clear hU hV
  go_wp2_with fail
  go_ret
  exact ⟨ret_bool HV.out.symm, HU.out ▸ HR.out.set u, (Only.refl _ _).set _⟩

theorem need_yes (w : World) : Calls Tryd.prog 45 #[.bool true] w fun e w' => e = .returned (.tuple #[]) ∧ w' = w := by
  go_enter Tryd.func45, Tryd.ntmps45
  go_wp2_with fail
  go_end0
  exact ⟨rfl, rfl⟩

theorem need_no (w : World) : Calls Tryd.prog 45 #[.bool false] w fun e w' => e = .panicked [{ v := .iface 37 (.agg #[]), recovered := false }] ∧ w' = w := by
  go_enter Tryd.func45, Tryd.ntmps45
  go_wp2_with fail
  exact ⟨rfl, rfl, rfl⟩

/-- the panic of what is no tag -/
def missedP : List PanicEntry := [{ v := .iface 37 (.agg #[]), recovered := false }]

theorem idx_in (l : List UInt8) (c : UInt8) : decide (0 ≤ Lib.indexByte l ((c.toNat : Int).toNat.toUInt8)) = l.contains c := by
  rw [show ((c.toNat : Int).toNat.toUInt8) = c from by simp]
  induction l with
  | nil => rfl
  | cons b t ih =>
    have hg := Lib.indexByte_ge t c
    unfold Lib.indexByte
    rw [List.contains_cons]
    by_cases hb : b = c
    · subst hb; simp
    · have h1 : (b == c) = false := by simpa using hb
      have h2 : (c == b) = false := by simpa using Ne.symm hb
      rw [h1, h2]
      simp only [Bool.false_eq_true, if_false, Bool.false_or, ← ih]
      by_cases h3 : Lib.indexByte t c = -1
      · rw [h3]; decide
      · rw [if_neg (by simpa using h3)]
        by_cases h4 : 0 ≤ Lib.indexByte t c
        · rw [decide_eq_true h4, decide_eq_true (by omega)]
        · omega

theorem word_yes (t first more : ByteArray) (b : Nat) (w : World) (hr : Rdr t b w) (ht : t.size ≤ 1000000) (hs : more.size ≤ 1000000) (hA : Ascii more.data.toList) (h0 : 0 < t.size) (hf : first.data.toList.contains t[0] = true) :
    Calls Tryd.prog 47 #[.pointer (some ⟨b, 0, none⟩), .string first, .string more] w fun e w' => e = .returned (.string (t.extract 0 (lead t more))) ∧ Rdr (cutL t more) b w' ∧ Only b w w' := by
  have he := eat_calls t more b w hr ht hs hA
  have hc := hr.cell
  have hz := toList_ne h0
  have hi := idx_in first.data.toList t[0]
  rw [hf] at hi
  clear hr hA hf
  go_enter Tryd.func47, Tryd.ntmps47
  go_wp2_with fail
  refine (Tryd.strings_IndexByte _ _ _).mono ?_
  rintro e w1 ⟨rfl, rfl⟩
  generalize Lib.indexByte first.data.toList ((t[0].toNat : Int).toNat.toUInt8) = i at *
  go_wp2_with fail
  refine (need_yes _).mono ?_
  rintro e w2 ⟨rfl, rfl⟩
  go_wp2_with fail
  refine he.mono ?_
  rintro e w3 ⟨rfl, h1, h2⟩
  go_wp2_with fail
  go_ret
  exact ⟨rfl, h1, h2⟩

theorem word_no (t first more : ByteArray) (b : Nat) (w : World) (hr : Rdr t b w) (h : t.size = 0 ∨ ∃ h0 : 0 < t.size, first.data.toList.contains t[0] = false) :
    Calls Tryd.prog 47 #[.pointer (some ⟨b, 0, none⟩), .string first, .string more] w fun e w' => e = .panicked missedP ∧ Only b w w' := by
  have hc := hr.cell
  clear hr
  rcases h with h | ⟨h0, h⟩
  · have hz := size_isEmpty h
    clear h
    go_enter Tryd.func47, Tryd.ntmps47
    go_wp2_with fail
    refine (need_no _).mono ?_
    rintro e w2 ⟨rfl, rfl⟩
    go_wp2_with fail
    exact ⟨rfl, rfl, Only.refl _ _⟩
  · have hz := toList_ne h0
    have hi := idx_in first.data.toList t[0]
    rw [h] at hi
    clear h
    go_enter Tryd.func47, Tryd.ntmps47
    go_wp2_with fail
    refine (Tryd.strings_IndexByte _ _ _).mono ?_
    rintro e w1 ⟨rfl, rfl⟩
    generalize Lib.indexByte first.data.toList ((t[0].toNat : Int).toNat.toUInt8) = i at *
    go_wp2_with fail
    refine (need_no _).mono ?_
    rintro e w2 ⟨rfl, rfl⟩
    go_wp2_with fail
    exact ⟨rfl, rfl, Only.refl _ _⟩

end Go.Proofs.YtjaidphlphncjaaDoor
