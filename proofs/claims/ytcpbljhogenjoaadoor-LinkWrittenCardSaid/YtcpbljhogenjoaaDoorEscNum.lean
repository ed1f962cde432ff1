/- Walks: strconv.ParseInt, escape.numeric. -/
import Derived.Test.YtcpbljhogenjoaaDoorEscParse
import Derived.Test.YtcpbljhogenjoaaDoorLinkC
namespace Go.Proofs.YtcpbljhogenjoaaDoor
set_option linter.unusedVariables false
set_option linter.unusedSimpArgs false
open Go Go.RowKit Go.Shelf Go.Lib

/-- strconv.ErrSyntax holds an error -/
def ErrS (w : World) : Prop := ∃ ev, w.cell? ⟨3, 0, none⟩ = some ev ∧ (ev = .nilIface ∨ ∃ te pe, ev = .iface te pe)
/-- what the walks of escape and link ask of the world -/
def EnvE (w : World) : Prop := Tabs w ∧ ErrS w ∧ 3 < w.heap.size
theorem EnvE.below {w w' : World} (h : EnvE w) (hb : Below w.heap.size w w') : EnvE w' := by
  obtain ⟨h1, ⟨ev, h2, h3⟩, h4⟩ := h
  refine ⟨h1.below hb, ⟨ev, (hb.cell (p := ⟨3, 0, none⟩) h4).trans h2, h3⟩, Nat.lt_of_lt_of_le h4 hb.size⟩
theorem EnvE.le {B : Nat} {w w' : World} (h : EnvE w) (hb : Below B w w') (hB : w.heap.size ≤ B) : EnvE w' := h.below (hb.mono hB)

set_option maxHeartbeats 2000000 in
set_option maxRecDepth 100000 in
theorem pInt0 (t : ByteArray) (h0 : 0 < t.size) (hc : 48 ≤ t[0].toNat) (B : Int) (V : Nat) (hV : V ≤ 268435455)
    (hU : ∀ w, Calls Tryd.prog 74 #[.string t, .int .i64 B, .int .i64 64] w fun e w' => e = .returned (.tuple #[.int .u64 (V : Nat), .nilIface]) ∧ Below w.heap.size w w') (w : World) :
    Calls Tryd.prog 69 #[.string t, .int .i64 B, .int .i64 64] w fun e w' => e = .returned (.tuple #[.int .i64 (V : Nat), .nilIface]) ∧ Below w.heap.size w w' := by
  have hemp : t.toList.isEmpty = false := toList_ne h0
  have g0 : (0 : Int) < (t.size : Int) := by omega
  have d1 : ((t[0].toNat : Int) == 43) = false := beq_eq_false_iff_ne.2 (by omega)
  have d2 : ((t[0].toNat : Int) == 45) = false := beq_eq_false_iff_ne.2 (by omega)
  have v0 : (0 : Int) ≤ (V : Int) := by omega
  have v1 : (V : Int) ≤ 268435455 := by omega
  have e1 : IntKind.i64.wrap (V : Int) = (V : Int) := IntWalk.i64_in _ (by omega)
  have d3 : decide ((9223372036854775808 : Int) ≤ (V : Int)) = false := decide_eq_false (by omega)
  clear hV
  generalize (V : Int) = r at *
  go_enter Tryd.func69, Tryd.ntmps69
  go_wp2_with fail
  refine (hU _).mono ?_
  rintro e w1 ⟨rfl, hB⟩
  go_wp2_with fail
  go_ret2
  exact ⟨rfl, hB⟩

set_option maxHeartbeats 2000000 in
set_option maxRecDepth 100000 in
theorem pInt (t : ByteArray) (B : Int) (r : Int)
    (hU : ∀ w, Calls Tryd.prog 69 #[.string t, .int .i64 B, .int .i64 64] w fun e w' => e = .returned (.tuple #[.int .i64 r, .nilIface]) ∧ Below w.heap.size w w') (w : World) :
    Calls Tryd.prog 56 #[.string t, .int .i64 B, .int .i64 64] w fun e w' => e = .returned (.tuple #[.int .i64 r, .nilIface]) ∧ Below w.heap.size w w' := by
  go_enter Tryd.func56, Tryd.ntmps56
  go_wp2_with fail
  refine (hU _).mono ?_
  rintro e w1 ⟨rfl, hB⟩
  go_wp2_with fail
  go_ret2
  exact ⟨rfl, hB⟩

set_option maxHeartbeats 2000000 in
set_option maxRecDepth 100000 in
theorem pIntNo (B : Int) (w : World) (hE : EnvE w) :
    Calls Tryd.prog 56 #[.string ⟨#[]⟩, .int .i64 B, .int .i64 64] w fun e w' => (∃ p : Value, e = .returned (.tuple #[.int .i64 0, .iface 100 p])) ∧ Below w.heap.size w w' := by
  obtain ⟨_, ⟨ev, he1, he2⟩, _⟩ := hE
  have hE1 := Lib.hid he1
  clear he1
  have hq := fun w => Tryd.internal_strconv_ParseInt_empty B 64 w
  go_enter Tryd.func56, Tryd.ntmps56
  go_wp2_with fail
  refine (hq _).mono ?_
  rintro e w1 ⟨rfl, rfl⟩
  go_wp2_with fail
  refine (Tryd.strconv_toError_syntax _ _ _ _ ev _ (by decide) hE1.out he2).mono ?_
  rintro e w2 ⟨N, rfl, _, _, hB⟩
  go_wp2_with fail
  go_ret2
  exact ⟨⟨_, rfl⟩, hB⟩

/-- ParseInt over digits of a base, at most seven -/
theorem pIntX (x : Bool) (t : ByteArray) (h0 : 0 < t.size) (h7 : t.size ≤ 7) (hd : ∀ c ∈ t.data.toList, digIn x c = true) (w : World) :
    Calls Tryd.prog 56 #[.string t, .int .i64 (baseOf x : Nat), .int .i64 64] w fun e w' => e = .returned (.tuple #[.int .i64 (valB (baseOf x) t.data.toList : Nat), .nilIface]) ∧ Below w.heap.size w w' := by
  have hc : 48 ≤ t[0].toNat := by
    have h1 := hd t[0] (by
      have : t[0] = t.data.toList[0]'(by rw [lst_size]; exact h0) := rfl
      rw [this]; exact List.getElem_mem _)
    cases x with
    | false => exact ((digU_iff _).1 h1).1
    | true =>
      cases h2 : digU t[0] with
      | true => exact ((digU_iff _).1 h2).1
      | false => have := hex_let _ h1 h2; omega
  have hs := valB_small x t.data.toList (by rw [lst_size]; exact h7) hd
  refine pInt t _ _ (pInt0 t h0 hc _ _ hs (fun w => ?_)) w
  cases x with
  | false => exact parseUint10 t (by omega) h7 hd w
  | true => exact parseUint16 t (by omega) h7 hd w

end Go.Proofs.YtcpbljhogenjoaaDoor
