/- Walks: mark's small functions: row, empty, ends, Quote, Under. -/
import Derived.Test.YtngikakigkfbnaaDoorMarkDef
import Derived.Test.YtngikakigkfbnaaDoorCutMark
import Derived.Test.YtngikakigkfbnaaDoorShelf
import Derived.Shelf.Strings.SlTrimAscii
import Derived.Handy
import Derived.Deep.LoopGhost
namespace Go.Proofs.YtngikakigkfbnaaDoor
set_option linter.unusedVariables false
set_option linter.unusedSimpArgs false
open Go Go.RowKit Go.Lib

theorem row_calls (s set : ByteArray) (w : World) (hs : s.size ≤ 1000000) (ht : set.size ≤ 1000000) (hA : Ascii set.data.toList) :
    Calls Tryd.prog 26 #[.string s, .string set] w fun e w' => e = .returned (.int .i64 (lead s set : Nat)) ∧ Below w.heap.size w w' := by
  have HA := Lib.hid hA
  have HR := Lib.hid (row_eq s set hs)
  clear hA
  go_enter Tryd.func26, Tryd.ntmps26
  go_wp2_with fail
  refine (markCutLeft_calls s set _ hs ht HA.out).mono ?_
  rintro e w1 ⟨rfl, hb⟩
  go_wp2_with fail
  go_ret
  exact ⟨ret_int HR.out, hb⟩

theorem info256 : (Tryd.prog.info? (Tryd.lays160_ren.t 116)).map (fun i => (i.zero, i.size)) = some (some (.agg (Array.replicate 256 (.bool false))), 256) := by kernel_rfl

theorem Trim_calls (s set : ByteArray) (w : World) (hs : s.size ≤ 1000000) (ht : set.size ≤ 1000000) (hA : Ascii set.data.toList) :
    Calls Tryd.prog 34 #[.string s, .string set] w fun e w' => e = .returned (.string (trimB s set)) ∧ Below w.heap.size w w' :=
  Any.strings_Trim_laid Tryd.lays160 info256 s set w (by omega) (by omega) (ascii_at hA)

theorem TrimRight_calls (s set : ByteArray) (w : World) (hs : s.size ≤ 1000000) (ht : set.size ≤ 1000000) (hA : Ascii set.data.toList) :
    Calls Tryd.prog 31 #[.string s, .string set] w fun e w' => e = .returned (.string (trimR s set)) ∧ Below w.heap.size w w' :=
  Any.strings_TrimRight_laid Tryd.lays162 (by kernel_rfl) s set w (by omega) (by omega) (ascii_at hA)

theorem empty_calls (s : ByteArray) (w : World) (hs : s.size ≤ 1000000) :
    Calls Tryd.prog 27 #[.string s] w fun e w' => e = .returned (.bool (emptyB s)) ∧ Below w.heap.size w w' := by
  go_enter Tryd.func27, Tryd.ntmps27
  go_wp2_with fail
  refine (Trim_calls s blanksT _ hs (by decide) blanks_ascii).mono ?_
  rintro e w1 ⟨rfl, hb⟩
  go_wp2_with fail
  go_outline
  go_ret
  exact ⟨rfl, hb⟩

theorem ends_calls (s : ByteArray) (w : World) (hs : s.size ≤ 1000000) :
    Calls Tryd.prog 30 #[.string s] w fun e w' => e = .returned (.bool (endsB s)) ∧ Below w.heap.size w w' := by
  by_cases h0 : s.size = 0
  · have hl := toList_nil h0
    have hr : Hid (endsB s = true) := by show _ = _; unfold endsB; rw [hl]; rfl
    clear h0
    go_enter Tryd.func30, Tryd.ntmps30
    go_wp2_with fail
    go_ret
    exact ⟨by rw [hr.out]; rfl, Below.refl _ _⟩
  · have hl := toList_ne (s := s) (by omega)
    have hr : Hid (endsB s = decide (0 < lead s blanksT)) := by show _ = _; unfold endsB; rw [hl]; rfl
    clear h0
    go_enter Tryd.func30, Tryd.ntmps30
    go_wp2_with fail
    refine (row_calls s blanksT _ hs (by decide) blanks_ascii).mono ?_
    rintro e w1 ⟨rfl, hb⟩
    go_wp2_with fail
    go_ret
    exact ⟨by rw [hr.out]; rfl, hb⟩

theorem Quote_calls (s : ByteArray) (w : World) :
    Calls Tryd.prog 13 #[.string s] w fun e w' => e = .returned (.bool (Lib.hasPrefix s.data.toList [62])) ∧ Below w.heap.size w w' := by
  go_enter Tryd.func13, Tryd.ntmps13
  go_wp2_with fail
  refine (Tryd.strings_HasPrefix s ⟨#[62]⟩ _).mono ?_
  rintro e w1 ⟨rfl, rfl⟩
  go_wp2_with fail
  go_ret
  exact ⟨rfl, Below.refl _ _⟩

end Go.Proofs.YtngikakigkfbnaaDoor
