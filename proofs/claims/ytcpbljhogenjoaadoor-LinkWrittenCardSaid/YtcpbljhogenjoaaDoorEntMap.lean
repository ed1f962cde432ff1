/- Walks: class.entities (a map literal), class.Entity. -/
import Derived.Test.YtcpbljhogenjoaaDoorEscDef
import Derived.Test.YtcpbljhogenjoaaDoorHelp
import Derived.MapKept
import Derived.KernelRfl
namespace Go.Proofs.YtcpbljhogenjoaaDoor
set_option linter.unusedVariables false
set_option linter.unusedSimpArgs false
open Go Go.RowKit Go.Shelf Go.Lib

def entMk (p : (List UInt8 × Nat) × Nat) : MapEntry := { key := .string ⟨p.1.1.toArray⟩, val := .int .i64 (p.1.2 : Int), born := p.2 }
/-- the table's first k entries -/
def entA (k : Nat) : Array MapEntry := ((entL.zipIdx.take k).map entMk).toArray

theorem alloc_set (w : World) (o o' : Obj) : ({ (w.alloc o) with heap := (w.alloc o).heap.setIfInBounds w.heap.size o' } : World) = w.alloc o' := by
  simp only [World.alloc]
  congr 1
  apply Array.ext
  · simp
  · intro i h1 h2
    rw [Array.getElem_setIfInBounds]
    split
    · rename_i h; subst h; simp
    · rename_i h
      have : i < w.heap.size := by simp at h1; omega
      rw [Array.getElem_push_lt this, Array.getElem_push_lt this]
    · simp at h1 ⊢; omega

theorem ins_run (k : Nat) (key : ByteArray) (v : Int) (e1 : entA (k + 1) = (entA k).push { key := .string key, val := .int .i64 v, born := k }) (e2 : Instr.findNow .string (.string key) (entA k).toList 0 = some none) (w : World) :
    (Instr.mapUpdate 82 (.map (some w.heap.size)) (.string key) (.int .i64 v)).run Tryd.prog (w.alloc (.map (entA k) k)) = .ok () (w.alloc (.map (entA (k + 1)) (k + 1))) := by
  have hb : (w.alloc (.map (entA k) k)).heap[w.heap.size]? = some (.map (entA k) k) := heap_alloc_new w _
  simp [Instr.mapUpdate, run_underlying Tryd.underlying82, MapKept.run_getObj_map hb, MapKept.run_checkKey Tryd.underlying9 (k := .string key) trivial, MapKept.run_findKey Tryd.underlying9 e2, MapKept.run_setObj_map _ hb, Result.andThen]
  rw [e1]
  exact alloc_set w _ _

theorem make_run (w : World) : (Instr.makeMap 82 none).run Tryd.prog w = .ok (.map (some w.heap.size)) (w.alloc (.map (entA 0) 0)) := rfl

set_option maxHeartbeats 8000000 in
set_option maxRecDepth 100000 in
theorem entities_calls (w : World) :
    Calls Tryd.prog 58 #[] w fun e w' => e = .returned (.map (some w.heap.size)) ∧ w' = w.alloc (.map (entA 53) 53) := by
  have hm := make_run w
  have h0 := ins_run 0 ⟨#[97, 109, 112]⟩ 38 (by kernel_rfl) (by kernel_rfl) w
  have h1 := ins_run 1 ⟨#[108, 116]⟩ 60 (by kernel_rfl) (by kernel_rfl) w
  have h2 := ins_run 2 ⟨#[103, 116]⟩ 62 (by kernel_rfl) (by kernel_rfl) w
  have h3 := ins_run 3 ⟨#[113, 117, 111, 116]⟩ 34 (by kernel_rfl) (by kernel_rfl) w
  have h4 := ins_run 4 ⟨#[97, 112, 111, 115]⟩ 39 (by kernel_rfl) (by kernel_rfl) w
  have h5 := ins_run 5 ⟨#[110, 98, 115, 112]⟩ 160 (by kernel_rfl) (by kernel_rfl) w
  have h6 := ins_run 6 ⟨#[99, 111, 112, 121]⟩ 169 (by kernel_rfl) (by kernel_rfl) w
  have h7 := ins_run 7 ⟨#[114, 101, 103]⟩ 174 (by kernel_rfl) (by kernel_rfl) w
  have h8 := ins_run 8 ⟨#[116, 114, 97, 100, 101]⟩ 8482 (by kernel_rfl) (by kernel_rfl) w
  have h9 := ins_run 9 ⟨#[104, 101, 108, 108, 105, 112]⟩ 8230 (by kernel_rfl) (by kernel_rfl) w
  have h10 := ins_run 10 ⟨#[109, 100, 97, 115, 104]⟩ 8212 (by kernel_rfl) (by kernel_rfl) w
  have h11 := ins_run 11 ⟨#[110, 100, 97, 115, 104]⟩ 8211 (by kernel_rfl) (by kernel_rfl) w
  have h12 := ins_run 12 ⟨#[108, 115, 113, 117, 111]⟩ 8216 (by kernel_rfl) (by kernel_rfl) w
  have h13 := ins_run 13 ⟨#[114, 115, 113, 117, 111]⟩ 8217 (by kernel_rfl) (by kernel_rfl) w
  have h14 := ins_run 14 ⟨#[108, 100, 113, 117, 111]⟩ 8220 (by kernel_rfl) (by kernel_rfl) w
  have h15 := ins_run 15 ⟨#[114, 100, 113, 117, 111]⟩ 8221 (by kernel_rfl) (by kernel_rfl) w
  have h16 := ins_run 16 ⟨#[108, 97, 113, 117, 111]⟩ 171 (by kernel_rfl) (by kernel_rfl) w
  have h17 := ins_run 17 ⟨#[114, 97, 113, 117, 111]⟩ 187 (by kernel_rfl) (by kernel_rfl) w
  have h18 := ins_run 18 ⟨#[100, 101, 103]⟩ 176 (by kernel_rfl) (by kernel_rfl) w
  have h19 := ins_run 19 ⟨#[112, 108, 117, 115, 109, 110]⟩ 177 (by kernel_rfl) (by kernel_rfl) w
  have h20 := ins_run 20 ⟨#[116, 105, 109, 101, 115]⟩ 215 (by kernel_rfl) (by kernel_rfl) w
  have h21 := ins_run 21 ⟨#[100, 105, 118, 105, 100, 101]⟩ 247 (by kernel_rfl) (by kernel_rfl) w
  have h22 := ins_run 22 ⟨#[102, 114, 97, 99, 49, 50]⟩ 189 (by kernel_rfl) (by kernel_rfl) w
  have h23 := ins_run 23 ⟨#[115, 101, 99, 116]⟩ 167 (by kernel_rfl) (by kernel_rfl) w
  have h24 := ins_run 24 ⟨#[112, 97, 114, 97]⟩ 182 (by kernel_rfl) (by kernel_rfl) w
  have h25 := ins_run 25 ⟨#[109, 105, 100, 100, 111, 116]⟩ 183 (by kernel_rfl) (by kernel_rfl) w
  have h26 := ins_run 26 ⟨#[98, 117, 108, 108]⟩ 8226 (by kernel_rfl) (by kernel_rfl) w
  have h27 := ins_run 27 ⟨#[101, 117, 114, 111]⟩ 8364 (by kernel_rfl) (by kernel_rfl) w
  have h28 := ins_run 28 ⟨#[112, 111, 117, 110, 100]⟩ 163 (by kernel_rfl) (by kernel_rfl) w
  have h29 := ins_run 29 ⟨#[121, 101, 110]⟩ 165 (by kernel_rfl) (by kernel_rfl) w
  have h30 := ins_run 30 ⟨#[99, 101, 110, 116]⟩ 162 (by kernel_rfl) (by kernel_rfl) w
  have h31 := ins_run 31 ⟨#[108, 97, 114, 114]⟩ 8592 (by kernel_rfl) (by kernel_rfl) w
  have h32 := ins_run 32 ⟨#[114, 97, 114, 114]⟩ 8594 (by kernel_rfl) (by kernel_rfl) w
  have h33 := ins_run 33 ⟨#[117, 97, 114, 114]⟩ 8593 (by kernel_rfl) (by kernel_rfl) w
  have h34 := ins_run 34 ⟨#[100, 97, 114, 114]⟩ 8595 (by kernel_rfl) (by kernel_rfl) w
  have h35 := ins_run 35 ⟨#[97, 117, 109, 108]⟩ 228 (by kernel_rfl) (by kernel_rfl) w
  have h36 := ins_run 36 ⟨#[111, 117, 109, 108]⟩ 246 (by kernel_rfl) (by kernel_rfl) w
  have h37 := ins_run 37 ⟨#[117, 117, 109, 108]⟩ 252 (by kernel_rfl) (by kernel_rfl) w
  have h38 := ins_run 38 ⟨#[65, 117, 109, 108]⟩ 196 (by kernel_rfl) (by kernel_rfl) w
  have h39 := ins_run 39 ⟨#[79, 117, 109, 108]⟩ 214 (by kernel_rfl) (by kernel_rfl) w
  have h40 := ins_run 40 ⟨#[85, 117, 109, 108]⟩ 220 (by kernel_rfl) (by kernel_rfl) w
  have h41 := ins_run 41 ⟨#[115, 122, 108, 105, 103]⟩ 223 (by kernel_rfl) (by kernel_rfl) w
  have h42 := ins_run 42 ⟨#[101, 97, 99, 117, 116, 101]⟩ 233 (by kernel_rfl) (by kernel_rfl) w
  have h43 := ins_run 43 ⟨#[101, 103, 114, 97, 118, 101]⟩ 232 (by kernel_rfl) (by kernel_rfl) w
  have h44 := ins_run 44 ⟨#[99, 99, 101, 100, 105, 108]⟩ 231 (by kernel_rfl) (by kernel_rfl) w
  have h45 := ins_run 45 ⟨#[110, 116, 105, 108, 100, 101]⟩ 241 (by kernel_rfl) (by kernel_rfl) w
  have h46 := ins_run 46 ⟨#[97, 108, 112, 104, 97]⟩ 945 (by kernel_rfl) (by kernel_rfl) w
  have h47 := ins_run 47 ⟨#[98, 101, 116, 97]⟩ 946 (by kernel_rfl) (by kernel_rfl) w
  have h48 := ins_run 48 ⟨#[112, 105]⟩ 960 (by kernel_rfl) (by kernel_rfl) w
  have h49 := ins_run 49 ⟨#[105, 110, 102, 105, 110]⟩ 8734 (by kernel_rfl) (by kernel_rfl) w
  have h50 := ins_run 50 ⟨#[110, 101]⟩ 8800 (by kernel_rfl) (by kernel_rfl) w
  have h51 := ins_run 51 ⟨#[108, 101]⟩ 8804 (by kernel_rfl) (by kernel_rfl) w
  have h52 := ins_run 52 ⟨#[103, 101]⟩ 8805 (by kernel_rfl) (by kernel_rfl) w
  simp only [Nat.reduceAdd] at h0 h1 h2 h3 h4 h5 h6 h7 h8 h9 h10 h11 h12 h13 h14 h15 h16 h17 h18 h19 h20 h21 h22 h23 h24 h25 h26 h27 h28 h29 h30 h31 h32 h33 h34 h35 h36 h37 h38 h39 h40 h41 h42 h43 h44 h45 h46 h47 h48 h49 h50 h51 h52
  go_enter Tryd.func58, Tryd.ntmps58
  go_wp2
  go_ret
  exact ⟨rfl, rfl⟩

theorem find_list (name : ByteArray) : ∀ (l : List ((List UInt8 × Nat) × Nat)) (i : Nat), ∃ j, Instr.findNow .string (.string name) (l.map entMk) i = some (((l.find? fun p => p.1.1 == name.data.toList).map fun p => (j, .int .i64 (p.1.2 : Int))))
  | [], i => ⟨0, rfl⟩
  | p :: l, i => by
    have hk : (name == (⟨p.1.1.toArray⟩ : ByteArray)) = (p.1.1 == name.data.toList) := by
      show (name.data == p.1.1.toArray) = _
      rw [Bool.eq_iff_iff, beq_iff_eq, beq_iff_eq]
      constructor
      · intro h; rw [h]
      · intro h; apply Array.toList_inj.1; exact h.symm
    simp only [List.map_cons, Instr.findNow, entMk, Instr.sameNow, hk, List.find?_cons]
    cases (p.1.1 == name.data.toList) with
    | true => exact ⟨i, rfl⟩
    | false => exact find_list name l (i + 1)

theorem entA_all : (entA 53).toList = entL.zipIdx.map entMk := by kernel_rfl

theorem ent_zip (name : List UInt8) : ∀ (l : List (List UInt8 × Nat)) (n : Nat), ((l.zipIdx n).find? fun p => p.1.1 == name).map (fun p => p.1.2) = (l.find? fun p => p.1 == name).map (·.2)
  | [], _ => rfl
  | p :: l, n => by
    simp only [List.zipIdx_cons, List.find?_cons]
    cases (p.1 == name) with
    | true => rfl
    | false => exact ent_zip name l (n + 1)

/-- the table's answer -/
def entP (name : ByteArray) : Int × Bool := match entNum name.data.toList with | some v => ((v : Nat), true) | none => (0, false)

theorem look_run (name : ByteArray) (b : Nat) (w : World) (hb : w.heap[b]? = some (.map (entA 53) 53)) :
    (Instr.lookup 82 (.map (some b)) (.string name) true).run Tryd.prog w = .ok (.tuple #[.int .i64 (entP name).1, .bool (entP name).2]) w := by
  obtain ⟨j, hj⟩ := find_list name entL.zipIdx 0
  rw [← entA_all] at hj
  have hz := ent_zip name.data.toList entL 0
  have hzero : (zeroValue 3).run Tryd.prog w = .ok (.int .i64 0) w := Tryd.zeroValue3 w
  cases hf : (entL.zipIdx.find? fun p => p.1.1 == name.data.toList) with
  | none =>
    rw [hf] at hj hz
    have he : entP name = (0, false) := by unfold entP entNum; rw [← hz]; rfl
    simp [Instr.lookup, run_underlying Tryd.underlying82, MapKept.run_getObj_map hb, MapKept.run_checkKey Tryd.underlying9 (k := .string name) trivial, MapKept.run_findKey Tryd.underlying9 hj, hzero, Result.andThen, he]
  | some p =>
    rw [hf] at hj hz
    have he : entP name = (((p.1.2 : Nat) : Int), true) := by unfold entP entNum; rw [← hz]; rfl
    simp [Instr.lookup, run_underlying Tryd.underlying82, MapKept.run_getObj_map hb, MapKept.run_checkKey Tryd.underlying9 (k := .string name) trivial, MapKept.run_findKey Tryd.underlying9 hj, Result.andThen, he]

set_option maxRecDepth 100000 in
theorem classEntity_calls (name : ByteArray) (w : World) :
    Calls Tryd.prog 43 #[.string name] w fun e w' => e = .returned (.tuple #[.int .i64 (entP name).1, .bool (entP name).2]) ∧ Below w.heap.size w w' := by
  have hl := look_run name w.heap.size (w.alloc (.map (entA 53) 53)) (heap_alloc_new w _)
  have he := entities_calls w
  generalize entP name = q at *
  go_enter Tryd.func43, Tryd.ntmps43
  go_wp2_with fail
  refine he.mono ?_
  rintro e w1 ⟨rfl, rfl⟩
  go_wp2_with fail
  go_ret2
  exact ⟨rfl, (Below.refl _ _).alloc (Nat.le_refl _) _⟩

end Go.Proofs.YtcpbljhogenjoaaDoor
