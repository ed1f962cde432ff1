/- Walk: tag.Open: the deferred closure that recovers, and what is left. -/
import Derived.Test.YtjaidphlphncjaaDoorTagOpen
namespace Go.Proofs.YtjaidphlphncjaaDoor
set_option linter.unusedVariables false
set_option linter.unusedSimpArgs false
open Go Go.RowKit Go.Lib

set_option maxRecDepth 100000 in
theorem catch_panicking (p : Addr) (x : Value) (w : World) (hc : w.cell? p = some x) (hz : w.frozen? p = false) :
    CallsD Tryd.prog 23 #[.pointer (some p)] (.panicking missedP) w fun e u' w' =>
      e = .returned (.tuple #[]) ∧ u' = .panicking [{ v := .iface 37 (.agg #[]), recovered := true }] ∧ w' = w.setCell p (.int .i64 0) := by
  unfold missedP
  have hta : ∀ w : World, (Instr.typeAssert (.iface 37 (.agg #[])) 20 37 false).run Tryd.prog w = .ok (.agg #[]) w := fun w => by kernel_rfl
  refine callsD_of_wpS Tryd.func23 rfl fun c₀ cs hu => ?_
  apply wpS_seq
  apply wpS_region
  simp [wpOpsS, go_sem, recoverD, hu, Tryd.ntmps23, Exit.thenS]
  apply wpS_seq
  apply wpS_region
  simp [wpOpsS, go_sem, Exit.thenS]
  refine wpS_cond (t := true) (by simp [Act.eval, Array.replicate]) ?_
  simp only [if_true]
  apply wpS_seq
  apply wpS_region
  simp [wpOpsS, go_sem, Exit.thenS, hta]
  apply wpS_region
  simp [wpOpsS, go_sem, hc, hz, bodyPostS, results, Tryd.results23]

set_option maxRecDepth 100000 in
theorem catch_idle (p : Addr) (w : World) :
    CallsD Tryd.prog 23 #[.pointer (some p)] .returning w fun e u' w' => e = .returned (.tuple #[]) ∧ u' = .returning ∧ w' = w := by
  refine callsD_of_wpS Tryd.func23 rfl fun c₀ cs hu => ?_
  apply wpS_seq
  apply wpS_region
  simp [wpOpsS, go_sem, recoverD, hu, Tryd.ntmps23, Exit.thenS]
  apply wpS_seq
  apply wpS_region
  simp [wpOpsS, go_sem, Exit.thenS]
  refine wpS_cond (t := false) (by simp [Act.eval, Array.replicate]) ?_
  simp only [Bool.false_eq_true, if_false]
  refine wpS_of_wp (wp_skip ?_)
  cases c₀
  simp_all [bodyPostS, results, Tryd.results23]

theorem tail_all (s : ByteArray) : s.extract 0 s.size = s := by
  apply ba_ext
  rw [tail_data, List.drop_zero]

/-- how many bytes the tag has with which a text begins -/
def openN (s : ByteArray) : Nat := (openF s).getD 0

theorem closeF_bd (s : ByteArray) (a k : Nat) (h : closeF s a = some k) : 1 ≤ k ∧ k ≤ s.size ∧ k = a + 1 ∧ byteU s a = 62 := by
  unfold closeF at h
  split at h
  · rename_i hc
    simp only [Option.some.injEq] at h
    exact ⟨by omega, by omega, by omega, hc.2⟩
  · cases h

theorem openF_bd (s : ByteArray) (k : Nat) (h : openF s = some k) : 1 ≤ k ∧ k ≤ s.size := by
  unfold openF at h
  simp only [] at h
  split at h
  · split at h
    · split at h
      · have := closeF_bd s _ _ h; omega
      · obtain ⟨p, _, h2⟩ := Option.bind_eq_some_iff.1 h
        have := closeF_bd s _ _ h2; omega
    · cases h
  · cases h

set_option maxHeartbeats 2000000 in
set_option maxRecDepth 100000 in
theorem Open_calls (s : ByteArray) (w : World) (hM : MaxL w) (hs : s.size ≤ 1000000) (hw : 0 < w.heap.size) :
    Calls Tryd.prog 11 #[.string s] w fun e w' => e = .returned (.int .i64 (openN s : Nat)) ∧ Below w.heap.size w w' := by
  have hmf : ∀ (fn : Fn) (first cap : Array Value) (w : World), (Instr.makeFunc fn first cap).run Tryd.prog w = .ok (.func fn first cap) w := fun _ _ _ _ => rfl
  have HM := Lib.hid hM
  clear hM
  go_enter_defers Tryd.func11, Tryd.ntmps11
  go_wp2_with fail
  have hB := ((Below.refl w.heap.size w).alloc (Nat.le_refl _) (Obj.cells #[Value.int .i64 0] 3)).alloc (by simp) (Obj.cells #[Value.string s] 40)
  have K := (Go.RowKit.Below.heap_alloc (w.alloc (Obj.cells #[Value.int .i64 0] 3)) (Obj.cells #[Value.string s] 40) w.heap.size (by simp)).trans (heap_alloc_new w _)
  have R := heap_alloc_new (w.alloc (Obj.cells #[Value.int .i64 0] 3)) (Obj.cells #[Value.string s] 40)
  rw [World.size_alloc] at R
  have RA : At s 0 (w.heap.size + 1) ((w.alloc (Obj.cells #[Value.int .i64 0] 3)).alloc (Obj.cells #[Value.string s] 40)) := by
    unfold At
    rw [tail_all]; exact R
  clear R
  generalize (w.alloc (Obj.cells #[Value.int .i64 0] 3)).alloc (Obj.cells #[Value.string s] 40) = W at *
  have hM2 := HM.out.below hB hw
  refine (open_calls s (w.heap.size + 1) W RA hM2 (by omega) hs).mono ?_
  rintro e w2 ⟨hG, O⟩
  have hG' : (match openF s with | none => e = .panicked missedP | some k => e = .returned (.tuple #[]) ∧ At s k (w.heap.size + 1) w2) := hG
  have K2 := O.blk K (by omega)
  have B2 : Below w.heap.size w w2 := hB.trans (O.below.mono (by omega))
  clear hG RA hB O K hM2
  obtain ⟨r, hval⟩ : ∃ r, openF s = r := ⟨_, rfl⟩
  have hres : Hid (openN s = r.getD 0) := by show _ = _; unfold openN; rw [hval]
  rw [hval] at hG'
  cases r with
  | none =>
    obtain rfl : e = .panicked missedP := hG'
    clear hval
    have c2 := blk_cell K2 0
    have f2 := blk_free K2 0
    simp at c2
    go_wp2_with fail
    refine leaves_cons (f := 23) (args := #[.pointer (some ⟨w.heap.size, 0, none⟩)]) (by simp) (by simp [go_sem]) ?_
    refine (catch_panicking ⟨w.heap.size, 0, none⟩ _ w2 c2 f2).mono ?_
    rintro e u' w'' ⟨rfl, rfl, rfl⟩
    simp [Leaves, settle, results, Tryd.results11, go_sem, c2]
    exact ⟨by rw [hres.out]; rfl, below_set B2 _⟩
  | some k =>
    obtain ⟨rfl, R2⟩ : e = .returned (.tuple #[]) ∧ At s k (w.heap.size + 1) w2 := hG'
    have hk := openF_bd s k hval
    have c3 := Rdr.cell R2
    have c2 := blk_cell K2 0
    have f2 := blk_free K2 0
    simp at c2
    have hsz := Lib.tail_size s k
    have e1 := IntWalk.i64_in ((s.size : Int) - ((s.size - k : Nat) : Int)) (by omega)
    clear hval
    go_wp2_with fail
    refine leaves_cons (f := 23) (args := #[.pointer (some ⟨w.heap.size, 0, none⟩)]) (by simp) (by simp [go_sem]) ?_
    refine (catch_idle ⟨w.heap.size, 0, none⟩ _).mono ?_
    rintro e u' w'' ⟨rfl, rfl, rfl⟩
    simp [Leaves, settle, results, Tryd.results11, go_sem, c2]
    exact ⟨by rw [hres.out]; show _ = ((k : Nat) : Int); omega, below_set B2 _⟩

end Go.Proofs.YtjaidphlphncjaaDoor
