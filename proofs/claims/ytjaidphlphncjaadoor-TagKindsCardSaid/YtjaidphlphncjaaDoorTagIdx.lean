/- Walks: strings.IndexRune at a rune beyond ASCII in an ASCII text, strings.IndexAny with the ends of a bare value, for every text. -/
import Derived.Test.YtjaidphlphncjaaDoorTagA
import Derived.Deep.LoopGhost
import Derived.Lib.IndexAny
import Derived.Laws.Runes
import Derived.BigQuiet
import Derived.Deep.QuietTactic
namespace Go.Proofs.YtjaidphlphncjaaDoor
set_option linter.unusedVariables false
set_option linter.unusedSimpArgs false
open Go Go.RowKit Go.Lib

theorem encode_far (r : Int) (h : 128 ≤ r) : ∃ k, (Utf8.encode r).size = k + 1 ∧ 1 ≤ k ∧ k ≤ 3 ∧ ∀ hk : k < (Utf8.encode r).size, 128 ≤ (Utf8.encode r)[k].toNat := by
  have hc : 128 ≤ (if Utf8.valid r = true then r.toNat else Utf8.runeError) := by
    split
    · omega
    · decide
  unfold Utf8.encode
  generalize (if Utf8.valid r = true then r.toNat else Utf8.runeError) = c at *
  simp only []
  split
  · omega
  split
  · refine ⟨1, rfl, by omega, by omega, fun hk => ?_⟩
    show 128 ≤ (UInt8.ofNat (128 + c % 64)).toNat
    simp; omega
  · split
    · refine ⟨2, rfl, by omega, by omega, fun hk => ?_⟩
      show 128 ≤ (UInt8.ofNat (128 + c % 64)).toNat
      simp; omega
    · refine ⟨3, rfl, by omega, by omega, fun hk => ?_⟩
      show 128 ≤ (UInt8.ofNat (128 + c % 64)).toNat
      simp; omega

theorem idx_none (l : List UInt8) (c : UInt8) (h : ∀ x ∈ l, x ≠ c) : Lib.indexByte l c = -1 := by
  induction l with
  | nil => rfl
  | cons b t ih =>
    unfold Lib.indexByte
    have hb : (b == c) = false := by simpa using h b (List.mem_cons_self ..)
    rw [hb, ih (fun x hx => h x (List.mem_cons_of_mem _ hx))]; rfl

theorem low_at (s : ByteArray) (hA : Ascii s.data.toList) (i : Nat) (h : i < s.size) : s[i].toNat < 128 :=
  hA _ (List.getElem_mem (l := s.data.toList) (n := i) (by rw [lst_size]; exact h))

set_option maxHeartbeats 2000000 in
set_option maxRecDepth 100000 in
theorem IndexRune_far (s : ByteArray) (r : Int) (w : World) (hs : s.size ≤ 1000) (h4 : 4 ≤ s.size) (hA : Ascii s.data.toList) (h : 128 ≤ r) :
    Calls Tryd.prog 91 #[.string s, .int .i32 r] w fun e w' => e = .returned (.int .i64 (-1)) ∧ Below w.heap.size w w' := by
  have HA := Lib.hid hA
  have c1 : decide ((0 : Int) ≤ r) = true := decide_eq_true (by omega)
  have c2 : decide (r < 128) = false := decide_eq_false (by omega)
  clear hA
  by_cases he : r = 65533
  · subst he
    go_enter Tryd.func91, Tryd.ntmps91
    go_wp2_with fail
    go_loopw [5, 6] (fun _ _ wr => ∃ j : Nat, j ≤ s.size ∧ Hid (wr.heap[w.heap.size]? = some (.stringIter s j)) ∧ Below w.heap.size w wr) (fun _ _ wr => s.size - wr.iterPos w.heap.size)
    case atStart => exact ⟨0, Nat.zero_le _, World.iter_heap w s 0, (Below.refl _ _).alloc (Nat.le_refl _) _⟩
    case round =>
      obtain ⟨j, hj, hit, hb⟩ := hrel
      by_cases hp : j < s.size
      · have hasc : (s[j]).toNat < 128 := low_at s HA.out j hp
        have hnx : ∀ ty, (Instr.next (.pointer (some ⟨w.heap.size, 0, none⟩)) true ty).run Tryd.prog wr = _ := fun ty => run_next_ascii_at wr w.heap.size s j ty hit.out hp hasc
        have he : (((s[j].toNat : Nat) : Int) == 65533) = false := by simp; omega
        have hme : s.size - (wr.iterAt w.heap.size s (j + 1)).iterPos w.heap.size < s.size - wr.iterPos w.heap.size := by
          rw [iterPos_of' hit.out, iterPos_of' (iterAt_heap wr w.heap.size s j (j + 1) hit.out)]; omega
        have Hme := Lib.hid hme
        have Hr := Lib.hid (show _ ∧ _ from ⟨iterAt_heap wr w.heap.size s j (j + 1) hit.out, below_iterAt hb (Nat.le_refl _) s (j + 1)⟩)
        clear hme hit hb
        go_wp2
        exact ⟨⟨j + 1, by omega, Hr.out.1, Hr.out.2⟩, Hme.out⟩
      · have hnx : ∀ ty, (Instr.next (.pointer (some ⟨w.heap.size, 0, none⟩)) true ty).run Tryd.prog wr = _ := fun ty => run_next_end_at wr w.heap.size s j ty hit.out hp
        clear hit
        go_wp2
        go_ret
        exact ⟨rfl, hb⟩
  · have c3 : (r == 65533) = false := by simpa using he
    obtain ⟨k, k1, k2, k3, k4⟩ := encode_far r h
    have hcv : ∀ w : World, (convert 21 9 (.int .i32 r)).run Tryd.prog w = .ok (.string (Utf8.encode r)) w := fun w => run_convert_int_string w 21 9 .i32 r (by rw [Tryd.underlying21]; rfl) Tryd.underlying9
    go_enter Tryd.func91, Tryd.ntmps91
    go_wp2_with fail
    refine (Tryd.utf8_ValidRune r _).mono ?_
    rintro e w1 ⟨rfl, rfl⟩
    generalize hE : Utf8.encode r = E at *
    have HE := Lib.hid hE
    clear hE
    cases hv : Lib.validRune r with
    | false =>
      go_wp2_with fail
      go_ret
      exact ⟨rfl, Below.refl _ _⟩
    | true =>
      have e1 := IntWalk.i64_in ((E.size : Int) - 1) (by omega)
      have kE : (E.size : Int) - 1 = (k : Int) := by omega
      have hkE : k < E.size := by omega
      have hks : k < s.size := by omega
      have x1 := low_at s HA.out k hks
      have x2 := k4 hkE
      have hne : ((s[k].toNat : Int) != (E[k].toNat : Int)) = true := by simp; omega
      have hno : Lib.indexByte (List.take (s.size - (k + 1)) (List.drop (k + 1) s.data.toList)) E[k] = -1 := by
        refine idx_none _ _ (fun x hx he => ?_)
        have := HA.out x (List.mem_of_mem_drop (List.mem_of_mem_take hx))
        rw [he] at this; omega
      have q1 := IntWalk.i64_in ((k : Int) + 1) (by omega)
      have q2 : (k : Int) + 1 ≤ (s.size : Int) := by omega
      have q3 : (0 : Int) ≤ (k : Int) + 1 := by omega
      have q4 : ((k : Int) + 1).toNat = k + 1 := by omega
      have q5 : (k : Int) < (E.size : Int) := by omega
      have q6 : (k : Int) < (s.size : Int) := by omega
      clear k4 x1 x2
      go_wp2_with fail
      go_step3
      go_wp2_with fail
      refine wp_loop_rounds 2 ?_
      rw [rounds_succ]
      go_wp2_with fail
      go_step3
      go_wp2_with fail
      have j0 : (0 : Int) ≤ (k : Int) := by omega
      clear k1 kE e1 hcv
      go_quiet (fail)
      go_wp2_with fail
      have hB : Below w1.heap.size w1 (w1.drewN nq) := below_drewN (Below.refl _ _) nq
      generalize w1.drewN nq = w2 at *
      go_region_held3 (fun wx => Below w2.heap.size w2 wx) (first | exact (Below.refl _ _).drew | exact Below.trans (by assumption) (Below.mono (by assumption) (Below.size (by assumption))))
        (first | (go_at_call 44; refine (Tryd.strings_IndexByte _ _ _).mono ?_; rintro e w3 ⟨rfl, rfl⟩))
      go_wp2_with fail
      rw [Exit.noGoto_ret]
      go_wp2_with fail
      rw [Exit.noGoto_ret]
      simp only [Exit.inBlock]
      go_wp2_with fail
      go_ret
      have hC : Below w2.heap.size w2 w2.drew := by assumption
      exact ⟨rfl, hB.trans (hC.mono hB.size)⟩

theorem decode_bytes (s : ByteArray) (p : Nat) (hp : p < s.size) (h : 128 ≤ (s.get! p).toNat) : ∀ k, k < (Utf8.decode s p).2 → p + k < s.size ∧ 128 ≤ (s.get! (p + k)).toNat := by
  unfold Utf8.decode
  simp only [Nat.add_zero, Bool.and_eq_true, decide_eq_true_eq, beq_iff_eq]
  have d64 : ∀ n : Nat, n / 64 = 2 → 128 ≤ n := fun n hn => by omega
  split
  · omega
  split
  · rename_i h1 h2
    split
    · intro k hk
      have hk' : k = 0 ∨ k = 1 := by simp only [] at hk; omega
      rcases hk' with rfl | rfl
      · exact ⟨hp, h⟩
      · exact ⟨h2.2.1, d64 _ h2.2.2⟩
    · intro k hk
      have hk' : k = 0 := by simp only [] at hk; omega
      subst hk'; exact ⟨hp, h⟩
  split
  · rename_i h1 h2 h3
    split
    · intro k hk
      have hk' : k = 0 ∨ k = 1 ∨ k = 2 := by simp only [] at hk; omega
      rcases hk' with rfl | rfl | rfl
      · exact ⟨hp, h⟩
      · exact ⟨h3.1.2.1, d64 _ h3.1.2.2⟩
      · exact ⟨h3.2.1, d64 _ h3.2.2⟩
    · intro k hk
      have hk' : k = 0 := by simp only [] at hk; omega
      subst hk'; exact ⟨hp, h⟩
  split
  · rename_i h1 h2 h3 h4
    split
    · intro k hk
      have hk' : k = 0 ∨ k = 1 ∨ k = 2 ∨ k = 3 := by simp only [] at hk; omega
      rcases hk' with rfl | rfl | rfl | rfl
      · exact ⟨hp, h⟩
      · exact ⟨h4.1.1.2.1, d64 _ h4.1.1.2.2⟩
      · exact ⟨h4.1.2.1, d64 _ h4.1.2.2⟩
      · exact ⟨h4.2.1, d64 _ h4.2.2⟩
    · intro k hk
      have hk' : k = 0 := by simp only [] at hk; omega
      subst hk'; exact ⟨hp, h⟩
  · intro k hk
    have hk' : k = 0 := by simp only [] at hk; omega
    subst hk'; exact ⟨hp, h⟩

theorem noAny_add {l cs : List UInt8} {i : Nat} (h : Lib.NoAny l cs i) : ∀ n, (∀ k, k < n → ∃ x, l[i + k]? = some x ∧ cs.contains x = false) → Lib.NoAny l cs (i + n) := by
  intro n
  induction n with
  | zero => intro _; exact h
  | succ n ih =>
    intro hk
    obtain ⟨x, hx, hc⟩ := hk n (by omega)
    exact (ih (fun k hk' => hk k (by omega))).succ hx hc

theorem far_not (cs : List UInt8) (hA : Ascii cs) (x : UInt8) (h : 128 ≤ x.toNat) : cs.contains x = false := by
  rw [List.contains_eq_mem]
  simp only [decide_eq_false_iff_not]
  intro hm
  have := hA x hm; omega

theorem some_at (s : ByteArray) (i : Nat) (h : i < s.size) : s.data.toList[i]? = some s[i] := by
  rw [List.getElem?_eq_getElem (by rw [lst_size]; exact h)]; rfl

set_option maxHeartbeats 2000000 in
set_option maxRecDepth 100000 in
theorem IndexAny_short (s c : ByteArray) (w : World) (hs : s.size ≤ 8) (hc4 : 4 ≤ c.size) (hc : c.size ≤ 1000) (hA : Ascii c.data.toList) :
    Calls Tryd.prog 88 #[.string s, .string c] w fun e w' => e = .returned (.int .i64 (Lib.indexAny s.data.toList c.data.toList)) ∧ Below w.heap.size w w' := by
  have HA := Lib.hid hA
  clear hA
  have hne := toList_ne (s := c) (by omega)
  have h1 : ((c.size : Int) == 1) = false := by simp; omega
  have h8 : decide ((8 : Int) < (s.size : Int)) = false := decide_eq_false (by omega)
  go_enter Tryd.func88, Tryd.ntmps88
  go_wp2_with fail
  refine (Tryd.strings_shouldUseASCIISet _ _).mono ?_
  rintro e w1 ⟨rfl, rfl⟩
  rw [h8]
  go_wp2_with fail
  go_loopw [9, 10] (fun _ _ wr => ∃ pos : Nat, pos ≤ s.size ∧ Hid (Lib.NoAny s.data.toList c.data.toList pos) ∧ Hid (wr.heap[w1.heap.size]? = some (.stringIter s pos)) ∧ Below w1.heap.size w1 wr) (fun _ _ wr => s.size - wr.iterPos w1.heap.size)
  case atStart => exact ⟨0, Nat.zero_le _, Lib.NoAny.zero _ _, World.iter_heap w1 s 0, (Below.refl _ _).alloc (Nat.le_refl _) _⟩
  case round =>
    obtain ⟨wo, rfl⟩ : ∃ wo : World, wo = wr := ⟨_, rfl⟩
    obtain ⟨pos, hpos, hno, hit, hb⟩ := hrel
    have hm := Lib.hid (iterPos_of' hit.out)
    by_cases hp : pos < s.size
    · have hx := some_at s pos hp
      by_cases ha : (s[pos]).toNat < 128
      · have hnx : ∀ ty, (Instr.next (.pointer (some ⟨w1.heap.size, 0, none⟩)) true ty).run Tryd.prog wo = _ := fun ty => run_next_ascii_at wo w1.heap.size s pos ty hit.out hp ha
        have Hx := Lib.hid hx
        have hi := idx_in c.data.toList s[pos]
        have Hr := Lib.hid (show _ ∧ _ from ⟨iterAt_heap wo w1.heap.size s pos (pos + 1) hit.out, below_iterAt hb (Nat.le_refl _) s (pos + 1)⟩)
        have Hme : Hid (s.size - (wo.iterAt w1.heap.size s (pos + 1)).iterPos w1.heap.size < s.size - wo.iterPos w1.heap.size) := by
          show _ < _
          rw [iterPos_of' hit.out, iterPos_of' (iterAt_heap wo w1.heap.size s pos (pos + 1) hit.out)]; omega
        clear hx hit hb
        cases hin : c.data.toList.contains s[pos] with
        | true =>
          rw [hin] at hi
          have hres := Lib.hid (Lib.indexAny_hit hno.out Hx.out hin)
          go_wp2_with fail
          refine (Tryd.strings_IndexRune_ascii _ _ _ (by omega) (by omega)).mono ?_
          rintro e w2 ⟨rfl, rfl⟩
          generalize Lib.indexByte c.data.toList ((s[pos].toNat : Int).toNat.toUInt8) = i at *
          go_wp2_with fail
          go_ret
          exact ⟨ret_int hres.out.symm, Hr.out.2⟩
        | false =>
          rw [hin] at hi
          have hno2 := Lib.hid (hno.out.succ Hx.out hin)
          go_wp2_with fail
          refine (Tryd.strings_IndexRune_ascii _ _ _ (by omega) (by omega)).mono ?_
          rintro e w2 ⟨rfl, rfl⟩
          generalize Lib.indexByte c.data.toList ((s[pos].toNat : Int).toNat.toUInt8) = i at *
          go_wp2_with fail
          exact ⟨⟨pos + 1, by omega, hno2.out, Hr.out.1, Hr.out.2⟩, Hme.out⟩
      · have hnx : ∀ ty, (Instr.next (.pointer (some ⟨w1.heap.size, 0, none⟩)) true ty).run Tryd.prog wo = _ := fun ty => run_next_any_at wo w1.heap.size s pos ty hit.out hp
        have hq := decode_high s pos hp (by omega)
        have hby := decode_bytes s pos hp (by rw [get!_of_lt hp]; omega)
        have hit2 := Lib.hid (iterAt_heap wo w1.heap.size s pos (pos + (Utf8.decode s pos).2) hit.out)
        have hb2 := below_iterAt hb (Nat.le_refl _) s (pos + (Utf8.decode s pos).2)
        generalize Utf8.decode s pos = q at *
        have hno2 := Lib.hid (noAny_add hno.out q.2 (fun k hk => by
          obtain ⟨g1, g2⟩ := hby k hk
          exact ⟨_, some_at s (pos + k) g1, far_not _ HA.out _ (by rw [← get!_of_lt g1]; exact g2)⟩))
        have hle : pos + q.2 ≤ s.size := by
          have := (hby (q.2 - 1) (by omega)).1
          omega
        clear hno hb hby hit hx
        go_wp2_with fail
        generalize wo.iterAt w1.heap.size s (pos + q.2) = W1 at *
        refine (IndexRune_far c q.1 W1 hc hc4 HA.out (by omega)).mono ?_
        rintro e w2 ⟨rfl, b2⟩
        have hz := iter_lt hit2.out
        have hit3 := Lib.hid (below_block b2 hz hit2.out)
        have hb3 := hb2.trans (b2.mono hb2.size)
        have hm3 := Lib.hid (iterPos_of' hit3.out)
        clear b2 hit2 hb2
        go_wp2_with fail
        exact ⟨⟨pos + q.2, hle, hno2.out, hit3.out, hb3⟩, by rw [hm3.out, hm.out]; omega⟩
    · have hnx : ∀ ty, (Instr.next (.pointer (some ⟨w1.heap.size, 0, none⟩)) true ty).run Tryd.prog wo = _ := fun ty => run_next_end_at wo w1.heap.size s pos ty hit.out hp
      obtain rfl : pos = s.size := by omega
      have hres := Lib.hid (Lib.indexAny_none (s := s.data.toList) (chars := c.data.toList) (by rw [lst_size]; exact hno.out))
      clear hit
      go_wp2_with fail
      go_ret
      exact ⟨ret_int hres.out.symm, hb⟩

/-- strings.IndexAny with the ends of a bare value -/
theorem IndexAny_stop (s : ByteArray) (w : World) (hs : s.size ≤ 1000001) :
    Calls Tryd.prog 88 #[.string s, .string stopT] w fun e w' => e = .returned (.int .i64 (Lib.indexAny s.data.toList stopT.data.toList)) ∧ Below w.heap.size w w' := by
  by_cases h8 : 8 < s.size
  · have hi : (Tryd.prog.info? (Tryd.lays153_ren.t 116)).map (fun i => (i.zero, i.size)) = some (some (.agg (Array.replicate 256 (.bool false))), 256) := by kernel_rfl
    refine (Any.strings_IndexAny_long Tryd.lays153 (zero_of_info hi).1 (zero_of_info hi).2 s stopT w (by decide) h8 (by omega) (by decide) (ascii_at stop_ascii)).mono fun e w' ⟨h1, h2⟩ => ⟨h1, ?_⟩
    rw [h2]
    exact ((Below.refl _ _).alloc (Nat.le_refl _) _).alloc (by simp) _
  · exact IndexAny_short s stopT w (by omega) (by decide) (by decide) stop_ascii

end Go.Proofs.YtjaidphlphncjaaDoor
