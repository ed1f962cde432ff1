/- Walk: tag's reader: value. -/
import Derived.Test.YtjaidphlphncjaaDoorTagIdx
import Derived.Test.YtjaidphlphncjaaDoorMarkPlain3
import Derived.Lib.IndexMore
namespace Go.Proofs.YtjaidphlphncjaaDoor
set_option linter.unusedVariables false
set_option linter.unusedSimpArgs false
open Go Go.RowKit Go.Lib

/-- what the walks ask of the world: the tables of unicode/utf8, and that a variable of bytealg holds some number -/
def MaxL (w : World) : Prop := ∃ m, w.cell? ⟨0, 0, none⟩ = some (.int .i64 m)
theorem MaxL.below {B : Nat} {w w' : World} (h : MaxL w) (hb : Below B w w') (hB : 0 < B) : MaxL w' := by
  obtain ⟨m, h2⟩ := h
  refine ⟨m, ?_⟩
  rw [hb.cell (p := ⟨0, 0, none⟩) (by show 0 < B; omega)]; exact h2

theorem index_one (l : List UInt8) (c : UInt8) : Lib.index l [c] = Lib.indexByte l c := by
  induction l with
  | nil => rfl
  | cons b t ih =>
    unfold Lib.index Lib.indexByte
    have : ([c].isPrefixOf (b :: t)) = (b == c) := by
      simp only [List.isPrefixOf, Bool.and_true]
      rw [Bool.eq_iff_iff, beq_iff_eq, beq_iff_eq]; exact eq_comm
    rw [this, ih]

theorem trim_hit (t : ByteArray) (c : UInt8) (h : Lib.hasPrefix t.data.toList [c] = true) : (⟨(Lib.trimPrefix t.data.toList [c]).toArray⟩ : ByteArray) = t.extract 1 t.size := by
  apply ba_ext
  rw [tail_data]
  show Lib.trimPrefix t.data.toList [c] = _
  unfold Lib.trimPrefix; rw [h]; rfl
theorem trim_miss (t : ByteArray) (p : List UInt8) (h : Lib.hasPrefix t.data.toList p = false) : (⟨(Lib.trimPrefix t.data.toList p).toArray⟩ : ByteArray) = t := by
  apply ba_ext
  show Lib.trimPrefix t.data.toList p = _
  unfold Lib.trimPrefix; rw [h]; rfl

theorem ext_ext (s : ByteArray) (a n : Nat) : (s.extract a s.size).extract n (s.extract a s.size).size = s.extract (a + n) s.size := by
  apply ba_ext
  rw [tail_data, tail_data, tail_data, List.drop_drop]

theorem indexAny_bare (l : List UInt8) : Lib.indexAny (l ++ [62]) stopT.data.toList = ((l.takeWhile fun c => !(stopU c)).length : Nat) := by
  induction l with
  | nil => decide
  | cons b t ih =>
    rw [List.cons_append, Lib.indexAny, stop_contains, List.takeWhile_cons]
    cases stopU b with
    | true => rfl
    | false =>
      rw [ih]
      simp

/-- take where there is one byte to look for -/
theorem take_one (t : ByteArray) (c : UInt8) (b : Nat) (w : World) (hr : Rdr t b w) (v : Bool) (hv : Lib.hasPrefix t.data.toList [c] = v) :
    Calls Tryd.prog 46 #[.pointer (some ⟨b, 0, none⟩), .string ⟨#[c]⟩] w fun e w' => e = .returned (.bool v) ∧ Rdr (if v = true then t.extract 1 t.size else t) b w' ∧ Only b w w' := by
  refine (take_calls t ⟨#[c]⟩ b w hr).mono ?_
  rintro e w' ⟨h1, h2, h3⟩
  have e0 : (ByteArray.mk #[c]).data.toList = [c] := rfl
  rw [e0] at h1 h2
  rw [hv] at h1
  refine ⟨h1, ?_, h3⟩
  cases v with
  | true => rw [trim_hit t c hv] at h2; exact h2
  | false => rw [trim_miss t [c] hv] at h2; exact h2

theorem cut_some (u : ByteArray) (c : UInt8) (i : Nat) (h : Lib.indexByte u.data.toList c = i) :
    (⟨(Lib.cut u.data.toList [c]).2.1.toArray⟩ : ByteArray) = u.extract (i + 1) u.size ∧ (Lib.cut u.data.toList [c]).2.2 = true := by
  unfold Lib.cut
  rw [index_one, h, if_pos (by omega)]
  refine ⟨?_, rfl⟩
  apply ba_ext
  rw [tail_data]; simp
theorem cut_none (u : ByteArray) (c : UInt8) (h : ¬ 0 ≤ Lib.indexByte u.data.toList c) : (Lib.cut u.data.toList [c]).2.2 = false := by
  unfold Lib.cut
  rw [index_one, if_neg h]

set_option maxHeartbeats 2000000 in
set_option maxRecDepth 100000 in
theorem value_q1 (t : ByteArray) (b : Nat) (w : World) (hr : Rdr t b w) (hM : MaxL w) (hg : 0 < b) (hs : t.size ≤ 1000000) (h0 : 0 < t.size) (hq : t[0] = 39) (ok : Bool) (rest : ByteArray)
    (h1 : (Lib.cut (t.extract 1 t.size).data.toList [39]).2.2 = ok) (h2 : (⟨(Lib.cut (t.extract 1 t.size).data.toList [39]).2.1.toArray⟩ : ByteArray) = rest) :
    Calls Tryd.prog 74 #[.pointer (some ⟨b, 0, none⟩)] w fun e w' => (if ok = true then e = .returned (.tuple #[]) ∧ Rdr rest b w' else e = .panicked missedP) ∧ Only b w w' := by
  have hl := hr.lt
  have HR : Hid (Rdr t b w) := hr
  have HM := Lib.hid hM
  have hv := pre_one t 39 h0
  rw [hq] at hv
  have hv' : Lib.hasPrefix t.data.toList [39] = true := by rw [hv]; decide
  have hus : (t.extract 1 t.size).size ≤ 1000000 := by rw [Lib.tail_size]; omega
  have hcut := fun m w hm => Tryd.strings_Cut (t.extract 1 t.size) ⟨#[39]⟩ m w (by omega) hm
  rw [show (ByteArray.mk #[39]).data.toList = [39] from rfl, h1, h2] at hcut
  clear hr hM hv hq h1 h2 hus
  go_enter Tryd.func74, Tryd.ntmps74
  go_wp2_with fail
  refine wp_loop_rounds 3 ?_
  rw [rounds_succ]
  go_wp2_with fail
  have hB0 := (Below.refl w.heap.size w).alloc (Nat.le_refl _) (Obj.cells #[Value.string { data := #[39] }, Value.string { data := #[34] }] 9)
  have K := heap_alloc_new w (Obj.cells #[Value.string { data := #[39] }, Value.string { data := #[34] }] 9)
  generalize w.alloc (Obj.cells #[Value.string { data := #[39] }, Value.string { data := #[34] }] 9) = w2 at *
  have O0 : Only b w w2 := Only.of hB0 (by omega)
  have R2 := HR.out.keep hB0 hl
  refine (take_one t 39 b w2 R2 true hv').mono ?_
  rintro e w4 ⟨rfl, R4, O1⟩
  rw [if_pos rfl] at R4
  clear R2 hB0 K
  replace O0 := O0.trans O1
  have c4 := R4.cell
  obtain ⟨m, hm⟩ := HM.out.below O0.below hg
  clear O1
  generalize t.extract 1 t.size = u at *
  go_wp2_with fail
  refine (hcut m _ hm).mono ?_
  rintro e w5 ⟨rfl, n, rfl⟩
  have O5 : Only b w (w4.drewN n) := ⟨below_drewN O0.below n, O0.far⟩
  have R5 : Rdr u b (w4.drewN n) := R4
  have c5 := R5.cell
  have f5 := R5.free
  have z5 := R5.lt
  clear R4 c4 hm O0 hcut
  generalize w4.drewN n = w6 at *
  have H5 : Hid (Rdr u b w6) := R5
  clear R5
  cases ok with
  | true =>
    go_wp2_with fail
    refine (need_yes _).mono ?_
    rintro e w7 ⟨rfl, rfl⟩
    go_wp2_with fail
    refine bodyPost_ret (results_none rfl _ _ _) rfl ?_
    exact ⟨⟨rfl, H5.out.set rest⟩, O5.set _⟩
  | false =>
    go_wp2_with fail
    refine (need_no _).mono ?_
    rintro e w7 ⟨rfl, rfl⟩
    go_wp2_with fail
    exact ⟨rfl, rfl, O5⟩

set_option maxHeartbeats 2000000 in
set_option maxRecDepth 100000 in
theorem value_q2 (t : ByteArray) (b : Nat) (w : World) (hr : Rdr t b w) (hM : MaxL w) (hg : 0 < b) (hs : t.size ≤ 1000000) (h0 : 0 < t.size) (hq : t[0] = 34) (ok : Bool) (rest : ByteArray)
    (h1 : (Lib.cut (t.extract 1 t.size).data.toList [34]).2.2 = ok) (h2 : (⟨(Lib.cut (t.extract 1 t.size).data.toList [34]).2.1.toArray⟩ : ByteArray) = rest) :
    Calls Tryd.prog 74 #[.pointer (some ⟨b, 0, none⟩)] w fun e w' => (if ok = true then e = .returned (.tuple #[]) ∧ Rdr rest b w' else e = .panicked missedP) ∧ Only b w w' := by
  have hl := hr.lt
  have HR : Hid (Rdr t b w) := hr
  have HM := Lib.hid hM
  have hv := pre_one t 34 h0
  rw [hq] at hv
  have hv' : Lib.hasPrefix t.data.toList [34] = true := by rw [hv]; decide
  have hvo := pre_one t 39 h0
  rw [hq] at hvo
  have hvo' : Lib.hasPrefix t.data.toList [39] = false := by rw [hvo]; decide
  clear hvo
  have hus : (t.extract 1 t.size).size ≤ 1000000 := by rw [Lib.tail_size]; omega
  have hcut := fun m w hm => Tryd.strings_Cut (t.extract 1 t.size) ⟨#[34]⟩ m w (by omega) hm
  rw [show (ByteArray.mk #[34]).data.toList = [34] from rfl, h1, h2] at hcut
  clear hr hM hv hq h1 h2 hus
  go_enter Tryd.func74, Tryd.ntmps74
  go_wp2_with fail
  refine wp_loop_rounds 3 ?_
  rw [rounds_succ]
  go_wp2_with fail
  have hB0 := (Below.refl w.heap.size w).alloc (Nat.le_refl _) (Obj.cells #[Value.string { data := #[39] }, Value.string { data := #[34] }] 9)
  have K := heap_alloc_new w (Obj.cells #[Value.string { data := #[39] }, Value.string { data := #[34] }] 9)
  generalize w.alloc (Obj.cells #[Value.string { data := #[39] }, Value.string { data := #[34] }] 9) = w2 at *
  have O0 : Only b w w2 := Only.of hB0 (by omega)
  have R2 := HR.out.keep hB0 hl
  refine (take_one t 39 b w2 R2 false hvo').mono ?_
  rintro e w3 ⟨rfl, R3, O1⟩
  rw [if_neg (by simp)] at R3
  replace K := O1.blk K (by omega)
  replace O0 := O0.trans O1
  have k1 := blk_cell K 1
  have kz := blk_lt K
  simp at k1
  clear R2 O1 hB0 K
  go_wp2_with fail
  rw [rounds_succ]
  go_wp2_with fail
  refine (take_one t 34 b w3 R3 true hv').mono ?_
  rintro e w4 ⟨rfl, R4, O1⟩
  rw [if_pos rfl] at R4
  clear R3 k1
  replace O0 := O0.trans O1
  have c4 := R4.cell
  obtain ⟨m, hm⟩ := HM.out.below O0.below hg
  clear O1
  generalize t.extract 1 t.size = u at *
  go_wp2_with fail
  refine (hcut m _ hm).mono ?_
  rintro e w5 ⟨rfl, n, rfl⟩
  have O5 : Only b w (w4.drewN n) := ⟨below_drewN O0.below n, O0.far⟩
  have R5 : Rdr u b (w4.drewN n) := R4
  have c5 := R5.cell
  have f5 := R5.free
  have z5 := R5.lt
  clear R4 c4 hm O0 hcut
  generalize w4.drewN n = w6 at *
  have H5 : Hid (Rdr u b w6) := R5
  clear R5
  cases ok with
  | true =>
    go_wp2_with fail
    refine (need_yes _).mono ?_
    rintro e w7 ⟨rfl, rfl⟩
    go_wp2_with fail
    refine bodyPost_ret (results_none rfl _ _ _) rfl ?_
    exact ⟨⟨rfl, H5.out.set rest⟩, O5.set _⟩
  | false =>
    go_wp2_with fail
    refine (need_no _).mono ?_
    rintro e w7 ⟨rfl, rfl⟩
    go_wp2_with fail
    exact ⟨rfl, rfl, O5⟩

set_option maxHeartbeats 2000000 in
set_option maxRecDepth 100000 in
theorem value_bare (t : ByteArray) (b : Nat) (w : World) (hr : Rdr t b w) (hs : t.size ≤ 1000000) (hq1 : Lib.hasPrefix t.data.toList [39] = false) (hq2 : Lib.hasPrefix t.data.toList [34] = false) (n : Nat) (hn : bareN t 0 = n) :
    Calls Tryd.prog 74 #[.pointer (some ⟨b, 0, none⟩)] w fun e w' => (if n = 0 then e = .panicked missedP else e = .returned (.tuple #[]) ∧ Rdr (t.extract n t.size) b w') ∧ Only b w w' := by
  have hl := hr.lt
  have HR : Hid (Rdr t b w) := hr
  have hle : n ≤ t.size := by
    rw [← hn]; unfold bareN
    have := (List.takeWhile_sublist (fun c => !(stopU c)) (l := t.data.toList.drop 0)).length_le
    rw [List.length_drop, lst_size] at this; omega
  have hix := fun w => IndexAny_stop (t ++ ByteArray.mk #[62]) w (by rw [ByteArray.size_append]; show t.size + 1 ≤ _; omega)
  rw [show (t ++ ByteArray.mk #[62]).data.toList = t.data.toList ++ [62] from by simp, indexAny_bare] at hix
  rw [show (t.data.toList.takeWhile fun c => !(stopU c)).length = n from by rw [← hn]; unfold bareN; rw [List.drop_zero]] at hix
  clear hr hn
  go_enter Tryd.func74, Tryd.ntmps74
  go_wp2_with fail
  refine wp_loop_rounds 4 ?_
  rw [rounds_succ]
  go_wp2_with fail
  have hB0 := (Below.refl w.heap.size w).alloc (Nat.le_refl _) (Obj.cells #[Value.string { data := #[39] }, Value.string { data := #[34] }] 9)
  have K := heap_alloc_new w (Obj.cells #[Value.string { data := #[39] }, Value.string { data := #[34] }] 9)
  generalize w.alloc (Obj.cells #[Value.string { data := #[39] }, Value.string { data := #[34] }] 9) = w2 at *
  have O0 : Only b w w2 := Only.of hB0 (by omega)
  have R2 := HR.out.keep hB0 hl
  refine (take_one t 39 b w2 R2 false hq1).mono ?_
  rintro e w3 ⟨rfl, R3, O1⟩
  rw [if_neg (by simp)] at R3
  replace K := O1.blk K (by omega)
  replace O0 := O0.trans O1
  have k1 := blk_cell K 1
  have kz := blk_lt K
  simp at k1
  clear R2 O1 hB0 K
  go_wp2_with fail
  rw [rounds_succ]
  go_wp2_with fail
  refine (take_one t 34 b w3 R3 false hq2).mono ?_
  rintro e w4 ⟨rfl, R4, O1⟩
  rw [if_neg (by simp)] at R4
  replace O0 := O0.trans O1
  clear R3 k1 O1
  have c4 := R4.cell
  go_wp2_with fail
  rw [rounds_succ]
  go_wp2_with fail
  refine (hix _).mono ?_
  rintro e w5 ⟨rfl, b5⟩
  have z4 := R4.lt
  have R5 := R4.keep b5 z4
  have O5 := O0.trans (Only.of b5 (by omega))
  have c5 := R5.cell
  have f5 := R5.free
  have z5 := R5.lt
  have H5 : Hid (Rdr t b w5) := R5
  clear R4 R5 c4 b5 O0 hix
  by_cases h0 : n = 0
  · subst h0
    go_wp2_with fail
    refine (need_no _).mono ?_
    rintro e w7 ⟨rfl, rfl⟩
    go_wp2_with fail
    exact ⟨rfl, rfl, O5⟩
  · have hp : 0 < n := by omega
    have i0 : (0 : Int) ≤ (n : Int) := by omega
    have i1 : (n : Int) ≤ (t.size : Int) := by omega
    go_wp2_with fail
    refine (need_yes _).mono ?_
    rintro e w7 ⟨rfl, rfl⟩
    go_wp2_with fail
    go_end0
    exact ⟨⟨rfl, H5.out.set _⟩, O5.set _⟩

theorem tail_first (s : ByteArray) (a : Nat) (h : a < s.size) (h' : 0 < (s.extract a s.size).size) : (s.extract a s.size)[0] = byteU s a := by
  rw [byteU_in s a h]
  have e1 := drop_cons (s.extract a s.size) 0 h'
  have e2 := drop_cons s a h
  rw [List.drop_zero, tail_data, e2] at e1
  simp only [List.cons.injEq] at e1
  exact e1.1.symm

theorem pre_tail (s : ByteArray) (a : Nat) (c : UInt8) (hc : c ≠ 0) : Lib.hasPrefix (s.extract a s.size).data.toList [c] = (byteU s a == c) := by
  by_cases h : a < s.size
  · have h' : 0 < (s.extract a s.size).size := by rw [Lib.tail_size]; omega
    rw [pre_one _ c h', tail_first s a h h']
  · rw [pre_none _ c (by rw [Lib.tail_size]; omega), byteU_out s a (by omega)]
    symm; simpa using hc.symm

/-- a reader of a text that stands at a place -/
def At (s : ByteArray) (a b : Nat) (w : World) : Prop := Rdr (s.extract a s.size) b w

/-- a call that misses or comes to a place -/
def Goes (s : ByteArray) (b : Nat) (r : Option Nat) (w : World) (e : Ending) (w' : World) : Prop :=
  (match r with | none => e = .panicked missedP | some k => e = .returned (.tuple #[]) ∧ At s k b w') ∧ Only b w w'

theorem value_calls (s : ByteArray) (a b : Nat) (w : World) (hr : At s a b w) (hM : MaxL w) (hg : 0 < b) (hs : s.size ≤ 1000000) (ha : a ≤ s.size) :
    Calls Tryd.prog 74 #[.pointer (some ⟨b, 0, none⟩)] w fun e w' => Goes s b (valueF s a) w e w' := by
  have hts : (s.extract a s.size).size ≤ 1000000 := by rw [Lib.tail_size]; omega
  have hp39 := pre_tail s a 39 (by decide)
  have hp34 := pre_tail s a 34 (by decide)
  have hext : (s.extract a s.size).extract 1 (s.extract a s.size).size = s.extract (a + 1) s.size := ext_ext s a 1
  by_cases h0 : a < s.size
  · have h0' : 0 < (s.extract a s.size).size := by rw [Lib.tail_size]; omega
    have hfst := tail_first s a h0 h0'
    have quote : ∀ c : UInt8, byteU s a = c → (c = 39 ∨ c = 34) →
        (∀ (ok : Bool) (rest : ByteArray), (Lib.cut ((s.extract a s.size).extract 1 (s.extract a s.size).size).data.toList [c]).2.2 = ok → (⟨(Lib.cut ((s.extract a s.size).extract 1 (s.extract a s.size).size).data.toList [c]).2.1.toArray⟩ : ByteArray) = rest →
          Calls Tryd.prog 74 #[.pointer (some ⟨b, 0, none⟩)] w fun e w' => (if ok = true then e = .returned (.tuple #[]) ∧ Rdr rest b w' else e = .panicked missedP) ∧ Only b w w') →
        Calls Tryd.prog 74 #[.pointer (some ⟨b, 0, none⟩)] w fun e w' => Goes s b (valueF s a) w e w' := by
      intro c hc hcc H
      have hv : valueF s a = quoteEnd s c (a + 1) := by
        unfold valueF
        rw [if_pos h0, hc, if_pos hcc]
      rw [hext] at H
      have hd : (s.extract (a + 1) s.size).data.toList = s.data.toList.drop (a + 1) := tail_data s (a + 1)
      rw [hv]
      unfold quoteEnd
      by_cases hi : 0 ≤ Lib.indexByte (s.data.toList.drop (a + 1)) c
      · obtain ⟨i, hi'⟩ := Int.eq_ofNat_of_zero_le hi
        obtain ⟨c1, c2⟩ := cut_some (s.extract (a + 1) s.size) c i (by rw [hd]; exact hi')
        refine (H true _ c2 c1).mono ?_
        rintro e w' ⟨h1, h2⟩
        rw [if_pos rfl, ext_ext] at h1
        rw [if_pos hi]
        refine ⟨⟨h1.1, ?_⟩, h2⟩
        unfold At
        rw [hi', Int.toNat_natCast, show a + 1 + i + 1 = a + 1 + (i + 1) from by omega]
        exact h1.2
      · have c2 := cut_none (s.extract (a + 1) s.size) c (by rw [hd]; exact hi)
        refine (H false _ c2 rfl).mono ?_
        rintro e w' ⟨h1, h2⟩
        rw [if_neg (by simp)] at h1
        rw [if_neg hi]
        exact ⟨h1, h2⟩
    by_cases h39 : byteU s a = 39
    · exact quote 39 h39 (Or.inl rfl) (fun ok rest e1 e2 => value_q1 _ b w hr hM hg hts h0' (by rw [hfst, h39]) ok rest e1 e2)
    · by_cases h34 : byteU s a = 34
      · exact quote 34 h34 (Or.inr rfl) (fun ok rest e1 e2 => value_q2 _ b w hr hM hg hts h0' (by rw [hfst, h34]) ok rest e1 e2)
      · have hbn : bareN (s.extract a s.size) 0 = bareN s a := by unfold bareN; rw [tail_data, List.drop_zero]
        have hv : valueF s a = if bareN s a = 0 then none else some (a + bareN s a) := by
          unfold valueF
          rw [if_pos h0, if_neg (by rintro (h | h); exact h39 h; exact h34 h)]
        rw [hv]
        refine (value_bare _ b w hr hts (by rw [hp39]; simpa using h39) (by rw [hp34]; simpa using h34) _ hbn).mono ?_
        rintro e w' ⟨h1, h2⟩
        by_cases hz : bareN s a = 0
        · rw [if_pos hz] at h1 ⊢
          exact ⟨h1, h2⟩
        · rw [if_neg hz] at h1 ⊢
          rw [ext_ext] at h1
          exact ⟨h1, h2⟩
  · have hb : byteU s a = 0 := byteU_out s a (by omega)
    have hbn : bareN (s.extract a s.size) 0 = 0 := by
      unfold bareN
      rw [tail_data, List.drop_zero, List.drop_eq_nil_of_le (by rw [lst_size]; omega)]; rfl
    have hv : valueF s a = none := by unfold valueF; rw [if_neg h0]
    rw [hv]
    refine (value_bare _ b w hr hts (by rw [hp39, hb]; decide) (by rw [hp34, hb]; decide) 0 hbn).mono ?_
    rintro e w' ⟨h1, h2⟩
    rw [if_pos rfl] at h1
    exact ⟨h1, h2⟩

/-! ## the reader by places -/

theorem lead_at (s set : ByteArray) (a : Nat) : lead (s.extract a s.size) set = leadN s set a := lead_tail s set a
theorem cut_at (s set : ByteArray) (a : Nat) : cutL (s.extract a s.size) set = s.extract (skipN s set a) s.size := by
  unfold cutL skipN
  rw [lead_at, ext_ext]

theorem eat_at (s set : ByteArray) (a b : Nat) (w : World) (hr : At s a b w) (hs : s.size ≤ 1000000) (hset : set.size ≤ 1000000) (hA : Ascii set.data.toList) :
    Calls Tryd.prog 48 #[.pointer (some ⟨b, 0, none⟩), .string set] w fun e w' => (∃ x : ByteArray, e = .returned (.string x) ∧ x.size = leadN s set a) ∧ At s (skipN s set a) b w' ∧ Only b w w' := by
  refine (eat_calls _ set b w hr (by rw [Lib.tail_size]; omega) hset hA).mono ?_
  rintro e w' ⟨h1, h2, h3⟩
  rw [cut_at] at h2
  refine ⟨⟨_, h1, ?_⟩, h2, h3⟩
  have := lead_le (s.extract a s.size) set
  rw [ByteArray.size_extract, lead_at]
  rw [lead_at] at this
  omega

theorem take_at (s : ByteArray) (c : UInt8) (hc : c ≠ 0) (a b : Nat) (w : World) (hr : At s a b w) (v : Bool) (hv : (byteU s a == c) = v) :
    Calls Tryd.prog 46 #[.pointer (some ⟨b, 0, none⟩), .string ⟨#[c]⟩] w fun e w' => e = .returned (.bool v) ∧ At s (if v = true then a + 1 else a) b w' ∧ Only b w w' := by
  refine (take_one _ c b w hr v (by rw [pre_tail s a c hc]; exact hv)).mono ?_
  rintro e w' ⟨h1, h2, h3⟩
  refine ⟨h1, ?_, h3⟩
  unfold At
  cases v with
  | true => rw [if_pos rfl] at h2 ⊢; rw [ext_ext] at h2; exact h2
  | false => rw [if_neg (by simp)] at h2 ⊢; exact h2

end Go.Proofs.YtjaidphlphncjaaDoor
