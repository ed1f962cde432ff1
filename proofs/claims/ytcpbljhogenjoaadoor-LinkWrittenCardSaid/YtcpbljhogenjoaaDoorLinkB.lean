/- Walks: link.gap, rest, Label. -/
import Derived.Test.YtcpbljhogenjoaaDoorLinkA
import Derived.Shelf.Strings.SlTrimAscii
namespace Go.Proofs.YtcpbljhogenjoaaDoor
set_option linter.unusedVariables false
set_option linter.unusedSimpArgs false
open Go Go.RowKit Go.Shelf Go.Lib

theorem ret_si {a b : ByteArray} {c d : Int} (h : a = b) (h2 : c = d) : Ending.returned (.tuple #[.string a, .int .i64 c]) = .returned (.tuple #[.string b, .int .i64 d]) := by rw [h, h2]
theorem ret_ib {a b : Int} {c d : Bool} (h : a = b) (h2 : c = d) : Ending.returned (.tuple #[.int .i64 a, .bool c]) = .returned (.tuple #[.int .i64 b, .bool d]) := by rw [h, h2]

theorem bel_drewN {B : Nat} {a w : World} (h : Below B a w) (n : Nat) : Below B a (w.drewN n) := h.trans ⟨rfl, rfl, rfl, Nat.le_refl _, fun _ _ => rfl⟩

theorem infoSet0 : (Tryd.prog.info? (Tryd.lays160_ren.t 116)).map (fun i => (i.zero, i.size)) = some (some (.agg (Array.replicate 256 (.bool false))), 256) := by kernel_rfl
theorem infoSet1 : (Tryd.prog.info? (Tryd.lays161_ren.t 116)).map (fun i => (i.zero, i.size)) = some (some (.agg (Array.replicate 256 (.bool false))), 256) := by kernel_rfl

theorem trimAll_calls (s set : ByteArray) (w : World) (hs : s.size ≤ 1000000) (ht : set.size ≤ 1000000) (hA : Ascii set.data.toList) :
    Calls Tryd.prog 16 #[.string s, .string set] w fun e w' => e = .returned (.string (trimB s set)) ∧ Below w.heap.size w w' :=
  Any.strings_Trim_laid Tryd.lays160 infoSet0 s set w (by omega) (by omega) (ascii_at hA)

theorem trimLeft_tail (s set : ByteArray) : (⟨(Lib.trimLeftS s.data.toList set.data.toList).toArray⟩ : ByteArray) = s.extract (lead s set) s.size := by
  apply ba_ext
  rw [tail_data, lead_list]
  show Lib.trimLeftS s.data.toList set.data.toList = _
  generalize s.data.toList = l
  unfold Lib.trimLeftS leadFrom
  induction l with
  | nil => rfl
  | cons x t ih =>
    rw [List.dropWhile_cons, List.takeWhile_cons]
    split <;> simp_all

theorem trimLeft_calls (s set : ByteArray) (w : World) (hs : s.size ≤ 1000000) (ht : set.size ≤ 1000000) (hA : Ascii set.data.toList) :
    Calls Tryd.prog 47 #[.string s, .string set] w fun e w' => e = .returned (.string (s.extract (lead s set) s.size)) ∧ Below w.heap.size w w' := by
  rw [← trimLeft_tail]
  exact Any.strings_TrimLeft_laid Tryd.lays161 infoSet1 s set w (by omega) (ascii_at hA)

theorem skip_zero (s set : ByteArray) : skipN s set 0 = lead s set := by unfold skipN lead; omega

set_option maxHeartbeats 1000000 in
set_option maxRecDepth 100000 in
theorem gap_calls (s : ByteArray) (w : World) (hs : s.size ≤ 1000000) :
    Calls Tryd.prog 23 #[.string s] w fun e w' => e = .returned (.tuple #[.int .i64 (gapN s 0 : Nat), .bool (gapOK s 0)]) ∧ Below w.heap.size w w' := by
  have hl := lead_le s gapT
  have hg : Hid (gapN s 0 = lead s gapT) := skip_zero s gapT
  have hk : Hid (gapOK s 0 = decide (((s.extract 0 (lead s gapT)).data.toList.count 10 : Nat) ≤ 1)) := by show _ = _; unfold gapOK; rw [hg.out]
  have hq := fun w => trimLeft_calls s gapT w hs (by decide) gap_ascii
  have hz : (s.extract (lead s gapT) s.size).size = s.size - lead s gapT := Lib.tail_size _ _
  have hc := fun w => Tryd.strings_Count_one (s.extract 0 (lead s gapT)) 10 w
  have h0 : (s.extract 0 (lead s gapT)).data.toList.count 10 ≤ s.size := by
    have := List.count_le_length (l := (s.extract 0 (lead s gapT)).data.toList) (a := (10 : UInt8))
    rw [lst_size, ByteArray.size_extract] at this; omega
  generalize s.extract (lead s gapT) s.size = t at *
  generalize lead s gapT = n at *
  have e1 : wrap64 ((s.size : Int) - (t.size : Int)) = (n : Int) := by unfold wrap64; omega
  have e2 : IntKind.i64.wrap ((s.size : Int) - (t.size : Int)) = (n : Int) := by rw [IntWalk.i64_in _ (by omega)]; omega
  have i0 : (0 : Int) ≤ (n : Int) := by omega
  have i1 : (n : Int) ≤ (s.size : Int) := by omega
  unfold Lib.countByte at hc
  generalize (s.extract 0 n).data.toList.count 10 = m at *
  clear hz hl h0
  go_enter Tryd.func23, Tryd.ntmps23
  go_wp2_with fail
  refine (hq _).mono ?_
  rintro e w1 ⟨rfl, hB⟩
  go_wp2_with fail
  refine (hc _).mono ?_
  rintro e w2 ⟨rfl, rfl⟩
  go_wp2_with fail
  go_ret2
  exact ⟨ret_ib (by rw [hg.out]) (by rw [hk.out]; try (rw [decide_eq_decide]; omega)), hB⟩

/-- where a text's first byte 10 stands; its size: nowhere -/
def nlF (s : ByteArray) : Nat := (s.data.toList.takeWhile (· != 10)).length

theorem nl_index : ∀ l : List UInt8, Lib.indexByte l 10 = if (l.takeWhile (· != 10)).length < l.length then (((l.takeWhile (· != 10)).length : Nat) : Int) else -1
  | [] => rfl
  | c :: l => by
    unfold Lib.indexByte
    rw [nl_index l, List.takeWhile_cons]
    by_cases h : c = 10
    · subst h; simp
    · have h1 : (c == 10) = false := by simpa using h
      have h2 : (c != 10) = true := by simpa using h
      rw [h1, h2]
      simp only [Bool.false_eq_true, if_false, if_true, List.length_cons]
      by_cases h3 : (l.takeWhile (· != 10)).length < l.length
      · rw [if_pos h3, if_pos (show (l.takeWhile (· != 10)).length + 1 < l.length + 1 by omega)]
        have : ((((l.takeWhile (· != 10)).length : Nat) : Int) == -1) = false := beq_eq_false_iff_ne.2 (by omega)
        rw [this]; simp
      · rw [if_neg h3, if_neg (show ¬ (l.takeWhile (· != 10)).length + 1 < l.length + 1 by omega)]; rfl

theorem nl_le (s : ByteArray) : nlF s ≤ s.size := by
  unfold nlF
  rw [← lst_size]
  exact (List.takeWhile_sublist _).length_le

theorem nl_idx (s : ByteArray) : Lib.indexByte s.data.toList 10 = if nlF s < s.size then ((nlF s : Nat) : Int) else -1 := by
  rw [nl_index, lst_size]; rfl

set_option maxHeartbeats 1000000 in
set_option maxRecDepth 100000 in
theorem cut10_in (s : ByteArray) (w : World) (hs : s.size ≤ 1000000) (h : nlF s < s.size) :
    Calls Tryd.prog 64 #[.string s, .string ⟨#[10]⟩] w fun e w' => e = .returned (.tuple #[.string (s.extract 0 (nlF s)), .string (s.extract (nlF s + 1) s.size), .bool true]) ∧ ∃ n, w' = w.drewN n := by
  have hq := fun w => Tryd.stringslite_Index_one s 10 w
  rw [nl_idx, if_pos h] at hq
  generalize nlF s = i at *
  have c1 : (0 : Int) ≤ ↑i := by omega
  have c2 : (↑i : Int) ≤ ↑s.size := by omega
  have c3 : (0 : Int) ≤ ↑i + 1 := by omega
  have c4 : (↑i + 1 : Int) ≤ ↑s.size := by omega
  have c5 : IntKind.i64.wrap ((i : Int) + 1) = (i : Int) + 1 := IntWalk.i64_in _ (by omega)
  have mixed : Tryd.prog.follows .mixedOrders = true := by kernel_rfl
  go_enter Tryd.func64, Tryd.ntmps64
  go_wp2_with fail
  refine (hq _).mono ?_
  rintro e w' ⟨rfl, rfl⟩
  go_wp2_with fail
  go_region_o
  go_wp2
  go_ret3
  exact ⟨rfl, 1, rfl⟩

set_option maxHeartbeats 1000000 in
set_option maxRecDepth 100000 in
theorem cut10_out (s : ByteArray) (w : World) (hs : s.size ≤ 1000000) (h : ¬ nlF s < s.size) :
    Calls Tryd.prog 64 #[.string s, .string ⟨#[10]⟩] w fun e w' => e = .returned (.tuple #[.string s, .string ⟨#[]⟩, .bool false]) ∧ ∃ n, w' = w.drewN n := by
  have hq := fun w => Tryd.stringslite_Index_one s 10 w
  rw [nl_idx, if_neg h] at hq
  go_enter Tryd.func64, Tryd.ntmps64
  go_wp2_with fail
  refine (hq _).mono ?_
  rintro e w' ⟨rfl, rfl⟩
  go_wp2_with fail
  go_ret3
  exact ⟨rfl, 0, rfl⟩

theorem Cut10_in (s : ByteArray) (w : World) (hs : s.size ≤ 1000000) (h : nlF s < s.size) :
    Calls Tryd.prog 49 #[.string s, .string ⟨#[10]⟩] w fun e w' => e = .returned (.tuple #[.string (s.extract 0 (nlF s)), .string (s.extract (nlF s + 1) s.size), .bool true]) ∧ ∃ n, w' = w.drewN n := by
  have hq := fun w => cut10_in s w hs h
  go_enter Tryd.func49, Tryd.ntmps49
  go_wp2_with fail
  refine (hq _).mono ?_
  rintro e w' ⟨rfl, n, rfl⟩
  go_wp2_with fail
  go_ret3
  exact ⟨rfl, n, rfl⟩

theorem Cut10_out (s : ByteArray) (w : World) (hs : s.size ≤ 1000000) (h : ¬ nlF s < s.size) :
    Calls Tryd.prog 49 #[.string s, .string ⟨#[10]⟩] w fun e w' => e = .returned (.tuple #[.string s, .string ⟨#[]⟩, .bool false]) ∧ ∃ n, w' = w.drewN n := by
  have hq := fun w => cut10_out s w hs h
  go_enter Tryd.func49, Tryd.ntmps49
  go_wp2_with fail
  refine (hq _).mono ?_
  rintro e w' ⟨rfl, n, rfl⟩
  go_wp2_with fail
  go_ret3
  exact ⟨rfl, n, rfl⟩

theorem leadFrom_split (l cs : List UInt8) : ∃ p q, l = p ++ q ∧ (∀ x ∈ p, cs.contains x = true) ∧ leadFrom l cs = p.length ∧ (q = [] ∨ ∃ y r, q = y :: r ∧ cs.contains y = false) := by
  refine ⟨l.takeWhile fun c => cs.contains c, l.dropWhile fun c => cs.contains c, (List.takeWhile_append_dropWhile).symm, fun x hx => ?_, rfl, ?_⟩
  · exact List.all_eq_true.1 (List.all_takeWhile) x hx
  · induction l with
    | nil => exact Or.inl rfl
    | cons a t ih =>
      rw [List.dropWhile_cons]
      split
      · exact ih
      · rename_i h; exact Or.inr ⟨a, t, rfl, by simpa using h⟩

theorem blank_ne {c : UInt8} (h : blankU c = true) : c ≠ 10 := by rintro rfl; exact absurd h (by decide)

/-- a line that has nothing but blanks ends the rest -/
theorem rest_line (s : ByteArray) : restF2 s 0 = if (s.extract 0 (nlF s)).data.toList.all blankU = true then some (if nlF s < s.size then nlF s + 1 else s.size) else none := by
  have hx : (s.extract 0 (nlF s)).data.toList = s.data.toList.takeWhile (· != 10) := by
    rw [Lib.extract_data, List.drop_zero, Nat.sub_zero]
    unfold nlF
    generalize s.data.toList = l
    induction l with
    | nil => rfl
    | cons a t ih =>
      rw [List.takeWhile_cons]
      split
      · rw [List.length_cons, List.take_succ_cons, ih]
      · rfl
  rw [hx]
  unfold restF2 skipN nlF byteU
  simp only [Nat.zero_add, leadN_list, List.drop_zero]
  rw [← lst_size]
  generalize s.data.toList = l
  obtain ⟨p, q, hl, hp, he, hq⟩ := leadFrom_split l blanksT.data.toList
  rw [he]
  simp only [blanks_contains] at hp hq
  have htp : ∀ r : List UInt8, (p ++ r).takeWhile (· != 10) = p ++ r.takeWhile (· != 10) := by
    intro r
    rw [List.takeWhile_append_of_pos]
    intro x hx2
    simpa using blank_ne (hp x hx2)
  rcases hq with rfl | ⟨y, r, rfl, hy⟩
  · rw [List.append_nil] at hl
    subst l
    have ht : p.takeWhile (· != 10) = p := by have := htp []; simpa using this
    rw [ht, if_pos (Nat.le_refl _), if_neg (Nat.lt_irrefl _), if_pos (List.all_eq_true.2 hp)]
  · subst l
    rw [htp, List.length_append, List.length_cons, if_neg (by omega)]
    have hg : (p ++ y :: r).getD p.length 0 = y := by simp [List.getD_eq_getElem?_getD]
    rw [hg]
    by_cases h10 : y = 10
    · subst h10
      rw [if_pos rfl, List.takeWhile_cons]
      simp only [bne_self_eq_false, Bool.false_eq_true, if_false, List.append_nil]
      rw [if_pos (List.all_eq_true.2 hp), if_pos (by omega)]
    · rw [if_neg h10, if_neg]
      intro hall
      rw [List.takeWhile_cons, if_pos (by simpa using h10), List.all_append, List.all_cons, hy] at hall
      simp at hall

def restP (s : ByteArray) : Int × Bool := match restF2 s 0 with | some e => ((e : Nat), true) | none => (0, false)

theorem restP_eq (s l : ByteArray) (hl : s.extract 0 (nlF s) = l) : restP s = if (trimB l blanksT).toList.isEmpty = true then (((if nlF s < s.size then nlF s + 1 else s.size : Nat) : Int), true) else (0, false) := by
  have he : (trimB l blanksT).toList.isEmpty = l.data.toList.all blankU := emptyB_all l
  unfold restP
  rw [rest_line, he, hl]
  split
  · rename_i h
    split at h
    · rename_i h2; rw [if_pos h2]; simp only [Option.some.injEq] at h; rw [h]
    · cases h
  · rename_i h
    split at h
    · cases h
    · rename_i h2; rw [if_neg h2]

set_option maxHeartbeats 1000000 in
set_option maxRecDepth 100000 in
theorem rest_calls (s : ByteArray) (w : World) (hs : s.size ≤ 1000000) :
    Calls Tryd.prog 25 #[.string s] w fun e w' => e = .returned (.tuple #[.int .i64 (restP s).1, .bool (restP s).2]) ∧ Below w.heap.size w w' := by
  have hnl := nl_le s
  by_cases h : nlF s < s.size
  · have hr := Lib.hid (restP_eq s _ rfl)
    rw [if_pos h] at hr
    have hq := fun w => Cut10_in s w hs h
    have ht := fun w => trimAll_calls (s.extract 0 (nlF s)) blanksT w (by rw [ByteArray.size_extract]; omega) (by decide) blanks_ascii
    have hz : (s.extract 0 (nlF s)).size = nlF s := by rw [ByteArray.size_extract]; omega
    generalize trimB (s.extract 0 (nlF s)) blanksT = T at *
    generalize s.extract 0 (nlF s) = L at *
    generalize s.extract (nlF s + 1) s.size = M at *
    generalize nlF s = i at *
    cases hT : T.toList.isEmpty with
    | true =>
      have hr2 : Hid (restP s = (((L.size + 1 : Nat) : Int), true)) := by show _ = _; rw [hr.out, hT, hz]; rfl
      have hLz : L.size ≤ 1000000 := by omega
      clear hr hz h hnl
      go_enter Tryd.func25, Tryd.ntmps25
      go_wp2_with fail
      refine (hq _).mono ?_
      rintro e w1 ⟨rfl, n, rfl⟩
      go_wp2_with fail
      refine (ht _).mono ?_
      rintro e w1 ⟨rfl, hB⟩
      go_wp2_with fail
      go_ret2
      exact ⟨ret_ib (by rw [hr2.out]; simp) (by rw [hr2.out]), (bel_drewN (Below.refl _ _) _).trans hB⟩
    | false =>
      have hr2 : Hid (restP s = (0, false)) := by show _ = _; rw [hr.out, hT]; rfl
      clear hr hz h hnl
      go_enter Tryd.func25, Tryd.ntmps25
      go_wp2_with fail
      refine (hq _).mono ?_
      rintro e w1 ⟨rfl, n, rfl⟩
      go_wp2_with fail
      refine (ht _).mono ?_
      rintro e w1 ⟨rfl, hB⟩
      go_wp2_with fail
      go_ret2
      exact ⟨ret_ib (by rw [hr2.out]) (by rw [hr2.out]), (bel_drewN (Below.refl _ _) _).trans hB⟩
  · have hr := Lib.hid (restP_eq s _ rfl)
    rw [if_neg h] at hr
    have hq := fun w => Cut10_out s w hs h
    have hall : s.extract 0 (nlF s) = s := by rw [show nlF s = s.size by omega]; exact ByteArray.extract_zero_size
    rw [hall] at hr
    have ht := fun w => trimAll_calls s blanksT w hs (by decide) blanks_ascii
    generalize trimB s blanksT = T at *
    cases hT : T.toList.isEmpty with
    | true =>
      have hr2 : Hid (restP s = (((s.size : Nat) : Int), true)) := by show _ = _; rw [hr.out, hT]; rfl
      clear hr hall h hnl
      go_enter Tryd.func25, Tryd.ntmps25
      go_wp2_with fail
      refine (hq _).mono ?_
      rintro e w1 ⟨rfl, n, rfl⟩
      go_wp2_with fail
      refine (ht _).mono ?_
      rintro e w1 ⟨rfl, hB⟩
      go_wp2_with fail
      go_ret2
      exact ⟨ret_ib (by rw [hr2.out]) (by rw [hr2.out]), (bel_drewN (Below.refl _ _) _).trans hB⟩
    | false =>
      have hr2 : Hid (restP s = (0, false)) := by show _ = _; rw [hr.out, hT]; rfl
      clear hr hall h hnl
      go_enter Tryd.func25, Tryd.ntmps25
      go_wp2_with fail
      refine (hq _).mono ?_
      rintro e w1 ⟨rfl, n, rfl⟩
      go_wp2_with fail
      refine (ht _).mono ?_
      rintro e w1 ⟨rfl, hB⟩
      go_wp2_with fail
      go_ret2
      exact ⟨ret_ib (by rw [hr2.out]) (by rw [hr2.out]), (bel_drewN (Below.refl _ _) _).trans hB⟩

end Go.Proofs.YtcpbljhogenjoaaDoor
