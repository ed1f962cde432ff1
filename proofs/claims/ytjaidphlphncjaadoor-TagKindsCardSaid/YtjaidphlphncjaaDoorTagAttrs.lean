/- Walk: tag's reader: attributes. -/
import Derived.Test.YtjaidphlphncjaaDoorTagValue
import Derived.Deep.LoopGhost
import Derived.Lib.IndexLaws
namespace Go.Proofs.YtjaidphlphncjaaDoor
set_option linter.unusedVariables false
set_option linter.unusedSimpArgs false
open Go Go.RowKit Go.Lib

theorem Only.over {b B : Nat} {w w1 w2 : World} (h : Only b w w1) (h2 : Below B w1 w2) (hb : b ≤ B) (hB : w.heap.size ≤ B) : Only b w w2 :=
  ⟨h.below.trans (h2.mono hb), fun k hk hne => (h2.block k (by omega)).trans (h.far k hk hne)⟩

theorem word_at (s first more : ByteArray) (a b : Nat) (w : World) (hr : At s a b w) (hs : s.size ≤ 1000000) (hm : more.size ≤ 1000000) (hA : Ascii more.data.toList) (h0 : a < s.size) (hf : first.data.toList.contains (byteU s a) = true) :
    Calls Tryd.prog 47 #[.pointer (some ⟨b, 0, none⟩), .string first, .string more] w fun e w' => (∃ x, e = .returned (.string x)) ∧ At s (skipN s more a) b w' ∧ Only b w w' := by
  have h0' : 0 < (s.extract a s.size).size := by rw [Lib.tail_size]; omega
  refine (word_yes _ first more b w hr (by rw [Lib.tail_size]; omega) hm hA h0' (by rw [tail_first s a h0 h0']; exact hf)).mono ?_
  rintro e w' ⟨h1, h2, h3⟩
  rw [cut_at] at h2
  exact ⟨⟨_, h1⟩, h2, h3⟩

theorem word_miss (s first more : ByteArray) (a b : Nat) (w : World) (hr : At s a b w) (h : s.size ≤ a ∨ a < s.size ∧ first.data.toList.contains (byteU s a) = false) :
    Calls Tryd.prog 47 #[.pointer (some ⟨b, 0, none⟩), .string first, .string more] w fun e w' => e = .panicked missedP ∧ Only b w w' := by
  refine word_no _ first more b w hr ?_
  rcases h with h | ⟨h0, h⟩
  · exact Or.inl (by rw [Lib.tail_size]; omega)
  · have h0' : 0 < (s.extract a s.size).size := by rw [Lib.tail_size]; omega
    exact Or.inr ⟨h0', by rw [tail_first s a h0 h0']; exact h⟩

theorem attrs_step (s : ByteArray) (f a : Nat) (h : attrStart s a = true) : attrsF s (f + 1) a = (attrNext s a).bind (attrsF s f) := by
  unfold attrsF
  rw [if_pos h]
theorem attrs_stop (s : ByteArray) (f a : Nat) (h : attrStart s a = false) : attrsF s (f + 1) a = some (skipN s gapT a) := by
  unfold attrsF
  rw [h]; rfl

theorem quoteEnd_bd (s : ByteArray) (c : UInt8) (a k : Nat) (h : quoteEnd s c a = some k) : a < k ∧ k ≤ s.size := by
  unfold quoteEnd at h
  split at h
  · rename_i h0
    obtain ⟨i, hi⟩ := Int.eq_ofNat_of_zero_le h0
    rw [hi] at h
    have h1 := (Lib.indexByte_some hi).1
    have h2 : i < (s.data.toList.drop a).length := by
      by_cases hc : i < (s.data.toList.drop a).length
      · exact hc
      · rw [List.getElem?_eq_none (by omega)] at h1; cases h1
    rw [List.length_drop, lst_size] at h2
    simp only [Int.toNat_natCast, Option.some.injEq] at h
    omega
  · cases h

theorem valueF_bd (s : ByteArray) (a k : Nat) (h : valueF s a = some k) : a < k ∧ k ≤ s.size := by
  unfold valueF at h
  split at h
  · split at h
    · have := quoteEnd_bd s _ _ _ h; omega
    · split at h
      · cases h
      · rename_i h0 h1 h2
        simp only [Option.some.injEq] at h
        have hl : bareN s a ≤ s.size - a := by
          unfold bareN
          have := (List.takeWhile_sublist (fun c => !(stopU c)) (l := s.data.toList.drop a)).length_le
          rw [List.length_drop, lst_size] at this; omega
        omega
  · cases h

theorem isEmpty_size (x : ByteArray) : x.toList.isEmpty = decide (x.size = 0) := by
  by_cases h : x.size = 0
  · rw [size_isEmpty h, decide_eq_true h]
  · rw [toList_ne (by omega), decide_eq_false h]

set_option maxHeartbeats 4000000 in
set_option maxRecDepth 100000 in
theorem attributes_calls (s : ByteArray) (a b : Nat) (w : World) (hr : At s a b w) (hM : MaxL w) (hg : 0 < b) (hs : s.size ≤ 1000000) (ha : a ≤ s.size) (f : Nat) (hf : s.size - a < f) :
    Calls Tryd.prog 49 #[.pointer (some ⟨b, 0, none⟩)] w fun e w' => Goes s b (attrsF s f a) w e w' := by
  have HM := Lib.hid hM
  have hl := Rdr.lt hr
  have HR : Hid (At s a b w) := hr
  clear hM hr
  go_enter Tryd.func49, Tryd.ntmps49
  go_wp2_with fail
  go_loopg [] (s.size - a) (fun gk wr => ∃ p f' : Nat, Aside (gk = s.size - p) ∧ p ≤ s.size ∧ Aside (s.size - p < f') ∧ Hid (attrsF s f a = attrsF s f' p) ∧ Hid (At s p b wr) ∧ Hid (Only b w wr))
  case atStart => exact ⟨a, f, rfl, ha, hf, rfl, HR.out, Only.refl _ _⟩
  case round =>
    obtain ⟨p, f', hgk, hp, hf', he, hR, hO⟩ := hrel
    obtain ⟨f1, rfl⟩ : ∃ f1, f' = f1 + 1 := ⟨f' - 1, by have := hf'.out; omega⟩
    have hsk := skip_le s gapT p hp
    have hsg := skip_ge s gapT p
    go_upto_region 0 with (fail)
    go_cut [21] (fun v wx => v = .bool (attrStart s p) ∧ Aside (At s (skipN s gapT p) b wx) ∧ Aside (Only b w wx))
    case first =>
      clear he
      go_wp2_with fail
      refine (eat_at s gapT p b _ hR.out hs (by decide) gap_ascii).mono ?_
      rintro e w1 ⟨⟨x, rfl, hx⟩, R1, O1⟩
      have hxe := isEmpty_size x
      have O2 := Lib.hid (hO.out.trans O1)
      have R2 : Hid (At s (skipN s gapT p) b w1) := R1
      have hskd : skipN s gapT p = p + leadN s gapT p := rfl
      clear hR hO O1
      have c1 := Rdr.cell R2.out
      have z1 := Rdr.lt R2.out
      clear R1
      by_cases hx0 : x.size = 0
      · have hxb : x.toList.isEmpty = true := size_isEmpty hx0
        have hst : Hid (attrStart s p = false) := by
          show _ = _
          unfold attrStart; rw [decide_eq_false (p := p < skipN s gapT p) (by omega)]; rfl
        clear hxe hx hx0
        go_wp2_with fail
        go_meet
        exact ⟨by rw [hst.out], R2.out, O2.out⟩
      · have hxb : x.toList.isEmpty = false := toList_ne (by omega)
        have hgt : p < skipN s gapT p := by omega
        clear hxe hx hx0
        by_cases hq : skipN s gapT p < s.size
        · have hq' : 0 < (s.extract (skipN s gapT p) s.size).size := by rw [Lib.tail_size]; omega
          have hne := toList_ne hq'
          have hfst := tail_first s _ hq hq'
          have hst : Hid (attrStart s p = firstU (byteU s (skipN s gapT p))) := by
            show _ = _
            unfold attrStart; rw [decide_eq_true hgt, decide_eq_true hq]; rfl
          have hi := idx_in firstT.data.toList (s.extract (skipN s gapT p) s.size)[0]
          rw [first_contains, hfst, ← hst.out, ← hfst] at hi
          clear hfst hq hgt hsg hsk hskd hst
          generalize s.extract (skipN s gapT p) s.size = t at *
          go_wp2_with fail
          refine (Tryd.strings_IndexByte _ _ _).mono ?_
          rintro e w2 ⟨rfl, rfl⟩
          unfold firstT at hi
          generalize Lib.indexByte _ ((t[0].toNat : Int).toNat.toUInt8) = i at *
          go_wp2_with fail
          go_meet
          exact ⟨by rw [← hi], R2.out, O2.out⟩
        · have hz := size_isEmpty (s := s.extract (skipN s gapT p) s.size) (by rw [Lib.tail_size]; omega)
          have hst : Hid (attrStart s p = false) := by
            show _ = _
            unfold attrStart; rw [decide_eq_false (p := skipN s gapT p < s.size) hq]; simp
          clear hskd hq hgt hsk hsg
          generalize s.extract (skipN s gapT p) s.size = t at *
          go_wp2_with fail
          go_meet
          exact ⟨by rw [hst.out], R2.out, O2.out⟩
    case rest =>
      obtain ⟨rfl, R, O⟩ := hcut
      clear hR hO
      cases hst : attrStart s p with
      | false =>
        have hres := Lib.hid (he.out.trans (attrs_stop s f1 p hst))
        clear he hst
        go_wp2_with fail
        go_end0
        unfold Goes
        rw [hres.out]
        exact ⟨⟨rfl, R.out⟩, O.out⟩
      | true =>
        have hstp := Lib.hid (he.out.trans (attrs_step s f1 p hst))
        obtain ⟨g1, g2, g3⟩ : p < skipN s gapT p ∧ skipN s gapT p < s.size ∧ firstU (byteU s (skipN s gapT p)) = true := by
          have h := hst
          unfold attrStart at h
          simp only [Bool.and_eq_true, decide_eq_true_eq] at h
          exact h
        have hnx : Hid (attrNext s p = if skipN s gapT (skipN s attrT (skipN s gapT p)) < s.size ∧ byteU s (skipN s gapT (skipN s attrT (skipN s gapT p))) = 61 then valueF s (skipN s gapT (skipN s gapT (skipN s attrT (skipN s gapT p)) + 1)) else some (skipN s attrT (skipN s gapT p))) := rfl
        have hw := word_at s firstT attrT (skipN s gapT p) b _ R.out hs (by decide) attr_ascii g2 (by rw [first_contains]; exact g3)
        have k1 := skip_le s attrT _ (Nat.le_of_lt g2)
        have k0 := skip_ge s attrT (skipN s gapT p)
        generalize skipN s attrT (skipN s gapT p) = k at *
        generalize skipN s gapT p = p1 at *
        clear he hst g3
        go_wp2_with fail
        refine hw.mono ?_
        rintro e w1 ⟨⟨x, rfl⟩, R1, O1⟩
        have O2 := Lib.hid (O.out.trans O1)
        have R2 : Hid (At s k b w1) := R1
        have c1 := Rdr.cell R1
        have z1 := Rdr.lt R1
        have zw := O2.out.below.size
        clear hw O O1 R R1
        have hE1 := skip_le s gapT k k1
        go_wp2_with fail
        have RA : At s k w1.heap.size (w1.alloc (Obj.cells #[Value.string (s.extract k s.size)] 40)) := heap_alloc_new w1 _
        have BA : Below w1.heap.size w1 (w1.alloc (Obj.cells #[Value.string (s.extract k s.size)] 40)) := (Below.refl _ _).alloc (Nat.le_refl _) _
        generalize w1.alloc (Obj.cells #[Value.string (s.extract k s.size)] 40) = W at *
        have hM1 := Lib.hid (HM.out.below O2.out.below hg)
        have hB2 : Hid (b < w1.heap.size ∧ w.heap.size ≤ w1.heap.size) := ⟨z1, zw⟩
        generalize w1.heap.size = b2 at *
        clear c1
        refine (eat_at s gapT k b2 W RA hs (by decide) gap_ascii).mono ?_
        rintro e w2 ⟨⟨y, rfl, hy⟩, R3, O3⟩
        clear hy
        have B3 := BA.trans O3.below
        clear RA BA O3
        have hqk := skip_ge s gapT k
        generalize skipN s gapT k = q at *
        have e61 : byteU s q = 61 → q < s.size := fun h => by
          by_cases hq : q < s.size
          · exact hq
          · rw [byteU_out s q (by omega)] at h; exact absurd h (by decide)
        go_wp2_with fail
        cases hv : (byteU s q == 61) with
        | false =>
          have hnx2 := Lib.hid (hnx.out.trans (if_neg (fun h => by rw [h.2] at hv; exact absurd hv (by decide))))
          refine (take_at s 61 (by decide) q b2 w2 R3 false hv).mono ?_
          rintro e w3 ⟨rfl, R4, O4⟩
          have B4 := B3.trans O4.below
          have RF : Hid (At s k b w3) := Rdr.keep R2.out B4 hB2.out.1
          have OF := Lib.hid (O2.out.over B4 (Nat.le_of_lt hB2.out.1) hB2.out.2)
          clear hv R4 O4 B4 R3 B3 hnx e61
          go_wp2_with fail
          go_roundg (s.size - k)
          case measure => have := hgk.out; omega
          case rel => exact ⟨k, f1, rfl, k1, (by have := hf'.out; show _ < _; omega), (by show _ = _; rw [hstp.out, hnx2.out]; rfl), RF.out, OF.out⟩
        | true =>
          have hq61 : byteU s q = 61 := eq_of_beq hv
          have hqs := e61 hq61
          have hnx2 := Lib.hid (hnx.out.trans (if_pos ⟨hqs, hq61⟩))
          refine (take_at s 61 (by decide) q b2 w2 R3 true hv).mono ?_
          rintro e w3 ⟨rfl, R4, O4⟩
          rw [if_pos rfl] at R4
          have B4 := B3.trans O4.below
          clear hv R3 B3 hnx e61 hq61 O4
          have hE2 := skip_le s gapT (q + 1) (by omega)
          go_wp2_with fail
          refine (eat_at s gapT (q + 1) b2 w3 R4 hs (by decide) gap_ascii).mono ?_
          rintro e w4 ⟨⟨y2, rfl, hy⟩, R5, O5⟩
          clear hy
          have B5 := B4.trans O5.below
          clear R4 B4 O5
          have hq2k := skip_ge s gapT (q + 1)
          generalize skipN s gapT (q + 1) = q2 at *
          have hM5 := hM1.out.below B5 (by have := hB2.out.1; omega)
          go_wp2_with fail
          refine (value_calls s q2 b2 w4 R5 hM5 (by have := hB2.out.1; omega) hs hE2).mono ?_
          rintro e w5 ⟨hG, O6⟩
          have B6 := B5.trans O6.below
          clear R5 B5 O6 hM5
          have hG' : (match valueF s q2 with | none => e = .panicked missedP | some k => e = .returned (.tuple #[]) ∧ At s k b2 w5) := hG
          clear hG
          obtain ⟨r, hval⟩ : ∃ r, valueF s q2 = r := ⟨_, rfl⟩
          rw [hval] at hG'
          cases r with
          | none =>
            obtain rfl : e = .panicked missedP := hG'
            have hend : Hid (attrsF s f a = none) := by
              show _ = _
              rw [hstp.out, hnx2.out, hval]; rfl
            have OF := Lib.hid (O2.out.over B6 (Nat.le_of_lt hB2.out.1) hB2.out.2)
            clear hval
            go_wp2_with fail
            refine ⟨rfl, ?_⟩
            show Goes s b (attrsF s f a) w (.panicked missedP) w5
            unfold Goes
            rw [hend.out]
            exact ⟨rfl, OF.out⟩
          | some k' =>
            obtain ⟨rfl, R6⟩ : e = .returned (.tuple #[]) ∧ At s k' b2 w5 := hG'
            obtain ⟨v1, v2⟩ := valueF_bd s q2 k' hval
            have hst2 := Lib.hid (hstp.out.trans (by rw [hnx2.out, hval]; rfl : (attrNext s p).bind (attrsF s f1) = attrsF s f1 k'))
            have RB : Hid (At s k b w5) := Rdr.keep R2.out B6 hB2.out.1
            have OF := Lib.hid (O2.out.over B6 (Nat.le_of_lt hB2.out.1) hB2.out.2)
            have c6 := Rdr.cell R6
            have c7 := Rdr.cell RB.out
            have f7 := Rdr.free RB.out
            have z7 := Rdr.lt RB.out
            clear hval hstp hnx2 B6 R6
            go_wp2_with fail
            go_roundg (s.size - k')
            case measure => have := hgk.out; omega
            case rel => exact ⟨k', f1, rfl, v2, (by have := hf'.out; show _ < _; omega), hst2.out, Rdr.set RB.out _, OF.out.set _⟩

end Go.Proofs.YtjaidphlphncjaaDoor
