/- Plain: a tag that is made of names and values is a whole one. No program in sight. -/
import Derived.Test.YtjaidphlphncjaaDoorTagBehindPlain
namespace Go.Proofs.YtjaidphlphncjaaDoor
set_option linter.unusedVariables false
set_option linter.unusedSimpArgs false
open Go Go.RowKit Go.Lib

theorem gd_app_r (P l : List UInt8) (i : Nat) : (P ++ l).getD (P.length + i) 0 = l.getD i 0 := by
  rw [List.getD_eq_getElem?_getD, List.getD_eq_getElem?_getD, List.getElem?_append_right (by omega)]
  congr 2; omega
theorem gd_app_l (P l : List UInt8) (i : Nat) (h : i < P.length) : (P ++ l).getD i 0 = P.getD i 0 := by
  rw [List.getD_eq_getElem?_getD, List.getD_eq_getElem?_getD, List.getElem?_append_left h]

/-- a run of bytes of a set, and then none -/
theorem skip_is (s set : ByteArray) (u : UInt8 → Bool) (hu : ∀ c, set.data.toList.contains c = u c) : ∀ (m a : Nat), a + m ≤ s.size → (∀ i, i < m → u (byteU s (a + i)) = true) → u (byteU s (a + m)) = false → skipN s set a = a + m := by
  intro m
  induction m with
  | zero =>
    intro a hs _ h
    unfold skipN
    by_cases hlt : a < s.size
    · rw [leadN_by s set a hlt, hu]
      rw [Nat.add_zero] at h
      rw [h]; simp
    · rw [leadN_end s set a (by omega)]
  | succ m ih =>
    intro a hs h h2
    have e := leadN_by s set a (by omega)
    have h0 := h 0 (by omega)
    rw [Nat.add_zero] at h0
    rw [hu, h0, if_pos rfl] at e
    have := ih (a + 1) (by omega) (fun i hi => by rw [show a + 1 + i = a + (i + 1) from by omega]; exact h (i + 1) (by omega)) (by rw [show a + 1 + m = a + (m + 1) from by omega]; exact h2)
    unfold skipN at this ⊢
    omega

/-- what has been passed over is in the set, and what stands there is not -/
theorem skip_has (s set : ByteArray) (u : UInt8 → Bool) (hu : ∀ c, set.data.toList.contains c = u c) : ∀ (d a : Nat), s.size - a = d → (∀ i, a ≤ i → i < skipN s set a → u (byteU s i) = true) ∧ (skipN s set a < s.size → u (byteU s (skipN s set a)) = false) := by
  intro d
  induction d with
  | zero =>
    intro a hd
    have e := leadN_end s set a (by omega)
    unfold skipN
    rw [e]
    exact ⟨fun i h1 h2 => by omega, fun h => by omega⟩
  | succ d ih =>
    intro a hd
    have e := leadN_by s set a (by omega)
    rw [hu] at e
    unfold skipN
    cases hc : u (byteU s a) with
    | false =>
      rw [hc, if_neg (by simp)] at e
      rw [e]
      exact ⟨fun i h1 h2 => by omega, fun h => hc⟩
    | true =>
      rw [hc, if_pos rfl] at e
      obtain ⟨i1, i2⟩ := ih (a + 1) (by omega)
      unfold skipN at i1 i2
      rw [e]
      refine ⟨fun i h1 h2 => ?_, fun h => ?_⟩
      · by_cases hia : i = a
        · rw [hia]; exact hc
        · exact i1 i (by omega) (by omega)
      · rw [show a + (leadN s set (a + 1) + 1) = a + 1 + leadN s set (a + 1) from by omega]
        exact i2 (by omega)

theorem quote_is (s : ByteArray) (c : UInt8) : ∀ (m a : Nat), a + m < s.size → (∀ i, i < m → byteU s (a + i) ≠ c) → byteU s (a + m) = c → quoteEnd s c a = some (a + m + 1) := by
  intro m
  induction m with
  | zero =>
    intro a hs _ h
    rw [quoteN_step s c a (by omega), if_pos (by simpa using h)]
  | succ m ih =>
    intro a hs h h2
    have h0 := h 0 (by omega)
    rw [Nat.add_zero] at h0
    rw [quoteN_step s c a (by omega), if_neg (by simpa using h0)]
    rw [ih (a + 1) (by omega) (fun i hi => by rw [show a + 1 + i = a + (i + 1) from by omega]; exact h (i + 1) (by omega)) (by rw [show a + 1 + m = a + (m + 1) from by omega]; exact h2)]
    congr 1; omega

/-- a good name: a letter, and then letters, digits and hyphens -/
def goodName (N : List UInt8) : Prop := 0 < N.length ∧ letterU (N.getD 0 0) = true ∧ ∀ i, i < N.length → nameU (N.getD i 0) = true
def goodAttr (A : List UInt8) : Prop := 0 < A.length ∧ firstU (A.getD 0 0) = true ∧ ∀ i, i < A.length → attrU (A.getD i 0) = true

theorem name_not (c : UInt8) (h : nameU c = true) : gapU c = false ∧ c ≠ 47 ∧ c ≠ 62 ∧ c ≠ 61 := by
  refine ⟨?_, ?_, ?_, ?_⟩
  · cases hg : gapU c with
    | false => rfl
    | true =>
      unfold gapU at hg
      simp only [Bool.or_eq_true, beq_iff_eq] at hg
      rcases hg with rfl | rfl | rfl <;> exact absurd h (by decide)
  · rintro rfl; exact absurd h (by decide)
  · rintro rfl; exact absurd h (by decide)
  · rintro rfl; exact absurd h (by decide)
theorem gap_not (c : UInt8) (h : gapU c = true) : c = 32 ∨ c = 9 ∨ c = 10 := by
  unfold gapU at h
  simp only [Bool.or_eq_true, beq_iff_eq] at h
  exact h

theorem byteU_list {s : ByteArray} {l : List UInt8} (h : s.data.toList = l) (i : Nat) : byteU s i = l.getD i 0 := by unfold byteU; rw [h]
theorem size_list {s : ByteArray} {l : List UInt8} (h : s.data.toList = l) : s.size = l.length := by rw [← lst_size, h]

/-- what "<name>" tells of a name without blanks and slashes -/
theorem bare_name (N : List UInt8) (t : ByteArray) (ht : t.data.toList = 60 :: (N ++ [62])) (hN : ∀ i, i < N.length → gapU (N.getD i 0) = false ∧ N.getD i 0 ≠ 47) (h : openF t = some (N.length + 2)) : goodName N := by
  obtain ⟨h0, hz, h1, h2⟩ := open_parts t _ h
  have hsz := size_list ht
  simp only [List.length_cons, List.length_append, List.length_nil] at hsz
  have bN : ∀ i, i < N.length → byteU t (i + 1) = N.getD i 0 := fun i hi => by rw [byteU_list ht]; exact gd_app_l N [62] i hi
  have bE : byteU t (N.length + 1) = 62 := by
    rw [byteU_list ht]
    have := gd_app_r N [62] 0
    exact this
  have hpos : 0 < N.length := by
    by_cases hp : 0 < N.length
    · exact hp
    · have hn : N.length = 0 := by omega
      have sl : slashF t 1 = 1 := by unfold slashF; rw [if_neg (by rintro ⟨_, hh⟩; rw [show (1 : Nat) = N.length + 1 from by omega, bE] at hh; exact absurd hh (by decide))]
      rw [sl, show (1 : Nat) = N.length + 1 from by omega, bE] at h1
      exact absurd h1.2 (by decide)
  have sl : slashF t 1 = 1 := by
    unfold slashF
    rw [if_neg (by rintro ⟨_, hh⟩; have := bN 0 hpos; rw [Nat.zero_add] at this; rw [this] at hh; exact (hN 0 hpos).2 hh)]
  rw [sl] at h1 h2
  have hl : letterU (N.getD 0 0) = true := by
    have := bN 0 hpos
    rw [Nat.zero_add] at this
    rw [← this]; exact h1.2
  -- no gap anywhere
  have nogap : ∀ i, 1 ≤ i → i < t.size → gapU (byteU t i) = false := fun i hi1 hi2 => by
    by_cases hi : i < N.length + 1
    · have := bN (i - 1) (by omega)
      rw [show i - 1 + 1 = i from by omega] at this
      rw [this]; exact (hN (i - 1) (by omega)).1
    · rw [show i = N.length + 1 from by omega, bE]; decide
  have hk1 := skip_ge t nameT 1
  have hk2 := skip_le t nameT 1 (by omega)
  have skg : ∀ a, 1 ≤ a → a ≤ t.size → skipN t gapT a = a := fun a h1 h2 => by
    by_cases hlt : a < t.size
    · exact skip_is t gapT gapU gap_contains 0 a (by omega) (fun i hi => by omega) (by rw [Nat.add_zero]; exact nogap a h1 hlt)
    · unfold skipN; rw [leadN_end t gapT a (by omega)]; rfl
  have hk : skipN t nameT 1 = N.length + 1 := by
    rcases h2 with ⟨hf, _⟩ | ⟨_, e, hc, hd⟩
    · omega
    · have hst : attrStart t (skipN t nameT 1) = false := by unfold attrStart; rw [skg _ hk1 hk2, decide_eq_false (by omega)]; rfl
      rw [attrsB_stop _ _ _ hst, skg _ hk1 hk2] at hc
      simp only [Option.some.injEq] at hc
      rw [← hc] at hd
      have c := closeB t _ _ hd
      have sb := slashB t (skipN t nameT 1)
      by_cases h47 : slashF t (skipN t nameT 1) = skipN t nameT 1
      · rw [h47] at c; omega
      · -- a slash within the name
        exfalso
        have hs : skipN t nameT 1 < t.size ∧ byteU t (skipN t nameT 1) = 47 := by
          unfold slashF at h47
          split at h47
          · rename_i hh; exact hh
          · exact absurd rfl h47
        by_cases hi : skipN t nameT 1 < N.length + 1
        · have := bN (skipN t nameT 1 - 1) (by omega)
          rw [show skipN t nameT 1 - 1 + 1 = skipN t nameT 1 from by omega] at this
          rw [this] at hs
          exact (hN _ (by omega)).2 hs.2
        · rw [show skipN t nameT 1 = N.length + 1 from by omega, bE] at hs
          exact absurd hs.2 (by decide)
  refine ⟨hpos, hl, fun i hi => ?_⟩
  have := (skip_has t nameT nameU name_contains _ 1 rfl).1 (i + 1) (by omega) (by omega)
  rw [bN i hi] at this
  exact this

/-- bytes of a text made of a name and more behind it -/
theorem lay_name (N l : List UInt8) (t : ByteArray) (ht : t.data.toList = 60 :: (N ++ l)) :
    byteU t 0 = 60 ∧ (∀ i, i < N.length → byteU t (i + 1) = N.getD i 0) ∧ (∀ i, byteU t (N.length + 1 + i) = l.getD i 0) ∧ t.size = N.length + 1 + l.length := by
  refine ⟨by rw [byteU_list ht]; rfl, fun i hi => by rw [byteU_list ht]; exact gd_app_l N l i hi, fun i => ?_, ?_⟩
  · rw [byteU_list ht, show N.length + 1 + i = (N.length + i) + 1 from by omega]
    exact gd_app_r N l i
  · have := size_list ht
    simp only [List.length_cons, List.length_append] at this
    omega

theorem slash_no (t : ByteArray) (a : Nat) (h : byteU t a ≠ 47) : slashF t a = a := by unfold slashF; rw [if_neg (fun x => h x.2)]

theorem name_run (N l : List UInt8) (t : ByteArray) (ht : t.data.toList = 60 :: (N ++ l)) (hN : goodName N) (hl : nameU (l.getD 0 0) = false) :
    slashF t 1 = 1 ∧ 1 < t.size ∧ letterU (byteU t 1) = true ∧ skipN t nameT 1 = N.length + 1 := by
  obtain ⟨b0, bN, bL, hz⟩ := lay_name N l t ht
  obtain ⟨hp, h1, h2⟩ := hN
  have e1 := bN 0 hp
  rw [Nat.zero_add] at e1
  refine ⟨slash_no t 1 (by rw [e1]; intro hh; rw [hh] at h1; exact absurd h1 (by decide)), by omega, by rw [e1]; exact h1, ?_⟩
  have := skip_is t nameT nameU name_contains N.length 1 (by omega) (fun i hi => by rw [Nat.add_comm, bN i hi]; exact h2 i hi) (by
    have e := bL 0
    rw [Nat.add_zero] at e
    rw [show 1 + N.length = N.length + 1 from by omega, e]; exact hl)
  omega

/-- what "<name attribute>" tells of an attribute's name -/
theorem bare_attr (N A : List UInt8) (t : ByteArray) (ht : t.data.toList = 60 :: (N ++ (32 :: (A ++ [62])))) (hN : goodName N) (hA0 : 0 < A.length)
    (hA : ∀ i, i < A.length → gapU (A.getD i 0) = false ∧ A.getD i 0 ≠ 61 ∧ A.getD i 0 ≠ 47 ∧ A.getD i 0 ≠ 62) (h : openF t = some (N.length + A.length + 3)) : goodAttr A := by
  obtain ⟨b0, bN, bL, hz⟩ := lay_name N _ t ht
  obtain ⟨sl, z1, hl1, hk⟩ := name_run N _ t ht hN (by show nameU 32 = false; decide)
  simp only [List.length_cons, List.length_append, List.length_nil] at hz
  have bS : byteU t (N.length + 1) = 32 := bL 0
  have bA : ∀ i, i < A.length → byteU t (N.length + 2 + i) = A.getD i 0 := fun i hi => by
    have := bL (i + 1)
    rw [show N.length + 1 + (i + 1) = N.length + 2 + i from by omega] at this
    rw [this]
    exact gd_app_l A [62] i hi
  have bE : byteU t (N.length + 2 + A.length) = 62 := by
    have := bL (A.length + 1)
    rw [show N.length + 1 + (A.length + 1) = N.length + 2 + A.length from by omega] at this
    rw [this]
    exact gd_app_r A [62] 0
  obtain ⟨_, _, _, h2⟩ := open_parts t _ h
  rw [sl, hk] at h2
  have hg1 : skipN t gapT (N.length + 1) = N.length + 2 := skip_is t gapT gapU gap_contains 1 (N.length + 1) (by omega) (fun i hi => by rw [show N.length + 1 + i = N.length + 1 from by omega, bS]; decide) (by
    rw [show N.length + 1 + 1 = N.length + 2 + 0 from by omega, bA 0 hA0]; exact (hA 0 hA0).1)
  rcases h2 with ⟨hf, _⟩ | ⟨_, e, hc, hd⟩
  · omega
  have nog : ∀ a, N.length + 2 ≤ a → a ≤ N.length + 2 + A.length → gapU (byteU t a) = false := fun a h1 h2 => by
    by_cases hlt : a < N.length + 2 + A.length
    · have := bA (a - (N.length + 2)) (by omega)
      rw [show N.length + 2 + (a - (N.length + 2)) = a from by omega] at this
      rw [this]; exact (hA _ (by omega)).1
    · rw [show a = N.length + 2 + A.length from by omega, bE]; decide
  have no47 : ∀ a, N.length + 2 ≤ a → a ≤ N.length + 2 + A.length → byteU t a ≠ 47 := fun a h1 h2 => by
    by_cases hlt : a < N.length + 2 + A.length
    · have := bA (a - (N.length + 2)) (by omega)
      rw [show N.length + 2 + (a - (N.length + 2)) = a from by omega] at this
      rw [this]; exact (hA _ (by omega)).2.2.1
    · rw [show a = N.length + 2 + A.length from by omega, bE]; decide
  have skg : ∀ a, N.length + 2 ≤ a → a ≤ N.length + 2 + A.length → skipN t gapT a = a := fun a h1 h2 =>
    skip_is t gapT gapU gap_contains 0 a (by omega) (fun i hi => by omega) (by rw [Nat.add_zero]; exact nog a h1 h2)
  cases hst : attrStart t (N.length + 1) with
  | false =>
    rw [attrsB_stop _ _ _ hst, hg1] at hc
    simp only [Option.some.injEq] at hc
    rw [← hc, slash_no t _ (no47 _ (by omega) (by omega))] at hd
    have c := closeB t _ _ hd
    omega
  | true =>
    have hf1 : firstU (A.getD 0 0) = true := by
      have h3 := hst
      unfold attrStart at h3
      simp only [Bool.and_eq_true, decide_eq_true_eq] at h3
      rw [hg1] at h3
      have := bA 0 hA0
      rw [Nat.add_zero] at this
      rw [← this]; exact h3.2.2
    have hsk := skip_has t attrT attrU attr_contains _ (N.length + 2) rfl
    have hge := skip_ge t attrT (N.length + 2)
    have hle : skipN t attrT (N.length + 2) ≤ N.length + 2 + A.length := by
      by_cases hh : skipN t attrT (N.length + 2) ≤ N.length + 2 + A.length
      · exact hh
      · have := hsk.1 (N.length + 2 + A.length) (by omega) (by omega)
        rw [bE] at this
        exact absurd this (by decide)
    have hnx : attrNext t (N.length + 1) = some (skipN t attrT (N.length + 2)) := by
      unfold attrNext
      simp only [hg1]
      rw [skg _ hge hle, if_neg]
      rintro ⟨_, h61⟩
      by_cases hlt : skipN t attrT (N.length + 2) < N.length + 2 + A.length
      · have := bA (skipN t attrT (N.length + 2) - (N.length + 2)) (by omega)
        rw [show N.length + 2 + (skipN t attrT (N.length + 2) - (N.length + 2)) = skipN t attrT (N.length + 2) from by omega] at this
        rw [this] at h61
        exact (hA _ (by omega)).2.1 h61
      · rw [show skipN t attrT (N.length + 2) = N.length + 2 + A.length from by omega, bE] at h61
        exact absurd h61 (by decide)
    rw [attrsB_step _ _ _ hst, hnx] at hc
    have hc' : attrsF t t.size (skipN t attrT (N.length + 2)) = some e := hc
    have hst2 : attrStart t (skipN t attrT (N.length + 2)) = false := by unfold attrStart; rw [skg _ hge hle, decide_eq_false (by omega)]; rfl
    obtain ⟨f, hf⟩ : ∃ f, t.size = f + 1 := ⟨t.size - 1, by omega⟩
    rw [hf, attrsB_stop _ _ _ hst2, skg _ hge hle] at hc'
    simp only [Option.some.injEq] at hc'
    rw [← hc', slash_no t _ (no47 _ hge hle)] at hd
    have c := closeB t _ _ hd
    refine ⟨hA0, hf1, fun i hi => ?_⟩
    have := hsk.1 (N.length + 2 + i) (by omega) (by omega)
    rw [bA i hi] at this
    exact this

/-- the tag that is made of a name, an attribute's name and a value is a whole one -/
theorem made_open (N A V : List UInt8) (s : ByteArray) (hs : s.data.toList = 60 :: (N ++ (10 :: (A ++ (32 :: 61 :: 9 :: 34 :: (V ++ [34, 32, 47, 62])))))) (hN : goodName N) (hA : goodAttr A) (hV : ∀ i, i < V.length → V.getD i 0 ≠ 34) :
    openF s = some s.size := by
  obtain ⟨b0, bN, bL, hz⟩ := lay_name N _ s hs
  obtain ⟨sl, z1, hl1, hk⟩ := name_run N _ s hs hN (by show nameU 10 = false; decide)
  obtain ⟨a0, a1, a2⟩ := hA
  simp only [List.length_cons, List.length_append, List.length_nil] at hz
  have bS : byteU s (N.length + 1) = 10 := bL 0
  have bR : ∀ i, byteU s (N.length + 2 + i) = (A ++ (32 :: 61 :: 9 :: 34 :: (V ++ [34, 32, 47, 62]))).getD i 0 := fun i => by
    have := bL (i + 1)
    rw [show N.length + 1 + (i + 1) = N.length + 2 + i from by omega] at this
    exact this
  have bA : ∀ i, i < A.length → byteU s (N.length + 2 + i) = A.getD i 0 := fun i hi => (bR i).trans (gd_app_l A _ i hi)
  have bT : ∀ i, byteU s (N.length + 2 + A.length + i) = (32 :: 61 :: 9 :: 34 :: (V ++ [34, 32, 47, 62])).getD i 0 := fun i => by
    rw [show N.length + 2 + A.length + i = N.length + 2 + (A.length + i) from by omega, bR]
    exact gd_app_r A _ i
  have bV : ∀ i, byteU s (N.length + 2 + A.length + 4 + i) = (V ++ [34, 32, 47, 62]).getD i 0 := fun i => by
    rw [show N.length + 2 + A.length + 4 + i = N.length + 2 + A.length + (i + 4) from by omega, bT]; rfl
  have bW : ∀ i, byteU s (N.length + 2 + A.length + 4 + V.length + i) = [34, 32, 47, 62].getD i 0 := fun i => by
    rw [show N.length + 2 + A.length + 4 + V.length + i = N.length + 2 + A.length + 4 + (V.length + i) from by omega, bV]
    exact gd_app_r V _ i
  have c1 : byteU s (N.length + 2 + A.length) = 32 := bT 0
  have c2 : byteU s (N.length + 2 + A.length + 1) = 61 := bT 1
  have c3 : byteU s (N.length + 2 + A.length + 2) = 9 := bT 2
  have c4 : byteU s (N.length + 2 + A.length + 3) = 34 := bT 3
  have w0 : byteU s (N.length + 2 + A.length + 4 + V.length) = 34 := bW 0
  have w1 : byteU s (N.length + 2 + A.length + 4 + V.length + 1) = 32 := bW 1
  have w2 : byteU s (N.length + 2 + A.length + 4 + V.length + 2) = 47 := bW 2
  have w3 : byteU s (N.length + 2 + A.length + 4 + V.length + 3) = 62 := bW 3
  have hg1 : skipN s gapT (N.length + 1) = N.length + 2 := skip_is s gapT gapU gap_contains 1 (N.length + 1) (by omega) (fun i hi => by rw [show N.length + 1 + i = N.length + 1 from by omega, bS]; decide) (by
    rw [show N.length + 1 + 1 = N.length + 2 + 0 from by omega, bA 0 a0]
    cases hg : gapU (A.getD 0 0) with
    | false => rfl
    | true => rcases gap_not _ hg with h | h | h <;> rw [h] at a1 <;> exact absurd a1 (by decide))
  have hk2 : skipN s attrT (N.length + 2) = N.length + 2 + A.length := skip_is s attrT attrU attr_contains A.length (N.length + 2) (by omega) (fun i hi => by rw [bA i hi]; exact a2 i hi) (by rw [c1]; decide)
  have hg2 : skipN s gapT (N.length + 2 + A.length) = N.length + 2 + A.length + 1 := skip_is s gapT gapU gap_contains 1 _ (by omega) (fun i hi => by rw [show N.length + 2 + A.length + i = N.length + 2 + A.length from by omega, c1]; decide) (by rw [c2]; decide)
  have hg3 : skipN s gapT (N.length + 2 + A.length + 1 + 1) = N.length + 2 + A.length + 3 := skip_is s gapT gapU gap_contains 1 _ (by omega) (fun i hi => by rw [show N.length + 2 + A.length + 1 + 1 + i = N.length + 2 + A.length + 2 from by omega, c3]; decide) (by rw [show N.length + 2 + A.length + 1 + 1 + 1 = N.length + 2 + A.length + 3 from by omega, c4]; decide)
  have hv : valueF s (N.length + 2 + A.length + 3) = some (N.length + 2 + A.length + 4 + V.length + 1) := by
    unfold valueF
    rw [if_pos (by omega), c4, if_pos (Or.inr rfl)]
    exact quote_is s 34 V.length (N.length + 2 + A.length + 4) (by omega) (fun i hi => by rw [bV i, gd_app_l V _ i hi]; exact hV i hi) w0
  have hst : attrStart s (N.length + 1) = true := by
    unfold attrStart
    rw [hg1, decide_eq_true (by omega), decide_eq_true (by omega)]
    have := bA 0 a0
    rw [Nat.add_zero] at this
    rw [this, a1]; rfl
  have hnx : attrNext s (N.length + 1) = some (N.length + 2 + A.length + 4 + V.length + 1) := by
    unfold attrNext
    simp only [hg1, hk2, hg2]
    rw [if_pos ⟨by omega, c2⟩, hg3, hv]
  have hg4 : skipN s gapT (N.length + 2 + A.length + 4 + V.length + 1) = N.length + 2 + A.length + 4 + V.length + 2 := skip_is s gapT gapU gap_contains 1 _ (by omega) (fun i hi => by rw [show N.length + 2 + A.length + 4 + V.length + 1 + i = N.length + 2 + A.length + 4 + V.length + 1 from by omega, w1]; decide) (by rw [w2]; decide)
  have hst2 : attrStart s (N.length + 2 + A.length + 4 + V.length + 1) = false := by
    unfold attrStart
    rw [hg4, w2]; simp [show firstU 47 = false from by decide]
  unfold openF
  simp only [sl]
  rw [if_pos ⟨by omega, b0⟩, if_pos ⟨z1, hl1⟩, if_neg (by decide), hk]
  rw [attrsB_step _ _ _ hst, hnx]
  obtain ⟨f, hf⟩ : ∃ f, s.size = f + 1 := ⟨s.size - 1, by omega⟩
  have hat : attrsF s s.size (N.length + 2 + A.length + 4 + V.length + 1) = some (N.length + 2 + A.length + 4 + V.length + 2) := by
    conv => lhs; arg 2; rw [hf]
    rw [attrsB_stop _ _ _ hst2, hg4]
  show (attrsF s s.size (N.length + 2 + A.length + 4 + V.length + 1)).bind _ = _
  rw [hat]
  show closeF s (slashF s (N.length + 2 + A.length + 4 + V.length + 2)) = _
  have hsl : slashF s (N.length + 2 + A.length + 4 + V.length + 2) = N.length + 2 + A.length + 4 + V.length + 3 := by unfold slashF; rw [if_pos ⟨by omega, w2⟩]
  rw [hsl]
  unfold closeF
  rw [if_pos ⟨by omega, w3⟩]
  congr 1; omega

/-- the closing tag of a good name -/
theorem made_close (N : List UInt8) (s : ByteArray) (hs : s.data.toList = 60 :: 47 :: (N ++ [32, 62])) (hN : goodName N) : openF s = some (N.length + 4) := by
  obtain ⟨n0, n1, n2⟩ := hN
  have hz := size_list hs
  simp only [List.length_cons, List.length_append, List.length_nil] at hz
  have b0 : byteU s 0 = 60 := by rw [byteU_list hs]; rfl
  have b1 : byteU s 1 = 47 := by rw [byteU_list hs]; rfl
  have bN : ∀ i, i < N.length → byteU s (2 + i) = N.getD i 0 := fun i hi => by
    rw [byteU_list hs, show 2 + i = (i + 1) + 1 from by omega]
    exact gd_app_l N [32, 62] i hi
  have bT : ∀ i, byteU s (2 + N.length + i) = [32, 62].getD i 0 := fun i => by
    rw [byteU_list hs, show 2 + N.length + i = (N.length + i + 1) + 1 from by omega]
    exact gd_app_r N [32, 62] i
  have t0 : byteU s (2 + N.length) = 32 := bT 0
  have t1 : byteU s (2 + N.length + 1) = 62 := bT 1
  have sl : slashF s 1 = 2 := by unfold slashF; rw [if_pos ⟨by omega, b1⟩]
  have e2 := bN 0 n0
  have hk : skipN s nameT 2 = 2 + N.length := skip_is s nameT nameU name_contains N.length 2 (by omega) (fun i hi => by rw [bN i hi]; exact n2 i hi) (by rw [t0]; decide)
  have hg : skipN s gapT (2 + N.length) = 2 + N.length + 1 := skip_is s gapT gapU gap_contains 1 _ (by omega) (fun i hi => by rw [show 2 + N.length + i = 2 + N.length from by omega, t0]; decide) (by rw [t1]; decide)
  unfold openF
  simp only [sl]
  rw [if_pos ⟨by omega, b0⟩, if_pos ⟨by omega, by rw [show (2 : Nat) = 2 + 0 from rfl, e2]; exact n1⟩, if_pos trivial, hk, hg]
  unfold closeF
  rw [if_pos ⟨by omega, t1⟩]
  congr 1; omega

end Go.Proofs.YtjaidphlphncjaaDoor
