/- Walk: the law RunsLetters. -/
import Derived.Test.YtkpjcbpfpfjjkaaDoorAlive11
import Derived.Test.YtkpjcbpfpfjjkaaDoorLettersPlain
import Derived.Test.YtkpjcbpfpfjjkaaDoorRef
import Derived.Test.YtkpjcbpfpfjjkaaDoorBytes
import Derived.Deep.LoopGhost
import Derived.Deep.DeepCutAuto
import Derived.Deep.CutBlock
namespace Go.Proofs.YtkpjcbpfpfjjkaaDoor
set_option linter.unusedVariables false
set_option linter.unusedSimpArgs false
open Go Go.RowKit Go.Lib

theorem text_one (w : World) (c : UInt8) (v : Int) (hv : (c.toNat : Int) = v) :
    (convert 28 9 (.slice (some ⟨w.heap.size, 0, none⟩) 1 1)).run Tryd.prog (w.alloc (.cells #[.int .u8 v] 5)) = .ok (.string (mkText [c])) (w.alloc (.cells #[.int .u8 v] 5)) := by
  subst hv
  exact run_convert_bytes_back _ 28 9 5 ⟨w.heap.size, 0, none⟩ 1 [c] Tryd.underlying28 Tryd.underlying5 Tryd.underlying9 (fun j hj => by
    obtain rfl : j = 0 := by simpa using hj
    simp [Addr.add])

theorem letter_u8 (a : Int) (h0 : 0 ≤ a) (h1 : a ≤ 255) : ∃ c : UInt8, (c.toNat : Int) = 97 + a % 26 ∧ 97 ≤ c.toNat ∧ c.toNat ≤ 122 := by
  refine ⟨UInt8.ofNat (97 + a % 26).toNat, ?_⟩
  have e : (UInt8.ofNat (97 + a % 26).toNat).toNat = (97 + a % 26).toNat := by
    simp; omega
  rw [e]; omega

set_option maxRecDepth 100000 in
set_option maxHeartbeats 1000000 in
theorem RunsLetters_in (n : Nat) (a b : Int) (h1 : 1 ≤ n) (h2 : n ≤ 1000) (a0 : 0 ≤ a) (a1 : a ≤ 255) (b0 : 0 ≤ b) (b1 : b ≤ 255) (w : World) (hT : Tabs w) :
    Calls Tryd.prog 4 #[.int .i64 n, .int .u8 a, .int .u8 b] w fun e w' => e = .returned (.bool true) ∧ Below w.heap.size w w' := by
  have HT := Lib.hid hT
  clear hT
  obtain ⟨x, ex, hx0, hx1⟩ := letter_u8 a a0 a1
  obtain ⟨y, ey, hy0, hy1⟩ := letter_u8 b b0 b1
  have EX := Lib.hid ex
  have EY := Lib.hid ey
  clear ex ey
  have c0 : decide ((n : Int) < 1) = false := by simp; omega
  have c1 : decide (1000 < (n : Int)) = false := by simp; omega
  go_enter Tryd.func4, Tryd.ntmps4
  go_wp2_with fail
  refine (alive11_calls _ HT.out).mono ?_
  rintro e w1 ⟨rfl, hw1⟩
  have t1 := text_one w1 x _ EX.out
  go_upto_region 6 with (fail)
  have hw2 := hw1.alloc hw1.size (.cells #[.int .u8 (97 + a % 26)] 5)
  clear t1 hw1
  generalize (w1.alloc (.cells #[.int .u8 (97 + a % 26)] 5)) = w2 at *
  have t2 := text_one w2 y _ EY.out
  go_upto_region 7 with (fail)
  have hw3 := hw2.alloc hw2.size (.cells #[.int .u8 (97 + b % 26)] 5)
  clear t2 hw2
  generalize (w2.alloc (.cells #[.int .u8 (97 + b % 26)] 5)) = w3 at *
  go_upto_block 0 with (fail)
  have hw5 := (hw3.alloc hw3.size (.cells #[] 5)).alloc (by have := hw3.size; simp; omega) (.cells #[] 5)
  have hO1 := (Own.new w.heap.size w3 hw3.size).alloc (.cells #[] 5)
  have hO2 := Own.new w.heap.size (w3.alloc (.cells #[] 5)) (by have := hw3.size; simp; omega)
  rw [World.size_alloc] at hO2
  clear hw3
  generalize ((w3.alloc (.cells #[] 5)).alloc (.cells #[] 5)) = w5 at *
  generalize w3.heap.size = g at *
  go_cut [9, 10] (fun v u wx => (∃ g1 g2 d1 d2 : Nat, v = .slice (some ⟨g1, 0, none⟩) n d1 ∧ u = .slice (some ⟨g2, 0, none⟩) n d2 ∧ Aside (Own w.heap.size (.slice (some ⟨g1, 0, none⟩) n d1) (List.replicate n 42) wx) ∧ Aside (Own w.heap.size (.slice (some ⟨g2, 0, none⟩) n d2) (List.replicate n 95) wx)) ∧ Below w.heap.size w wx)
  case first =>
    go_wp2_with fail
    go_loopg [9, 10, 11] n (fun gk v u i wr => ∃ k : Nat, Aside (gk + k = n) ∧ k ≤ n ∧ i = .int .i64 k ∧ Aside (Own w.heap.size v (List.replicate k 42) wr) ∧ Aside (Own w.heap.size u (List.replicate k 95) wr) ∧ Aside (v.ownBlock ≠ u.ownBlock) ∧ Aside (k = 0 → ∃ g, u = .slice (some ⟨g, 0, none⟩) 0 0) ∧ Below w.heap.size w wr)
    case atStart => exact ⟨0, rfl, Nat.zero_le _, by simp, hO1, hO2, (by show _ ≠ _; rw [own_slice, own_slice]; simp), (fun _ => ⟨_, rfl⟩), hw5⟩
    case round =>
      obtain ⟨k, hgk, hk, rfl, o1, o2, hne, hz0, hL⟩ := hrel
      clear hO1 hO2 hw5
      have zL := hL.size
      by_cases hlt : k < n
      · have l1 : (List.replicate k (42 : UInt8)).length ≤ 1000000 := by simp; omega
        have l2 : (List.replicate k (95 : UInt8)).length ≤ 1000000 := by simp; omega
        go_upto_region 13 with (at_builtin; refine append_byte rfl (.tmp 49) (.tmp 50) rfl w.heap.size _ _ 42 _ wr rfl rfl o1 rfl l1 zL ?_; intro v' w' p1 hB' hgr)
        rw [← List.replicate_succ'] at p1
        have q2 := Own.kept o2 hgr hne
        have hne' : v'.ownBlock ≠ u10.ownBlock := by
          cases k with
          | zero =>
            obtain ⟨g', hg'⟩ := hz0 rfl
            rw [hg'] at q2 ⊢
            rw [own_slice]
            exact Own.apart0 p1 q2
          | succ k => exact Own.apart p1 q2 (by decide)
        have zL' := hB'.size
        have hL2 := hL.trans hB'
        have P1 := Lib.hid p1
        have NE := Lib.hid hne'
        have zB := hL2.size
        clear o1 o2 hgr hne hz0 p1 hne' hL
        go_wp2_with (at_builtin; refine append_byte rfl (.tmp 52) (.tmp 53) rfl w.heap.size _ _ 95 _ w' rfl rfl q2 rfl l2 zB ?_; intro v'' w'' p2 hB'' hgr2)
        rw [← List.replicate_succ'] at p2
        have q1 := Own.kept P1.out hgr2 (fun e => NE.out e.symm)
        go_roundg (n - (k + 1))
        case measure => have := hgk.out; omega
        case rel => exact ⟨k + 1, (by show _ = _; omega), by omega, by go_num, q1, p2, Own.apart q1 p2 (by decide), (fun h => by omega), hL2.trans hB''⟩
      · have hkn : k = n := by omega
        subst hkn
        obtain ⟨g1, d1, e1⟩ := o1.out.2
        obtain ⟨g2, d2, e2⟩ := o2.out.2
        rw [List.length_replicate] at e1 e2
        have O1 : Aside (Own w.heap.size (.slice (some ⟨g1, 0, none⟩) k d1) (List.replicate k 42) wr) := by rw [← e1]; exact o1
        have O2 : Aside (Own w.heap.size (.slice (some ⟨g2, 0, none⟩) k d2) (List.replicate k 95) wr) := by rw [← e2]; exact o2
        clear o1 o2 hne hz0
        subst e1
        subst e2
        go_wp2_with fail
        go_meet
        exact ⟨⟨g1, g2, d1, d2, rfl, rfl, O1, O2⟩, hL⟩
  case rest =>
    obtain ⟨⟨g1, g2, d1, d2, rfl, rfl, O1, O2⟩, hL⟩ := hcut
    clear hO1 hO2 hw5
    have zL := hL.size
    obtain ⟨r1, r2, r3, r4, r5, r6⟩ := rows_six n h1 x y hx0 hx1 hy0 hy1
    have sX : (mkText [x]).size ≤ 10 := by rw [mkText_size]; simp
    have sY : (mkText [y]).size ≤ 10 := by rw [mkText_size]; simp
    have sB : (mkText [32]).size ≤ 10 := by rw [mkText_size]; simp
    have s1 : (mkText (List.replicate n 42)).size ≤ 1000 := by rw [mkText_size]; simp; omega
    have s2 : (mkText (List.replicate n 95)).size ≤ 1000 := by rw [mkText_size]; simp; omega
    have cv1 : ∀ W, Own w.heap.size (.slice (some ⟨g1, 0, none⟩) n d1) (List.replicate n 42) W → (convert 28 9 (.slice (some ⟨g1, 0, none⟩) n d1)).run Tryd.prog W = .ok (.string (mkText (List.replicate n 42))) W := by
      intro W h
      have := text_of (c := d1) (l := List.replicate n 42) (by rw [List.length_replicate]; exact h)
      rw [List.length_replicate] at this; exact this
    have cv2 : ∀ W, Own w.heap.size (.slice (some ⟨g2, 0, none⟩) n d2) (List.replicate n 95) W → (convert 28 9 (.slice (some ⟨g2, 0, none⟩) n d2)).run Tryd.prog W = .ok (.string (mkText (List.replicate n 95))) W := by
      intro W h
      have := text_of (c := d2) (l := List.replicate n 95) (by rw [List.length_replicate]; exact h)
      rw [List.length_replicate] at this; exact this
    have hb32 : Hid ((⟨#[32]⟩ : ByteArray) = mkText [32]) := rfl
    have CV1 := Lib.hid cv1
    have CV2 := Lib.hid cv2
    clear cv1 cv2
    generalize mkText [x] = X at *
    generalize mkText [y] = Y at *
    generalize hBl : mkText [32] = Bl at *
    generalize mkText (List.replicate n 42) = S1 at *
    generalize mkText (List.replicate n 95) = S2 at *
    subst hBl
    have R1 := Lib.hid r1
    have R2 := Lib.hid r2
    have R3 := Lib.hid r3
    have R4 := Lib.hid r4
    have R5 := Lib.hid r5
    have R6 := Lib.hid r6
    clear r1 r2 r3 r4 r5 r6 hx0 hx1 hy0 hy1
    have cx := CV1.out wc O1.out
    go_wp2_with fail
    refine (Scan_calls (X ++ S1 ++ Y) 1 _ (by first | (simp only [ByteArray.size_append]; omega) | omega) (HT.out.below hL)).mono ?_
    rintro e q1 ⟨rfl, b1⟩
    rw [R1.out]
    have j1 := hL.trans (b1.mono zL)
    have o11 := (O1.out.below b1).alloc (.cells #[.int .u8 42, .int .i64 n, .bool true, .bool true] 24)
    have o21 := (O2.out.below b1).alloc (.cells #[.int .u8 42, .int .i64 n, .bool true, .bool true] 24)
    have l1 := j1.alloc j1.size (.cells #[.int .u8 42, .int .i64 n, .bool true, .bool true] 24)
    have n1 := Lib.hid (heap_alloc_new q1 (.cells #[.int .u8 42, .int .i64 n, .bool true, .bool true] 24))
    clear cx hL zL O1 O2 b1 j1
    have cx := CV2.out _ o21
    go_wp2_with fail
    generalize (q1.alloc (.cells #[.int .u8 42, .int .i64 n, .bool true, .bool true] 24)) = Q1 at *
    generalize q1.heap.size = p1 at *
    have hL := l1
    have zL := hL.size
    have O1 := Lib.hid o11
    have O2 := Lib.hid o21
    clear l1 o11 o21
    refine (Scan_calls (X ++ S2 ++ Y) 1 _ (by first | (simp only [ByteArray.size_append]; omega) | omega) (HT.out.below hL)).mono ?_
    rintro e q2 ⟨rfl, b2⟩
    rw [R2.out]
    have j2 := hL.trans (b2.mono zL)
    have o12 := (O1.out.below b2).alloc (.cells #[.int .u8 95, .int .i64 n, .bool false, .bool false] 24)
    have o22 := (O2.out.below b2).alloc (.cells #[.int .u8 95, .int .i64 n, .bool false, .bool false] 24)
    have l2 := j2.alloc j2.size (.cells #[.int .u8 95, .int .i64 n, .bool false, .bool false] 24)
    have n2 := Lib.hid (heap_alloc_new q2 (.cells #[.int .u8 95, .int .i64 n, .bool false, .bool false] 24))
    have n1 := Lib.hid (below_block ((Below.refl q2.heap.size q2).alloc (Nat.le_refl _) (.cells #[.int .u8 95, .int .i64 n, .bool false, .bool false] 24)) (blk_lt (below_block b2 (blk_lt n1.out) n1.out)) (below_block b2 (blk_lt n1.out) n1.out))
    clear cx hL zL O1 O2 b2 j2
    have cx := CV1.out _ o12
    go_wp2_with fail
    generalize (q2.alloc (.cells #[.int .u8 95, .int .i64 n, .bool false, .bool false] 24)) = Q2 at *
    generalize q2.heap.size = p2 at *
    have hL := l2
    have zL := hL.size
    have O1 := Lib.hid o12
    have O2 := Lib.hid o22
    clear l2 o12 o22
    refine (Scan_calls (mkText [32] ++ S1 ++ mkText [32]) 1 _ (by first | (simp only [ByteArray.size_append]; omega) | omega) (HT.out.below hL)).mono ?_
    rintro e q3 ⟨rfl, b3⟩
    rw [R3.out]
    have j3 := hL.trans (b3.mono zL)
    have o13 := (O1.out.below b3).alloc (.cells #[.int .u8 42, .int .i64 n, .bool false, .bool false] 24)
    have o23 := (O2.out.below b3).alloc (.cells #[.int .u8 42, .int .i64 n, .bool false, .bool false] 24)
    have l3 := j3.alloc j3.size (.cells #[.int .u8 42, .int .i64 n, .bool false, .bool false] 24)
    have n3 := Lib.hid (heap_alloc_new q3 (.cells #[.int .u8 42, .int .i64 n, .bool false, .bool false] 24))
    have n1 := Lib.hid (below_block ((Below.refl q3.heap.size q3).alloc (Nat.le_refl _) (.cells #[.int .u8 42, .int .i64 n, .bool false, .bool false] 24)) (blk_lt (below_block b3 (blk_lt n1.out) n1.out)) (below_block b3 (blk_lt n1.out) n1.out))
    have n2 := Lib.hid (below_block ((Below.refl q3.heap.size q3).alloc (Nat.le_refl _) (.cells #[.int .u8 42, .int .i64 n, .bool false, .bool false] 24)) (blk_lt (below_block b3 (blk_lt n2.out) n2.out)) (below_block b3 (blk_lt n2.out) n2.out))
    clear cx hL zL O1 O2 b3 j3
    have cx := CV2.out _ o23
    go_wp2_with fail
    generalize (q3.alloc (.cells #[.int .u8 42, .int .i64 n, .bool false, .bool false] 24)) = Q3 at *
    generalize q3.heap.size = p3 at *
    have hL := l3
    have zL := hL.size
    have O1 := Lib.hid o13
    have O2 := Lib.hid o23
    clear l3 o13 o23
    refine (Scan_calls S2 0 _ (by first | (simp only [ByteArray.size_append]; omega) | omega) (HT.out.below hL)).mono ?_
    rintro e q4 ⟨rfl, b4⟩
    rw [R4.out]
    have j4 := hL.trans (b4.mono zL)
    have o14 := (O1.out.below b4).alloc (.cells #[.int .u8 95, .int .i64 n, .bool false, .bool false] 24)
    have o24 := (O2.out.below b4).alloc (.cells #[.int .u8 95, .int .i64 n, .bool false, .bool false] 24)
    have l4 := j4.alloc j4.size (.cells #[.int .u8 95, .int .i64 n, .bool false, .bool false] 24)
    have n4 := Lib.hid (heap_alloc_new q4 (.cells #[.int .u8 95, .int .i64 n, .bool false, .bool false] 24))
    have n1 := Lib.hid (below_block ((Below.refl q4.heap.size q4).alloc (Nat.le_refl _) (.cells #[.int .u8 95, .int .i64 n, .bool false, .bool false] 24)) (blk_lt (below_block b4 (blk_lt n1.out) n1.out)) (below_block b4 (blk_lt n1.out) n1.out))
    have n2 := Lib.hid (below_block ((Below.refl q4.heap.size q4).alloc (Nat.le_refl _) (.cells #[.int .u8 95, .int .i64 n, .bool false, .bool false] 24)) (blk_lt (below_block b4 (blk_lt n2.out) n2.out)) (below_block b4 (blk_lt n2.out) n2.out))
    have n3 := Lib.hid (below_block ((Below.refl q4.heap.size q4).alloc (Nat.le_refl _) (.cells #[.int .u8 95, .int .i64 n, .bool false, .bool false] 24)) (blk_lt (below_block b4 (blk_lt n3.out) n3.out)) (below_block b4 (blk_lt n3.out) n3.out))
    clear cx hL zL O1 O2 b4 j4
    have cx := CV1.out _ o14
    go_wp2_with fail
    generalize (q4.alloc (.cells #[.int .u8 95, .int .i64 n, .bool false, .bool false] 24)) = Q4 at *
    generalize q4.heap.size = p4 at *
    have hL := l4
    have zL := hL.size
    have O1 := Lib.hid o14
    have O2 := Lib.hid o24
    clear l4 o14 o24
    refine (Scan_calls (S1 ++ Y) 0 _ (by first | (simp only [ByteArray.size_append]; omega) | omega) (HT.out.below hL)).mono ?_
    rintro e q5 ⟨rfl, b5⟩
    rw [R5.out]
    have j5 := hL.trans (b5.mono zL)
    have o15 := (O1.out.below b5).alloc (.cells #[.int .u8 42, .int .i64 n, .bool true, .bool false] 24)
    have o25 := (O2.out.below b5).alloc (.cells #[.int .u8 42, .int .i64 n, .bool true, .bool false] 24)
    have l5 := j5.alloc j5.size (.cells #[.int .u8 42, .int .i64 n, .bool true, .bool false] 24)
    have n5 := Lib.hid (heap_alloc_new q5 (.cells #[.int .u8 42, .int .i64 n, .bool true, .bool false] 24))
    have n1 := Lib.hid (below_block ((Below.refl q5.heap.size q5).alloc (Nat.le_refl _) (.cells #[.int .u8 42, .int .i64 n, .bool true, .bool false] 24)) (blk_lt (below_block b5 (blk_lt n1.out) n1.out)) (below_block b5 (blk_lt n1.out) n1.out))
    have n2 := Lib.hid (below_block ((Below.refl q5.heap.size q5).alloc (Nat.le_refl _) (.cells #[.int .u8 42, .int .i64 n, .bool true, .bool false] 24)) (blk_lt (below_block b5 (blk_lt n2.out) n2.out)) (below_block b5 (blk_lt n2.out) n2.out))
    have n3 := Lib.hid (below_block ((Below.refl q5.heap.size q5).alloc (Nat.le_refl _) (.cells #[.int .u8 42, .int .i64 n, .bool true, .bool false] 24)) (blk_lt (below_block b5 (blk_lt n3.out) n3.out)) (below_block b5 (blk_lt n3.out) n3.out))
    have n4 := Lib.hid (below_block ((Below.refl q5.heap.size q5).alloc (Nat.le_refl _) (.cells #[.int .u8 42, .int .i64 n, .bool true, .bool false] 24)) (blk_lt (below_block b5 (blk_lt n4.out) n4.out)) (below_block b5 (blk_lt n4.out) n4.out))
    clear cx hL zL O1 O2 b5 j5
    have cx := CV2.out _ o25
    go_wp2_with fail
    generalize (q5.alloc (.cells #[.int .u8 42, .int .i64 n, .bool true, .bool false] 24)) = Q5 at *
    generalize q5.heap.size = p5 at *
    have hL := l5
    have zL := hL.size
    have O1 := Lib.hid o15
    have O2 := Lib.hid o25
    clear l5 o15 o25
    refine (Scan_calls (X ++ S2) 1 _ (by first | (simp only [ByteArray.size_append]; omega) | omega) (HT.out.below hL)).mono ?_
    rintro e q6 ⟨rfl, b6⟩
    rw [R6.out]
    have j6 := hL.trans (b6.mono zL)
    have o16 := (O1.out.below b6).alloc (.cells #[.int .u8 95, .int .i64 n, .bool false, .bool true] 24)
    have o26 := (O2.out.below b6).alloc (.cells #[.int .u8 95, .int .i64 n, .bool false, .bool true] 24)
    have l6 := j6.alloc j6.size (.cells #[.int .u8 95, .int .i64 n, .bool false, .bool true] 24)
    have n6 := Lib.hid (heap_alloc_new q6 (.cells #[.int .u8 95, .int .i64 n, .bool false, .bool true] 24))
    have n1 := Lib.hid (below_block ((Below.refl q6.heap.size q6).alloc (Nat.le_refl _) (.cells #[.int .u8 95, .int .i64 n, .bool false, .bool true] 24)) (blk_lt (below_block b6 (blk_lt n1.out) n1.out)) (below_block b6 (blk_lt n1.out) n1.out))
    have n2 := Lib.hid (below_block ((Below.refl q6.heap.size q6).alloc (Nat.le_refl _) (.cells #[.int .u8 95, .int .i64 n, .bool false, .bool true] 24)) (blk_lt (below_block b6 (blk_lt n2.out) n2.out)) (below_block b6 (blk_lt n2.out) n2.out))
    have n3 := Lib.hid (below_block ((Below.refl q6.heap.size q6).alloc (Nat.le_refl _) (.cells #[.int .u8 95, .int .i64 n, .bool false, .bool true] 24)) (blk_lt (below_block b6 (blk_lt n3.out) n3.out)) (below_block b6 (blk_lt n3.out) n3.out))
    have n4 := Lib.hid (below_block ((Below.refl q6.heap.size q6).alloc (Nat.le_refl _) (.cells #[.int .u8 95, .int .i64 n, .bool false, .bool true] 24)) (blk_lt (below_block b6 (blk_lt n4.out) n4.out)) (below_block b6 (blk_lt n4.out) n4.out))
    have n5 := Lib.hid (below_block ((Below.refl q6.heap.size q6).alloc (Nat.le_refl _) (.cells #[.int .u8 95, .int .i64 n, .bool false, .bool true] 24)) (blk_lt (below_block b6 (blk_lt n5.out) n5.out)) (below_block b6 (blk_lt n5.out) n5.out))
    clear cx hL zL O1 O2 b6 j6
    have zB := l6.size
    have y11 := blk_cell n1.out 1
    have y12 := blk_cell n1.out 2
    have y13 := blk_cell n1.out 3
    have y21 := blk_cell n2.out 1
    have y22 := blk_cell n2.out 2
    have y23 := blk_cell n2.out 3
    have y32 := blk_cell n3.out 2
    have y33 := blk_cell n3.out 3
    have y42 := blk_cell n4.out 2
    have y43 := blk_cell n4.out 3
    have y52 := blk_cell n5.out 2
    have y53 := blk_cell n5.out 3
    have y62 := blk_cell n6.out 2
    have y63 := blk_cell n6.out 3
    simp at y11 y12 y13 y21 y22 y23 y32 y33 y42 y43 y52 y53 y62 y63
    clear n1 n2 n3 n4 n5 n6 o16 o26
    have HL := Lib.hid l6
    clear l6
    go_wp2_with fail
    go_ret
    exact ⟨rfl, HL.out⟩

set_option maxRecDepth 100000 in
theorem RunsLetters_out (n a b : Int) (a0 : 0 ≤ a) (a1 : a ≤ 255) (b0 : 0 ≤ b) (b1 : b ≤ 255) (w : World) (hT : Tabs w) (c : decide (n < 1) = true ∨ decide (n < 1) = false ∧ decide (1000 < n) = true) :
    Calls Tryd.prog 4 #[.int .i64 n, .int .u8 a, .int .u8 b] w fun e w' => e = .returned (.bool true) ∧ Below w.heap.size w w' := by
  rcases c with c | ⟨c, c'⟩
  all_goals
    go_enter Tryd.func4, Tryd.ntmps4
    go_wp2_with fail
    refine (alive11_calls _ hT).mono ?_
    rintro e w1 ⟨rfl, hw1⟩
    clear hT
    go_wp2_with fail
    go_ret
    exact ⟨rfl, hw1⟩

theorem RunsLetters_walk (n a b : Int) (ba : 0 ≤ a ∧ a ≤ 255) (bb : 0 ≤ b ∧ b ≤ 255) (w : World) (hT : Tabs w) :
    Calls Tryd.prog 4 #[.int .i64 n, .int .u8 a, .int .u8 b] w fun e w' => e = .returned (.bool true) ∧ Below w.heap.size w w' := by
  by_cases h1 : n < 1
  · exact RunsLetters_out n a b ba.1 ba.2 bb.1 bb.2 w hT (Or.inl (by simpa using h1))
  by_cases h2 : 1000 < n
  · exact RunsLetters_out n a b ba.1 ba.2 bb.1 bb.2 w hT (Or.inr ⟨by simpa using h1, by simpa using h2⟩)
  obtain ⟨k, rfl⟩ := Int.eq_ofNat_of_zero_le (show 0 ≤ n by omega)
  exact RunsLetters_in k a b (by omega) (by omega) ba.1 ba.2 bb.1 bb.2 w hT

end Go.Proofs.YtkpjcbpfpfjjkaaDoor
