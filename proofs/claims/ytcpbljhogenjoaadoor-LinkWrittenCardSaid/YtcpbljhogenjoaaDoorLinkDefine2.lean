/- Walks: link.Define, joined. -/
import Derived.Test.YtcpbljhogenjoaaDoorLinkDefine
namespace Go.Proofs.YtcpbljhogenjoaaDoor
set_option linter.unusedVariables false
set_option linter.unusedSimpArgs false
open Go Go.RowKit Go.Shelf Go.Lib

theorem labelI_nat (s : ByteArray) (n : Nat) : labelI s n = labelF s n := by
  by_cases h : n ≤ s.size
  · exact labelI_in s n h
  · rw [labelI_out s n (by omega)]
    have d : decide (n < s.size) = false := decide_eq_false (by omega)
    unfold labelF
    rw [d]; rfl

theorem defineI_no (s : ByteArray) (a : Int) (h : (labelI s a).2 = 0) : defineI s a = noDef := by
  unfold defineI
  split
  · rename_i h0
    obtain ⟨n, rfl⟩ : ∃ n : Nat, a = n := ⟨a.toNat, by omega⟩
    rw [labelI_nat] at h
    exact def_no1 s n h
  · rfl

theorem Define_calls (s : ByteArray) (a : Int) (w : World) (hE : EnvE w) (hs : s.size ≤ 1000000) :
    Calls Tryd.prog 10 #[.string s, .int .i64 a] w fun e w' => e = .returned (.tuple #[defV (defineI s a), .int .i64 ((defineI s a).n : Nat)]) ∧ Below w.heap.size w w' := by
  have hlc := fun w => Label_calls s a w hs
  by_cases h0 : (labelI s a).2 = 0
  · rw [defineI_no s a h0]
    rw [h0] at hlc
    exact Define_no1 s a w _ hlc
  · have ha : 0 ≤ a ∧ a < s.size := by
      by_cases h : 0 ≤ a ∧ a < s.size
      · exact h
      · exact absurd (by rw [labelI_out s a h]) h0
    obtain ⟨i, rfl⟩ : ∃ n : Nat, a = n := ⟨a.toNat, by omega⟩
    have hdef : defineI s i = defineF s i := by unfold defineI; rw [if_pos (by omega)]; rfl
    rw [hdef]
    rw [labelI_nat] at hlc h0
    have hbd := labelF_bd s i (by omega)
    cases hl : labelF s i with
    | mk L n =>
    rw [hl] at hlc h0 hbd
    simp only at hlc h0 hbd
    have hn : 0 < n := by omega
    have hpr := fun w => Tryd.strings_HasPrefix (s.extract (i + n) s.size) ⟨#[58]⟩ w
    rw [show (ByteArray.mk #[58]).data.toList = [58] from rfl, pre_at s (i + n) 58 hbd.1] at hpr
    cases h2 : (decide (i + n < s.size) && byteU s (i + n) == 58) with
    | false =>
      rw [def_no2 s i n (by rw [hl]) h2]
      rw [h2] at hpr
      exact Define_no2 s i n w hs hn hbd.1 L hlc hpr
    | true =>
      rw [h2] at hpr
      have hc : i + n + 1 ≤ s.size := by simp only [Bool.and_eq_true, decide_eq_true_eq] at h2; omega
      have hgc := fun w => gap_calls (s.extract (i + n + 1) s.size) w (by rw [tail_sz]; omega)
      have hgN := tail_gapN s (i + n + 1)
      have hgl := gapN_le s (i + n + 1) hc
      rw [← tail_gapOK s (i + n + 1) hc] at hgc
      generalize gapN (s.extract (i + n + 1) s.size) 0 = g at *
      rw [hgN] at hgl
      have hdc := fun w hE => Dest_calls s ((i + n + 1 + g : Nat) : Int) w hE hs
      rw [destI_in s (i + n + 1 + g) hgl] at hdc
      have hdb := destF_bd s (i + n + 1 + g) hgl
      cases hd : destF s (i + n + 1 + g) with
      | mk d k =>
      rw [hd] at hdc hdb
      simp only at hdc hdb
      cases hg : gapOK s (i + n + 1) with
      | false =>
        rw [def_no3 s i n _ k (by rw [hl]) hgN (by rw [hd]) (by rw [hg]; rfl)]
        rw [hg] at hgc
        exact Define_no3 s i n g k w hE hs hn hdb L d hlc hpr hgc hdc
      | true =>
        rw [hg] at hgc
        by_cases hk : k = 0
        · rw [def_no3 s i n _ k (by rw [hl]) hgN (by rw [hd]) (by rw [hg, hk]; rfl)]
          exact Define_no4 s i n g k w hE hs hn hdb hk L d hlc hpr hgc hdc
        · have hk0 : 0 < k := by omega
          have hfc := fun w (hE : EnvE w) => Fold_calls L w hE.1 (by omega)
          have htc := fun w hE => titled_calls s (i + n + 1 + g + k) hdb w hE hs
          have htb := titledP_bd s (i + n + 1 + g + k) hdb
          have hdt := def_tit s i _ L d n k hl hn h2 hgN hd hg hk0 hdb
          have hdr := def_rest s i _ L d n k hl hn h2 hgN hd hg hk0 hdb
          cases hP : titledP s (i + n + 1 + g + k) with
          | mk T U V ok =>
          rw [hP] at htc htb hdt hdr
          simp only at htc htb hdt hdr
          cases ok with
          | true =>
            rw [hdt rfl]
            have hb2 := htb rfl
            refine (Define_tit s i n g k w hE hs hn hdb hk0 L d (foldF L) T U V (by omega) hlc hpr hgc hdc hfc htc).mono ?_
            rintro e w' ⟨rfl, hB⟩
            refine ⟨?_, hB⟩
            show Ending.returned (.tuple #[.agg #[.string (foldF L), .string d, .string T, .int .i64 (i : Nat), .int .i64 U], .int .i64 (V - i)]) = .returned (.tuple #[.agg #[.string (foldF L), .string d, .string T, .int .i64 (i : Nat), .int .i64 (U.toNat : Nat)], .int .i64 ((V.toNat - i : Nat) : Int)])
            rw [show ((U.toNat : Nat) : Int) = U by omega, show ((V.toNat - i : Nat) : Int) = V - i by omega]
          | false =>
            rw [hdr rfl]
            have hrc := fun w => rest_calls (s.extract (i + n + 1 + g + k) s.size) w (by rw [tail_sz]; omega)
            have hrb := restP_bd (s.extract (i + n + 1 + g + k) s.size)
            rw [tail_sz] at hrb
            cases hR : restP (s.extract (i + n + 1 + g + k) s.size) with
            | mk R ok2 =>
            rw [hR] at hrc hrb
            simp only at hrc hrb
            cases ok2 with
            | false => exact Define_bad s i n g k w hE hs hn hdb hk0 L d (foldF L) T U V R hlc hpr hgc hdc hfc htc hrc
            | true =>
              refine (Define_rest s i n g k w hE hs hn hdb hk0 L d (foldF L) T U V R (by omega) hlc hpr hgc hdc hfc htc hrc).mono ?_
              rintro e w' ⟨rfl, hB⟩
              refine ⟨?_, hB⟩
              show Ending.returned (.tuple #[.agg #[.string (foldF L), .string d, .string ⟨#[]⟩, .int .i64 (i : Nat), .int .i64 ((i + n + 1 + g + k : Nat) : Int)], .int .i64 (((i + n + 1 + g + k : Nat) : Int) + R - i)]) = .returned (.tuple #[.agg #[.string (foldF L), .string d, .string ⟨#[]⟩, .int .i64 (i : Nat), .int .i64 ((i + n + 1 + g + k : Nat) : Int)], .int .i64 ((i + n + 1 + g + k + R.toNat - i : Nat) : Int)])
              rw [show ((i + n + 1 + g + k + R.toNat - i : Nat) : Int) = ((i + n + 1 + g + k : Nat) : Int) + R - i by omega]

end Go.Proofs.YtcpbljhogenjoaaDoor
