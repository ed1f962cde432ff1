/- Rows between letters, blanks and ends. No walk in sight. -/
import Derived.Test.YtkpjcbpfpfjjkaaDoorTurnedPlain
import Derived.Test.YtkpjcbpfpfjjkaaDoorRef
namespace Go.Proofs.YtkpjcbpfpfjjkaaDoor
set_option linter.unusedVariables false
set_option linter.unusedSimpArgs false
open Go Go.RowKit Go.Lib

/-- what stands at a row's side: a character of one byte, or nothing -/
def sideL : List UInt8 → Side
  | [] => sideC 32
  | c :: _ => sideC (c.toNat : Int)

def mkText (l : List UInt8) : ByteArray := ⟨l.toArray⟩

theorem mkText_size (l : List UInt8) : (mkText l).size = l.length := by rw [Lib.size_eq]; simp [mkText]
theorem mkText_get (l : List UInt8) (i : Nat) : (mkText l).get! i = l.getD i 0 := by rw [← Lib.getD_get!']; simp [mkText]

theorem scan_made (pre post : List UInt8) (c : UInt8) (n : Nat) (hc : c.toNat = 42 ∨ c.toNat = 95) (hn : 1 ≤ n)
    (hpre : pre = [] ∨ ∃ x : UInt8, pre = [x] ∧ x.toNat < 128) (hpost : post = [] ∨ ∃ y : UInt8, post = [y] ∧ y.toNat < 128 ∧ y.toNat ≠ c.toNat) :
    scanR (mkText (pre ++ (List.replicate n c ++ post))) ((pre.length : Nat) : Int) = ⟨(c.toNat : Int), (n : Nat), (flags ((c.toNat : Int) == 95) (sideL pre) (sideL post)).1, (flags ((c.toNat : Int) == 95) (sideL pre) (sideL post)).2, true⟩ := by
  have hz := mkText_size (pre ++ (List.replicate n c ++ post))
  have hg := mkText_get (pre ++ (List.replicate n c ++ post))
  have hlen : (pre ++ (List.replicate n c ++ post)).length = pre.length + (n + post.length) := by simp
  have hmid : ∀ x, x < n → ((mkText (pre ++ (List.replicate n c ++ post))).get! (pre.length + x)).toNat = c.toNat := by
    intro x hx
    rw [hg, List.getD_eq_getElem?_getD, List.getElem?_append_right (by omega), List.getElem?_append_left (by simp; omega)]
    simp [List.getElem?_replicate, hx]
  have hend : post ≠ [] → ((mkText (pre ++ (List.replicate n c ++ post))).get! (pre.length + n)) = post.getD 0 0 := by
    intro _
    rw [hg, List.getD_eq_getElem?_getD, List.getElem?_append_right (by omega), List.getElem?_append_right (by simp)]
    simp
  have hbeg : pre ≠ [] → ((mkText (pre ++ (List.replicate n c ++ post))).get! 0) = pre.getD 0 0 := by
    intro hp
    rw [hg, List.getD_eq_getElem?_getD, List.getElem?_append_left (by cases pre <;> simp_all), ← List.getD_eq_getElem?_getD]
  generalize mkText (pre ++ (List.replicate n c ++ post)) = t at *
  have hlt : pre.length < t.size := by omega
  have h0 : (t[pre.length].toNat : Int) = (c.toNat : Int) := by
    have := hmid 0 (by omega)
    rw [Nat.add_zero, get!_of_lt hlt] at this
    omega
  have hrow : rowOf t pre.length (c.toNat : Int) = n := by
    rw [rowOf_eq]
    refine leadN_all t _ (by omega) (by omega) n _ (by omega) (fun x hx => by rw [hmid x hx]) (fun he => ?_)
    rcases hpost with rfl | ⟨y, rfl, hy, hne⟩
    · simp only [List.length_nil] at hlen; omega
    · rw [hend (by simp)]; simp; omega
  rw [scanR_yes t pre.length hlt _ h0 (by omega), hrow]
  have ea : aheadOf t pre.length = sideL pre := by
    rcases hpre with rfl | ⟨x, rfl, hx⟩
    · exact ahead_no t 0 (by omega)
    · have hb := hbeg (by simp)
      simp at hb
      show aheadOf t 1 = sideC (x.toNat : Int)
      rw [ahead_ascii t 1 (by omega) (by omega) (by rw [show 1 - 1 = 0 from rfl, hb]; exact hx), show 1 - 1 = 0 from rfl, hb]
  have eb : behindOf t (((pre.length : Nat) : Int) + (n : Nat)) = sideL post := by
    rw [show ((pre.length : Nat) : Int) + (n : Nat) = ((pre.length + n : Nat) : Int) from by omega]
    rcases hpost with rfl | ⟨y, rfl, hy, hne⟩
    · exact behind_no t _ (by simp only [List.length_nil] at hlen; omega)
    · have hb := hend (by simp)
      simp at hb
      rw [behind_ascii t _ (by simp only [List.length_cons, List.length_nil] at hlen; omega) (by rw [hb]; exact hy), hb]; rfl
  rw [ea, eb]

theorem app_mk (a b : List UInt8) : mkText a ++ mkText b = mkText (a ++ b) := by
  apply ByteArray.ext
  show (ByteArray.append _ _).data = _
  simp [mkText]

theorem letter_side (x : UInt8) (h0 : 97 ≤ x.toNat) (h1 : x.toNat ≤ 122) : sideL [x] = ⟨false, false⟩ := by
  have hb : blankB (x.toNat : Int) = false := by
    cases h : blankB (x.toNat : Int) with
    | false => rfl
    | true => have := (blank_iff _).1 h; omega
  have hm : markB (x.toNat : Int) = false := by
    unfold markB
    rw [if_pos (by omega)]
    cases h : plainB (x.toNat : Int) with
    | false => rfl
    | true => have := (plain_iff _).1 h; omega
  show Side.mk (blankB _) (markB _) = _
  rw [hb, hm]

theorem none_side : sideL [] = ⟨true, false⟩ := by kernel_rfl
theorem blank_side : sideL [32] = ⟨true, false⟩ := by kernel_rfl

section
variable (n : Nat) (hn : 1 ≤ n) (x y : UInt8) (hx0 : 97 ≤ x.toNat) (hx1 : x.toNat ≤ 122) (hy0 : 97 ≤ y.toNat) (hy1 : y.toNat ≤ 122)
include hn hx0 hx1 hy0 hy1
theorem rows_six :
    scanR (mkText [x] ++ mkText (List.replicate n 42) ++ mkText [y]) 1 = ⟨42, n, true, true, true⟩ ∧
    scanR (mkText [x] ++ mkText (List.replicate n 95) ++ mkText [y]) 1 = ⟨95, n, false, false, true⟩ ∧
    scanR (mkText [32] ++ mkText (List.replicate n 42) ++ mkText [32]) 1 = ⟨42, n, false, false, true⟩ ∧
    scanR (mkText (List.replicate n 95)) 0 = ⟨95, n, false, false, true⟩ ∧
    scanR (mkText (List.replicate n 42) ++ mkText [y]) 0 = ⟨42, n, true, false, true⟩ ∧
    scanR (mkText [x] ++ mkText (List.replicate n 95)) 1 = ⟨95, n, false, true, true⟩ := by
  have lx := letter_side x hx0 hx1
  have ly := letter_side y hy0 hy1
  simp only [app_mk, List.append_assoc]
  refine ⟨?_, ?_, ?_, ?_, ?_, ?_⟩
  · have := scan_made [x] [y] 42 n (Or.inl rfl) hn (Or.inr ⟨x, rfl, by omega⟩) (Or.inr ⟨y, rfl, by omega, by show y.toNat ≠ 42; omega⟩)
    rw [lx, ly] at this; exact this
  · have := scan_made [x] [y] 95 n (Or.inr rfl) hn (Or.inr ⟨x, rfl, by omega⟩) (Or.inr ⟨y, rfl, by omega, by show y.toNat ≠ 95; omega⟩)
    rw [lx, ly] at this; exact this
  · have := scan_made [32] [32] 42 n (Or.inl rfl) hn (Or.inr ⟨32, rfl, by decide⟩) (Or.inr ⟨32, rfl, by decide, by decide⟩)
    exact this
  · have := scan_made [] [] 95 n (Or.inr rfl) hn (Or.inl rfl) (Or.inl rfl)
    simp only [List.nil_append, List.append_nil] at this; exact this
  · have := scan_made [] [y] 42 n (Or.inl rfl) hn (Or.inl rfl) (Or.inr ⟨y, rfl, by omega, by show y.toNat ≠ 42; omega⟩)
    rw [ly] at this; exact this
  · have := scan_made [x] [] 95 n (Or.inr rfl) hn (Or.inr ⟨x, rfl, by omega⟩) (Or.inl rfl)
    rw [lx, List.append_nil] at this; exact this
end

end Go.Proofs.YtkpjcbpfpfjjkaaDoor
