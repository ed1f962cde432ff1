/- Plain: TagMade's law joined. No walk in sight. -/
import Derived.Test.YtjaidphlphncjaaDoorTagBehindRaw
import Derived.Test.YtjaidphlphncjaaDoorTagMadePlain
namespace Go.Proofs.YtjaidphlphncjaaDoor
set_option linter.unusedVariables false
set_option linter.unusedSimpArgs false
open Go Go.RowKit Go.Lib

def badN (c : UInt8) : Bool := c == 32 || (c == 9 || (c == 10 || c == 47))
def badA (c : UInt8) : Bool := c == 32 || (c == 9 || (c == 10 || (c == 61 || (c == 47 || c == 62))))

theorem gd_at (s : ByteArray) (i : Nat) (h : i < s.size) : s.data.toList.getD i 0 = s[i] := byteU_in s i h

theorem badN_no (c : UInt8) (h : badN c = false) : gapU c = false ∧ c ≠ 47 := by
  unfold badN at h
  simp only [Bool.or_eq_false_iff, beq_eq_false_iff_ne] at h
  refine ⟨?_, h.2.2.2⟩
  unfold gapU
  simp only [Bool.or_eq_false_iff, beq_eq_false_iff_ne]
  exact ⟨h.1, h.2.1, h.2.2.1⟩
theorem badA_no (c : UInt8) (h : badA c = false) : gapU c = false ∧ c ≠ 61 ∧ c ≠ 47 ∧ c ≠ 62 := by
  unfold badA at h
  simp only [Bool.or_eq_false_iff, beq_eq_false_iff_ne] at h
  refine ⟨?_, h.2.2.2.1, h.2.2.2.2.1, h.2.2.2.2.2⟩
  unfold gapU
  simp only [Bool.or_eq_false_iff, beq_eq_false_iff_ne]
  exact ⟨h.1, h.2.1, h.2.2.1⟩

theorem agree_app (s more : ByteArray) : Agree s (s ++ more) s.size := by
  have hd : (s ++ more).data.toList = s.data.toList ++ more.data.toList := by simp
  refine ⟨Nat.le_refl _, by rw [ByteArray.size_append]; omega, fun i hi => ?_⟩
  unfold byteU
  rw [hd, gd_app_l _ _ i (by rw [lst_size]; exact hi)]

def madeT (name attr value : ByteArray) : ByteArray :=
  ByteArray.mk #[60] ++ name ++ ByteArray.mk #[10] ++ attr ++ ByteArray.mk #[32, 61, 9, 34] ++ value ++ ByteArray.mk #[34, 32, 47, 62]

theorem made_all (name attr value : ByteArray) (h1 : openN (ByteArray.mk #[60] ++ name ++ ByteArray.mk #[62]) = name.size + 2)
    (h2 : openN (ByteArray.mk #[60] ++ name ++ ByteArray.mk #[32] ++ attr ++ ByteArray.mk #[62]) = name.size + attr.size + 3) (ha : 0 < attr.size)
    (hN : ∀ i (h : i < name.size), badN name[i] = false) (hA : ∀ i (h : i < attr.size), badA attr[i] = false) (hV : ∀ i (h : i < value.size), (value[i] == 34) = false) :
    openN (madeT name attr value) = (madeT name attr value).size ∧ rawF (madeT name attr value ++ ByteArray.mk #[120]) = (madeT name attr value).size ∧
      openN (ByteArray.mk #[60, 47] ++ name ++ ByteArray.mk #[32, 62]) = name.size + 4 := by
  have zN := lst_size name
  have zA := lst_size attr
  have zV := lst_size value
  have o1 := (openN_byte _ (by rw [h1]; omega)).2.2
  have o2 := (openN_byte _ (by rw [h2]; omega)).2.2
  rw [h1] at o1
  rw [h2] at o2
  have gN : goodName name.data.toList := bare_name name.data.toList (ByteArray.mk #[60] ++ name ++ ByteArray.mk #[62]) (by simp) (fun i hi => by
    rw [zN] at hi
    rw [gd_at name i hi]; exact badN_no _ (hN i hi)) (by rw [zN]; exact o1)
  have gA : goodAttr attr.data.toList := bare_attr name.data.toList attr.data.toList (ByteArray.mk #[60] ++ name ++ ByteArray.mk #[32] ++ attr ++ ByteArray.mk #[62]) (by simp) gN (by rw [zA]; exact ha) (fun i hi => by
    rw [zA] at hi
    rw [gd_at attr i hi]; exact badA_no _ (hA i hi)) (by rw [zN, zA]; exact o2)
  have m1 : openF (madeT name attr value) = some (madeT name attr value).size := made_open name.data.toList attr.data.toList value.data.toList _ (by unfold madeT; simp) gN gA (fun i hi => by
    rw [zV] at hi
    rw [gd_at value i hi]
    have := hV i hi
    simpa using this)
  have m2 : openF (ByteArray.mk #[60, 47] ++ name ++ ByteArray.mk #[32, 62]) = some (name.data.toList.length + 4) := made_close name.data.toList (ByteArray.mk #[60, 47] ++ name ++ ByteArray.mk #[32, 62]) (by simp) gN
  have hz : (madeT name attr value).size ≠ 0 := by
    have := (open_ends _ _ m1).1
    omega
  refine ⟨by unfold openN; rw [m1]; rfl, ?_, by unfold openN; rw [m2, zN]; rfl⟩
  refine raw_agree (agree_app (madeT name attr value) (ByteArray.mk #[120])) ?_ hz
  have hb := openN_byte (madeT name attr value) (by unfold openN; rw [m1]; exact hz)
  rw [raw_open _ hb.1 hb.2.1]
  unfold openN; rw [m1]; rfl

end Go.Proofs.YtjaidphlphncjaaDoor
