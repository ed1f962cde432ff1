/- Appends onto a slice of bytes of the call's own: a text, another such slice. -/
import Derived.Test.YtcpbljhogenjoaaGreatDoorBytes
import Derived.Lib.AppendStr
namespace Go.Proofs.YtcpbljhogenjoaaGreatDoor
set_option linter.unusedVariables false
set_option linter.unusedSimpArgs false
open Go Go.RowKit Go.Lib

theorem byteVals_append (a b : List UInt8) : byteVals a ++ byteVals b = byteVals (a ++ b) := by simp [byteVals]
theorem byteVals_len (a : List UInt8) : (byteVals a).length = a.length := by simp [byteVals]

/-- a byte slice of the walk's own, turned to a text -/
theorem own_text {B : Nat} {v : Value} {l : List UInt8} {w : World} (h : Own B v l w) :
    (convert 52 9 v).run Tryz.prog w = .ok (.string ⟨l.toArray⟩) w := by
  obtain ⟨g, c, hv⟩ := h.2
  subst hv
  exact text_of h

/-- an own slice is not nil -/
theorem own_some {B : Nat} {v v' : Value} {l m : List UInt8} {w w' : World} (h : Own B v l w) (h1 : w'.ownsRow B 5 1 v' (l.length + m.length) (byteVals (l ++ m))) (h2 : v' = .slice none 0 0 → v = .slice none 0 0) : Own B v' (l ++ m) w' := by
  obtain ⟨g, c, hv⟩ := h.2
  refine ⟨by rw [List.length_append]; exact h1, ?_⟩
  rcases h1.2 with ⟨h3, h4⟩ | ⟨g', cap', cur', hv', _⟩
  · exact absurd (h2 h3) (by rw [hv]; simp)
  · exact ⟨g', cap', by rw [hv', List.length_append]⟩

theorem append_text {ops : Array Oper} {rest : List Oper} {o : Oper} {a : Act} {Q : Exit → Act → World → Prop} (hgd : o.guard = none) (s x : Operand)
    (ho : o.op = .call { callee := .builtin .append, args := #[s, x], argTypes := #[52, 9] })
    (B : Nat) (v : Value) (l : List UInt8) (t : ByteArray) (w : World) (hs : a.eval s = v) (hown : Own B v l w) (hx : a.eval x = .string t)
    (hl : l.length ≤ 1000000) (ht : t.size ≤ 1000000) (hB : B ≤ w.heap.size)
    (h : ∀ v' w', Own B v' (l ++ t.data.toList) w' → Below B w w' → wpList Tryz.prog ops Q rest (a.put o.dst v') w') : wpList Tryz.prog ops Q (o :: rest) a w := by
  obtain ⟨i0, hi, hz0, hz1, hz2⟩ := info_parts infoB
  have hsz : t.data.toList.length = t.size := (Lib.size_eq t).symm
  refine wpList_append_own_string _ hgd s x 52 9 ho B 5 i0 Tryz.underlying52 Tryz.underlying9 hi hz0 hz1 hz2 v l.length (byteVals l) hs hown.1 t hx (by unfold maxLen; omega) (by omega) hB ?_
  intro v' w' h1 h2 h3
  refine h v' w' (own_some hown ?_ (fun e => (h3.1 e).1)) ((Below.refl B w).grown h2 hB (fun k hk => ?_))
  · rw [← byteVals_append, hsz]; exact h1
  · obtain ⟨g, cap, cur, hv, hg, -⟩ := hown.block
    rw [hv] at hk
    simp [Value.ownBlock] at hk
    omega

theorem append_bytes {ops : Array Oper} {rest : List Oper} {o : Oper} {a : Act} {Q : Exit → Act → World → Prop} (hgd : o.guard = none) (s x : Operand)
    (ho : o.op = .call { callee := .builtin .append, args := #[s, x], argTypes := #[52, 52] })
    (B B2 : Nat) (v y : Value) (l m : List UInt8) (w : World) (hs : a.eval s = v) (hown : Own B v l w) (hx : a.eval x = y) (hy : Own B2 y m w)
    (hl : l.length ≤ 1000000) (hm : m.length ≤ 1000000) (hm0 : 1 ≤ m.length) (hB : B ≤ w.heap.size)
    (h : ∀ v' w', Own B v' (l ++ m) w' → Below B w w' → wpList Tryz.prog ops Q rest (a.put o.dst v') w') : wpList Tryz.prog ops Q (o :: rest) a w := by
  obtain ⟨i0, hi, hz0, hz1, hz2⟩ := info_parts infoB
  obtain ⟨g, c, rfl⟩ := hy.2
  refine wpList_append_own _ hgd s x 52 ho B 5 i0 (.int .u8 0) 1 1 Tryz.underlying52 hi hz0 hz1 hz2 rfl (by decide) v l.length (byteVals l) hs hown.1 ⟨g, 0, none⟩ m.length c (byteVals m) hx (by rw [byteVals_len]; omega) ?_ ?_ (by unfold maxLen; omega) (by omega) hB ?_
  · intro j u hj
    have hjl : j < m.length := by
      have := (List.getElem?_eq_some_iff.1 hj).1
      rw [byteVals_len] at this; exact this
    have hc := hy.cell j hjl
    have hu : u = .int .u8 (m[j].toNat : Int) := by
      have : (byteVals m)[j]? = some (.int .u8 (m[j].toNat : Int)) := by simp [byteVals, hjl]
      rw [this] at hj; exact (Option.some.inj hj).symm
    rw [hu]
    have hadd : ((⟨g, 0, none⟩ : Addr).add j) = ⟨g, j, none⟩ := by unfold Addr.add; split <;> simp_all
    rw [hadd]; exact hc
  · intro u hu
    obtain ⟨b, _, rfl⟩ := List.mem_map.1 hu
    rfl
  · intro v' w' h1 h2 h3
    refine h v' w' (own_some hown ?_ (fun e => ?_)) ((Below.refl B w).grown h2 hB (fun k hk => ?_))
    · rw [← byteVals_append]; simpa using h1
    · rcases h1.2 with ⟨_, h4⟩ | ⟨g', cap', cur', hv', _⟩
      · omega
      · rw [hv'] at e; cases e
    · obtain ⟨g, cap, cur, hv, hg, -⟩ := hown.block
      rw [hv] at hk
      simp [Value.ownBlock] at hk
      omega

end Go.Proofs.YtcpbljhogenjoaaGreatDoor
