/- Plain: what the functions of package link compute. No program in sight. -/
import Derived.Test.YtcpbljhogenjoaaDoorEscDef
namespace Go.Proofs.YtcpbljhogenjoaaDoor
set_option linter.unusedVariables false
set_option linter.unusedSimpArgs false
open Go Go.RowKit Go.Lib

/-- how many bytes one thing at a place has -/
def stepN (s : ByteArray) (k : Nat) : Nat := if escU s k = true then 2 else 1

theorem escU_in (s : ByteArray) (k : Nat) (h : escU s k = true) : k + 1 < s.size := by
  unfold escU at h
  simp only [Bool.and_eq_true, decide_eq_true_eq] at h
  exact h.2.1
theorem step_pos (s : ByteArray) (k : Nat) : 1 ≤ stepN s k := by unfold stepN; split <;> omega
theorem step_le (s : ByteArray) (k : Nat) (h : k < s.size) : k + stepN s k ≤ s.size := by
  unfold stepN
  split
  · rename_i he; have := escU_in s k he; omega
  · omega

/-- the first place from k on, thing by thing, whose byte p takes; at or behind the end: there is none -/
def upG (s : ByteArray) (p : UInt8 → Bool) : Nat → Nat → Nat
  | 0, k => k
  | f + 1, k => if (decide (k < s.size) && !p (byteU s k)) = true then upG s p f (k + stepN s k) else k
def upF (s : ByteArray) (p : UInt8 → Bool) (k : Nat) : Nat := upG s p (s.size - k) k

theorem upG_fuel (s : ByteArray) (p : UInt8 → Bool) : ∀ (f g k : Nat), s.size - k ≤ f → s.size - k ≤ g → upG s p f k = upG s p g k := by
  intro f
  induction f with
  | zero =>
    intro g k hf _
    cases g with
    | zero => rfl
    | succ g =>
      have : decide (k < s.size) = false := decide_eq_false (by omega)
      simp only [upG, this, Bool.false_and, Bool.false_eq_true, if_false]
  | succ f ih =>
    intro g k hf hg
    cases g with
    | zero =>
      have : decide (k < s.size) = false := decide_eq_false (by omega)
      simp only [upG, this, Bool.false_and, Bool.false_eq_true, if_false]
    | succ g =>
      simp only [upG]
      split
      · have := step_pos s k
        exact ih g _ (by omega) (by omega)
      · rfl

theorem upF_end (s : ByteArray) (p : UInt8 → Bool) (k : Nat) (h : s.size ≤ k) : upF s p k = k := by
  unfold upF
  rw [Nat.sub_eq_zero_of_le h]; rfl

theorem upF_yes (s : ByteArray) (p : UInt8 → Bool) (k : Nat) (h : k < s.size) (hp : p (byteU s k) = true) : upF s p k = k := by
  unfold upF
  obtain ⟨f, e⟩ : ∃ f, s.size - k = f + 1 := ⟨s.size - k - 1, by omega⟩
  rw [e, upG, hp]; simp

theorem upF_no (s : ByteArray) (p : UInt8 → Bool) (k : Nat) (h : k < s.size) (hp : p (byteU s k) = false) : upF s p k = upF s p (k + stepN s k) := by
  unfold upF
  obtain ⟨f, e⟩ : ∃ f, s.size - k = f + 1 := ⟨s.size - k - 1, by omega⟩
  rw [e, upG, hp, decide_eq_true h]
  have := step_pos s k
  simp only [Bool.not_false, Bool.and_self, if_true]
  exact upG_fuel s p _ _ _ (by omega) (Nat.le_refl _)

theorem upF_le (s : ByteArray) (p : UInt8 → Bool) (k : Nat) (h : k ≤ s.size) : upF s p k ≤ s.size := by
  generalize hn : s.size - k = n
  induction n using Nat.strongRecOn generalizing k with
  | ind n ih =>
    by_cases hk : k < s.size
    · cases hp : p (byteU s k) with
      | true => rw [upF_yes s p k hk hp]; exact h
      | false =>
        rw [upF_no s p k hk hp]
        have h1 := step_pos s k
        exact ih (s.size - (k + stepN s k)) (by omega) _ (step_le s k hk) rfl
    · rw [upF_end s p k (by omega)]; exact h

theorem upF_ge (s : ByteArray) (p : UInt8 → Bool) (k : Nat) : k ≤ upF s p k := by
  generalize hn : s.size - k = n
  induction n using Nat.strongRecOn generalizing k with
  | ind n ih =>
    by_cases hk : k < s.size
    · cases hp : p (byteU s k) with
      | true => rw [upF_yes s p k hk hp]; exact Nat.le_refl _
      | false =>
        rw [upF_no s p k hk hp]
        have h1 := step_pos s k
        exact Nat.le_trans (by omega) (ih (s.size - (k + stepN s k)) (by omega) _ rfl)
    · rw [upF_end s p k (by omega)]; exact Nat.le_refl _

theorem upF_at (s : ByteArray) (p : UInt8 → Bool) (k : Nat) (h : upF s p k < s.size) : p (byteU s (upF s p k)) = true := by
  generalize hn : s.size - k = n
  induction n using Nat.strongRecOn generalizing k with
  | ind n ih =>
    by_cases hk : k < s.size
    · cases hp : p (byteU s k) with
      | true => rw [upF_yes s p k hk hp]; exact hp
      | false =>
        rw [upF_no s p k hk hp] at h ⊢
        have h1 := step_pos s k
        exact ih (s.size - (k + stepN s k)) (by omega) _ h rfl
    · rw [upF_end s p k (by omega)] at h; omega

/-! ## the parts -/

def lstopU (c : UInt8) : Bool := c == 91 || c == 93
def angU (c : UInt8) : Bool := c == 10 || (c == 60 || c == 62)
def endU (c : UInt8) : UInt8 := if c = 40 then 41 else c
def tstopU (c x : UInt8) : Bool := x == c || x == endU c

/-- a label at a place, and how many bytes it has -/
def labelF (s : ByteArray) (a : Nat) : ByteArray × Nat :=
  let e := upF s lstopU (a + 1)
  if (decide (a < s.size) && (byteU s a == 91 && (decide (e < s.size) && (byteU s e == 93 && (decide (e - a ≤ 1000) && !((s.extract (a + 1) e).data.toList.all gapU)))))) = true then (s.extract (a + 1) e, e + 1 - a) else (⟨#[]⟩, 0)

/-- the end of a destination without marks, with so many parentheses open -/
def bareG (s : ByteArray) : Nat → Nat → Nat → Option (Nat × Nat)
  | 0, k, o => some (k, o)
  | f + 1, k, o =>
    if (decide (k < s.size) && (decide (32 < (byteU s k).toNat) && (!(byteU s k == 127) && !(byteU s k == 41 && decide (o = 0))))) = true then
      let q := if byteU s k = 40 then o + 1 else if byteU s k = 41 then o - 1 else o
      if 32 < q then none else bareG s f (k + stepN s k) q
    else some (k, o)
def bareF (s : ByteArray) (a : Nat) : Option Nat :=
  match bareG s (s.size - a) a 0 with
  | some (k, o) => if (decide (a < k) && decide (o = 0)) = true then some k else none
  | none => none

/-- a destination at a place, and how many bytes it has -/
def destF (s : ByteArray) (a : Nat) : ByteArray × Nat :=
  if (decide (a < s.size) && byteU s a == 60) = true then
    let e := upF s angU (a + 1)
    if (decide (e < s.size) && byteU s e == 62) = true then (plainF (s.extract (a + 1) e), e + 1 - a) else (⟨#[]⟩, 0)
  else match bareF s a with
    | some e => (plainF (s.extract a e), e - a)
    | none => (⟨#[]⟩, 0)

/-- a title at a place, and how many bytes it has -/
def titleF (s : ByteArray) (a : Nat) : ByteArray × Nat :=
  if (decide (a < s.size) && (byteU s a == 34 || (byteU s a == 39 || byteU s a == 40))) = true then
    let e := upF s (tstopU (byteU s a)) (a + 1)
    if (decide (e < s.size) && byteU s e == endU (byteU s a)) = true then (plainF (s.extract (a + 1) e), e + 1 - a) else (⟨#[]⟩, 0)
  else (⟨#[]⟩, 0)

/-- behind the blanks at a place -/
def gapN (s : ByteArray) (a : Nat) : Nat := skipN s gapT a
/-- have these one line's end at most? -/
def gapOK (s : ByteArray) (a : Nat) : Bool := decide ((s.extract a (gapN s a)).data.toList.count 10 ≤ 1)

/-- behind a line that has nothing but blanks -/
def restF2 (s : ByteArray) (a : Nat) : Option Nat :=
  let e := skipN s blanksT a
  if s.size ≤ e then some e else if byteU s e = 10 then some (e + 1) else none

/-- a title behind blanks, that its line ends with: it, behind it, behind the line -/
def titledF (s : ByteArray) (a : Nat) : Option (ByteArray × Nat × Nat) :=
  let b := gapN s a
  if (decide (a < b) && gapOK s a) = true then
    if 0 < (titleF s b).2 then (restF2 s (b + (titleF s b).2)).map fun e => ((titleF s b).1, b + (titleF s b).2, e) else none
  else none

structure DefR where
  label : ByteArray
  link : ByteArray
  title : ByteArray
  from_ : Nat
  upto : Nat
  n : Nat

def noDef : DefR := ⟨⟨#[]⟩, ⟨#[]⟩, ⟨#[]⟩, 0, 0, 0⟩

/-- a definition at a place -/
def defineF (s : ByteArray) (a : Nat) : DefR :=
  let l := labelF s a
  let c := a + l.2
  if (decide (0 < l.2) && (decide (c < s.size) && byteU s c == 58)) = true then
    let f := gapN s (c + 1)
    let d := destF s f
    if (gapOK s (c + 1) && decide (0 < d.2)) = true then
      match titledF s (f + d.2) with
      | some (t, u, e) => ⟨foldF l.1, d.1, t, a, u, e - a⟩
      | none => match restF2 s (f + d.2) with
        | some e => ⟨foldF l.1, d.1, ⟨#[]⟩, a, f + d.2, e - a⟩
        | none => noDef
    else noDef
  else noDef

end Go.Proofs.YtcpbljhogenjoaaDoor
