/- Plain facts on rows of marks: sides, what may open and close. -/
import Derived.Test.YtkpjcbpfpfjjkaaDoorRune
import Derived.Laws.Rows
namespace Go.Proofs.YtkpjcbpfpfjjkaaDoor
set_option linter.unusedVariables false
set_option linter.unusedSimpArgs false
open Go Go.RowKit Go.Lib

structure Side where
  blank : Bool
  mark : Bool

def sideOf (r : Int) (there : Bool) : Side := ⟨!there || blankB r, there && markB r⟩
def leansB (a b : Side) : Bool := !a.blank && (!a.mark || b.blank || b.mark)

def rowLen (s : ByteArray) (n : Nat) (c : UInt8) : Nat := lead (s.extract n s.size) ⟨#[c]⟩

theorem rowLen_le (s : ByteArray) (n : Nat) (c : UInt8) : rowLen s n c ≤ s.size - n := by
  have := leadN_le (s.extract n s.size) ⟨#[c]⟩ 0 (Nat.zero_le _)
  rw [Lib.tail_size] at this
  unfold rowLen lead; omega

theorem cut_row (s : ByteArray) (n : Nat) (c : UInt8) : (cutL (s.extract n s.size) ⟨#[c]⟩).size = s.size - n - rowLen s n c := by
  unfold cutL rowLen; rw [Lib.tail_size, Lib.tail_size]

theorem ascii_one (c : UInt8) (h : c.toNat < 128) : Ascii (ByteArray.mk #[c]).data.toList := by
  intro d hd
  have : d = c := by simpa using hd
  rw [this]; exact h

set_option maxRecDepth 100000 in
theorem encode_fin : ∀ c : Fin 128, Utf8.encode ((c.val : Nat) : Int) = ⟨#[UInt8.ofNat c.val]⟩ := by decide

theorem encode_ascii (m : Int) (c : UInt8) (h : (c.toNat : Int) = m) (hm : m < 128) : Utf8.encode m = ⟨#[c]⟩ := by
  subst h
  have := encode_fin ⟨c.toNat, by omega⟩
  rw [this]
  simp

theorem encode_bd (m : Int) (h0 : 0 ≤ m) (hm : m < 128) : (Utf8.encode m).size ≤ 1000000 ∧ Ascii (Utf8.encode m).data.toList := by
  have h : ((UInt8.ofNat m.toNat).toNat : Int) = m := by simp; omega
  rw [encode_ascii m (UInt8.ofNat m.toNat) h hm]
  exact ⟨by show 1 ≤ _; omega, ascii_one _ (by omega)⟩

/-- how many bytes at the beginning of a text are the character m, an ASCII one -/
def rowOf (s : ByteArray) (n : Nat) (m : Int) : Nat := lead (s.extract n s.size) (Utf8.encode m)

theorem rowOf_le (s : ByteArray) (n : Nat) (m : Int) : rowOf s n m ≤ s.size - n := by
  have := leadN_le (s.extract n s.size) (Utf8.encode m) 0 (Nat.zero_le _)
  rw [Lib.tail_size] at this
  unfold rowOf lead; omega

theorem cut_rowOf (s : ByteArray) (n : Nat) (m : Int) (hs : s.size ≤ 1000000) : IntKind.i64.wrap (((s.size - n : Nat) : Int) - ((cutL (s.extract n s.size) (Utf8.encode m)).size : Nat)) = (rowOf s n m : Nat) := by
  have hl := rowOf_le s n m
  have : (cutL (s.extract n s.size) (Utf8.encode m)).size = s.size - n - rowOf s n m := by
    unfold cutL rowOf; rw [Lib.tail_size, Lib.tail_size]
  rw [this, IntWalk.i64_in _ (by omega)]; omega

def aheadOf (s : ByteArray) (n : Nat) : Side := sideOf (beforeF s n) (decide (0 < n))
def behindOf (s : ByteArray) (n : Int) : Side := sideOf (runeF s n).1 (decide (0 < (runeF s n).2))

/-- open, close -/
def flags (low : Bool) (ahead behind : Side) : Bool × Bool :=
  let left := leansB behind ahead
  let right := leansB ahead behind
  if low then (left && (!right || ahead.mark), right && (!left || behind.mark)) else (left, right)

theorem below_block {B : Nat} {w w' : World} (h : Below B w w') {k : Nat} (hk : k < B) {o : Obj} (ho : w.heap[k]? = some o) : w'.heap[k]? = some o := (h.block k hk).trans ho

theorem blk_cell {w : World} {b : Nat} {cs : Array Value} {t : TypeId} {fr : Nat × Nat} (h : w.heap[b]? = some (.cells cs t fr)) (j : Nat) : w.cell? ⟨b, j, none⟩ = cs[j]? := by
  simp [World.cell?, h]

theorem blk_free {w : World} {b : Nat} {cs : Array Value} {t : TypeId} (h : w.heap[b]? = some (.cells cs t (0, 0))) (j : Nat) : w.frozen? ⟨b, j, none⟩ = false := by
  simp [World.frozen?, h]

theorem blk_lt {w : World} {b : Nat} {o : Obj} (h : w.heap[b]? = some o) : b < w.heap.size := (Array.getElem?_eq_some_iff.1 h).1

theorem blk_set {w : World} {b : Nat} {cs : Array Value} {t : TypeId} {fr : Nat × Nat} (h : w.heap[b]? = some (.cells cs t fr)) (j : Nat) (u : Value) :
    (w.setCell ⟨b, j, none⟩ u).heap[b]? = some (.cells (cs.setIfInBounds j u) t fr) := by
  simp [World.setCell, Array.getElem?_modify, h]

theorem blk_far {w : World} {b c : Nat} {o : Obj} (h : w.heap[b]? = some o) (j : Nat) (u : Value) (hne : c ≠ b) : (w.setCell ⟨c, j, none⟩ u).heap[b]? = some o := by
  rw [Go.RowKit.Below.heap_setCell _ _ _ _ (fun e => hne e.symm)]; exact h

theorem Tabs.le {B : Nat} {w w' : World} (h : Tabs w) (hb : Below B w w') (hB : w.heap.size ≤ B) : Tabs w' := h.below (hb.mono hB)


def sideC (r : Int) : Side := ⟨blankB r, markB r⟩

theorem side_no (r : Int) : sideOf r false = sideC 32 := rfl
theorem side_yes (r : Int) : sideOf r true = sideC r := by unfold sideOf sideC; simp

theorem ahead_yes (s : ByteArray) (n : Nat) (h : 0 < n) : aheadOf s n = sideC (beforeF s n) := by
  unfold aheadOf; rw [decide_eq_true h, side_yes]
theorem ahead_no (s : ByteArray) (n : Nat) (h : ¬ 0 < n) : aheadOf s n = sideC 32 := by
  unfold aheadOf; rw [decide_eq_false h, side_no]

theorem runeF_pos (s : ByteArray) (n : Nat) (h : n < s.size) : 0 < (runeF s n).2 := by
  unfold runeF; rw [if_pos (by omega)]
  have := Lib.width_pos s n
  show (0 : Int) < ((Utf8.decode s ((n : Int)).toNat).2 : Nat)
  rw [Int.toNat_natCast]; omega
theorem behind_yes (s : ByteArray) (n : Nat) (h : n < s.size) : behindOf s n = sideC (runeF s n).1 := by
  unfold behindOf; rw [decide_eq_true (runeF_pos s n h), side_yes]
theorem behind_no (s : ByteArray) (n : Nat) (h : s.size ≤ n) : behindOf s n = sideC 32 := by
  unfold behindOf
  have : runeF s n = (0, 0) := by unfold runeF; rw [if_neg (by omega)]
  rw [this]; rfl

/-- the two blocks of a reference's Scan: the result's and the local one's -/
def St (w0 : World) (t : TypeId) (m k : Int) (x y : Bool) (wx : World) : Prop :=
  wx.heap[w0.heap.size]? = some (.cells #[.int .u8 0, .int .i64 0, .bool false, .bool false] t (0, 0)) ∧
  wx.heap[w0.heap.size + 1]? = some (.cells #[.int .u8 m, .int .i64 k, .bool x, .bool y] t (0, 0)) ∧ Below w0.heap.size w0 wx

theorem St.lt {w0 wx : World} {t : TypeId} {m k : Int} {x y : Bool} (h : St w0 t m k x y wx) : w0.heap.size + 1 < wx.heap.size := blk_lt h.2.1
theorem St.next {w0 wx wy : World} {t : TypeId} {m k : Int} {x y : Bool} (h : St w0 t m k x y wx) (hb : Below wx.heap.size wx wy) : St w0 t m k x y wy := by
  have hl := h.lt
  exact ⟨below_block hb (by omega) h.1, below_block hb hl h.2.1, h.2.2.trans (hb.mono (by omega))⟩
theorem St.set2 {w0 wx : World} {t : TypeId} {m k : Int} {x y : Bool} (h : St w0 t m k x y wx) (v : Bool) : St w0 t m k v y (wx.setCell ⟨w0.heap.size + 1, 2, none⟩ (.bool v)) :=
  ⟨blk_far h.1 _ _ (by omega), blk_set h.2.1 2 _, h.2.2.setCell (by simp) _⟩
theorem St.set3 {w0 wx : World} {t : TypeId} {m k : Int} {x y : Bool} (h : St w0 t m k x y wx) (v : Bool) : St w0 t m k x v (wx.setCell ⟨w0.heap.size + 1, 3, none⟩ (.bool v)) :=
  ⟨blk_far h.1 _ _ (by omega), blk_set h.2.1 3 _, h.2.2.setCell (by simp) _⟩
theorem St.cells {w0 wx : World} {t : TypeId} {m k : Int} {x y : Bool} (h : St w0 t m k x y wx) :
    wx.cell? ⟨w0.heap.size + 1, 0, none⟩ = some (.int .u8 m) ∧ wx.cell? ⟨w0.heap.size + 1, 1, none⟩ = some (.int .i64 k) ∧ wx.cell? ⟨w0.heap.size + 1, 2, none⟩ = some (.bool x) ∧ wx.cell? ⟨w0.heap.size + 1, 3, none⟩ = some (.bool y) :=
  ⟨blk_cell h.2.1 0, blk_cell h.2.1 1, blk_cell h.2.1 2, blk_cell h.2.1 3⟩
theorem St.free {w0 wx : World} {t : TypeId} {m k : Int} {x y : Bool} (h : St w0 t m k x y wx) (j : Nat) : wx.frozen? ⟨w0.heap.size + 1, j, none⟩ = false := blk_free h.2.1 j
theorem St.cells0 {w0 wx : World} {t : TypeId} {m k : Int} {x y : Bool} (h : St w0 t m k x y wx) :
    wx.cell? ⟨w0.heap.size, 0, none⟩ = some (.int .u8 0) ∧ wx.cell? ⟨w0.heap.size, 1, none⟩ = some (.int .i64 0) ∧ wx.cell? ⟨w0.heap.size, 2, none⟩ = some (.bool false) ∧ wx.cell? ⟨w0.heap.size, 3, none⟩ = some (.bool false) :=
  ⟨blk_cell h.1 0, blk_cell h.1 1, blk_cell h.1 2, blk_cell h.1 3⟩
theorem St.free0 {w0 wx : World} {t : TypeId} {m k : Int} {x y : Bool} (h : St w0 t m k x y wx) (j : Nat) : wx.frozen? ⟨w0.heap.size, j, none⟩ = false := blk_free h.1 j

theorem leadN_extract (s set : ByteArray) (n k : Nat) : leadN (s.extract n s.size) set k = leadN s set (n + k) := by
  unfold leadN
  rw [Lib.extract_data, List.take_of_length_le (by simp), List.drop_drop]

theorem rowOf_eq (s : ByteArray) (n : Nat) (m : Int) : rowOf s n m = leadN s (Utf8.encode m) n := by
  unfold rowOf lead; rw [leadN_extract]; rfl

theorem leadN_enc (s : ByteArray) (m : Int) (h0 : 0 ≤ m) (h1 : m < 128) (pos : Nat) (h : pos < s.size) :
    leadN s (Utf8.encode m) pos = if ((s[pos].toNat : Int) == m) = true then leadN s (Utf8.encode m) (pos + 1) + 1 else 0 := by
  have hc : ((UInt8.ofNat m.toNat).toNat : Int) = m := by simp; omega
  rw [encode_ascii m (UInt8.ofNat m.toNat) hc h1]
  unfold leadN leadFrom
  rw [drop_cons s pos h, List.takeWhile_cons]
  have : (ByteArray.mk #[UInt8.ofNat m.toNat]).data.toList.contains s[pos] = ((s[pos].toNat : Int) == m) := by
    rw [Bool.eq_iff_iff]
    simp only [List.contains_cons, List.contains_nil, Bool.or_false, beq_iff_eq]
    constructor
    · intro e; rw [e]; exact hc
    · intro e; exact UInt8.toNat_inj.1 (by omega)
  rw [this]
  split <;> simp_all

structure RunR where
  mark : Int
  n : Int
  op : Bool
  cl : Bool
  ok : Bool

def byteI (s : ByteArray) (a : Int) : Int := ((s.get! a.toNat).toNat : Nat)

/-- Scan: a row's mark, how many, may it open, may it close; is there one? -/
def scanR (s : ByteArray) (a : Int) : RunR :=
  if 0 ≤ a ∧ a < s.size ∧ (byteI s a = 42 ∨ byteI s a = 95) then
    ⟨byteI s a, (rowOf s a.toNat (byteI s a) : Nat), (flags (byteI s a == 95) (aheadOf s a.toNat) (behindOf s ((a.toNat : Int) + (rowOf s a.toNat (byteI s a) : Nat)))).1,
      (flags (byteI s a == 95) (aheadOf s a.toNat) (behindOf s ((a.toNat : Int) + (rowOf s a.toNat (byteI s a) : Nat)))).2, true⟩
  else ⟨0, 0, false, false, false⟩

theorem scanR_yes (s : ByteArray) (n : Nat) (h : n < s.size) (m : Int) (hm : (s[n].toNat : Int) = m) (h2 : m = 42 ∨ m = 95) :
    scanR s n = ⟨m, (rowOf s n m : Nat), (flags (m == 95) (aheadOf s n) (behindOf s ((n : Int) + (rowOf s n m : Nat)))).1, (flags (m == 95) (aheadOf s n) (behindOf s ((n : Int) + (rowOf s n m : Nat)))).2, true⟩ := by
  have hb : byteI s n = m := by unfold byteI; rw [Int.toNat_natCast, get!_of_lt h]; exact hm
  unfold scanR
  rw [if_pos ⟨by omega, by omega, by rw [hb]; exact h2⟩, hb]; rfl

theorem scanR_no (s : ByteArray) (a : Int) (h : ¬ (0 ≤ a ∧ a < s.size ∧ (byteI s a = 42 ∨ byteI s a = 95))) : scanR s a = ⟨0, 0, false, false, false⟩ := by
  unfold scanR; rw [if_neg h]

end Go.Proofs.YtkpjcbpfpfjjkaaDoor
