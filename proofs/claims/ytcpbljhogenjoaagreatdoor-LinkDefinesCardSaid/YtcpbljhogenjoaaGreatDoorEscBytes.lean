/- Walks: the reference's Bytes. -/
import Derived.Test.YtcpbljhogenjoaaGreatDoorEscR3
import Derived.Test.YtcpbljhogenjoaaGreatDoorEscR7
import Derived.Test.YtcpbljhogenjoaaGreatDoorBytes
namespace Go.Proofs.YtcpbljhogenjoaaGreatDoor
set_option linter.unusedVariables false
set_option linter.unusedSimpArgs false
open Go Go.RowKit Go.Shelf Go.Lib

/-- the walk has made a slice of bytes of its own -/
theorem own_lit (w : World) (l : List UInt8) (cs : List Value) (hl : l.length ≤ 1000) (h : cs = byteVals l) :
    Own w.heap.size (.slice (some ⟨w.heap.size, 0, none⟩) l.length l.length) l (w.alloc (.cells cs.toArray 5)) := by
  subst h
  refine ⟨⟨by simp [byteVals], Or.inr ⟨w.heap.size, l.length, (byteVals l).toArray, rfl, Nat.le_refl _, heap_alloc_new w _, Nat.le_refl _, by unfold maxLen; omega, by simp [byteVals], ?_⟩⟩, _, _, rfl⟩
  exact List.take_of_length_le (by simp [byteVals])

theorem enc_valid (n : Nat) (h : ¬ (55296 ≤ n ∧ n < 57344)) (h2 : n ≤ 1114111) : Utf8.encode (n : Int) =
    if n < 128 then ⟨#[UInt8.ofNat n]⟩ else if n < 2048 then ⟨#[UInt8.ofNat (192 + n / 64), UInt8.ofNat (128 + n % 64)]⟩
    else if n < 65536 then ⟨#[UInt8.ofNat (224 + n / 4096), UInt8.ofNat (128 + n / 64 % 64), UInt8.ofNat (128 + n % 64)]⟩
    else ⟨#[UInt8.ofNat (240 + n / 262144), UInt8.ofNat (128 + n / 4096 % 64), UInt8.ofNat (128 + n / 64 % 64), UInt8.ofNat (128 + n % 64)]⟩ := by
  have hv : Utf8.valid (n : Int) = true := by rw [validRune_eq]; unfold validRune; exact decide_eq_true (by omega)
  unfold Utf8.encode
  simp only [hv, if_true, Int.toNat_natCast]

theorem u8n (n : Nat) (h : n < 256) : ((UInt8.ofNat n).toNat : Int) = (n : Int) := by
  have : (UInt8.ofNat n).toNat = n := by simp; omega
  rw [this]

set_option maxHeartbeats 2000000 in
set_option maxRecDepth 100000 in
theorem r3Bytes_1 (n : Nat) (w : World) (hv : ¬ (55296 ≤ n ∧ n < 57344)) (h : n < 128) :
    Calls Tryz.prog 78 #[.int .i64 (n : Int)] w fun e w' => (∃ v, e = .returned v ∧ Own w.heap.size v (Utf8.encode (n : Int)).data.toList w') ∧ Below w.heap.size w w' := by
  have he : (Utf8.encode (n : Int)).data.toList = [UInt8.ofNat n] := by
    rw [enc_valid n hv (by omega)]
    rw [if_pos h]
  rw [he]
  have hcs : [.int .u8 ((n : Int))] = byteVals [UInt8.ofNat n] := by
    simp only [byteVals, List.map_cons, List.map_nil]
    rw [u8n (n) (by omega)]
    try simp
  have how := own_lit w [UInt8.ofNat n] _ (by simp) hcs
  clear he hcs hv
  have d1 : decide ((n : Int) < 128) = true := decide_eq_true (by omega)
  go_enter Tryz.func78, Tryz.ntmps78
  go_wp2_with fail
  go_ret
  exact ⟨⟨_, rfl, how⟩, (Below.refl _ _).alloc (Nat.le_refl _) _⟩

set_option maxHeartbeats 2000000 in
set_option maxRecDepth 100000 in
theorem r3Bytes_2 (n : Nat) (w : World) (hv : ¬ (55296 ≤ n ∧ n < 57344)) (h : 128 ≤ n ∧ n < 2048) :
    Calls Tryz.prog 78 #[.int .i64 (n : Int)] w fun e w' => (∃ v, e = .returned v ∧ Own w.heap.size v (Utf8.encode (n : Int)).data.toList w') ∧ Below w.heap.size w w' := by
  have he : (Utf8.encode (n : Int)).data.toList = [UInt8.ofNat (192 + n / 64), UInt8.ofNat (128 + n % 64)] := by
    rw [enc_valid n hv (by omega)]
    rw [if_neg (by omega), if_pos h.2]
  rw [he]
  have hcs : [.int .u8 (192 + (n : Int) / 64), .int .u8 (128 + (n : Int) % 64)] = byteVals [UInt8.ofNat (192 + n / 64), UInt8.ofNat (128 + n % 64)] := by
    simp only [byteVals, List.map_cons, List.map_nil]
    rw [u8n (192 + n / 64) (by omega), u8n (128 + n % 64) (by omega)]
    try simp
  have how := own_lit w [UInt8.ofNat (192 + n / 64), UInt8.ofNat (128 + n % 64)] _ (by simp) hcs
  clear he hcs hv
  have d1 : decide ((n : Int) < 128) = false := decide_eq_false (by omega)
  have d2 : decide ((n : Int) < 2048) = true := decide_eq_true (by omega)
  obtain ⟨h1, h2⟩ := h
  go_enter Tryz.func78, Tryz.ntmps78
  go_wp2_with fail
  go_ret
  exact ⟨⟨_, rfl, how⟩, (Below.refl _ _).alloc (Nat.le_refl _) _⟩

set_option maxHeartbeats 2000000 in
set_option maxRecDepth 100000 in
theorem r3Bytes_3 (n : Nat) (w : World) (hv : ¬ (55296 ≤ n ∧ n < 57344)) (h : 2048 ≤ n ∧ n < 65536) :
    Calls Tryz.prog 78 #[.int .i64 (n : Int)] w fun e w' => (∃ v, e = .returned v ∧ Own w.heap.size v (Utf8.encode (n : Int)).data.toList w') ∧ Below w.heap.size w w' := by
  have he : (Utf8.encode (n : Int)).data.toList = [UInt8.ofNat (224 + n / 4096), UInt8.ofNat (128 + n / 64 % 64), UInt8.ofNat (128 + n % 64)] := by
    rw [enc_valid n hv (by omega)]
    rw [if_neg (by omega), if_neg (by omega), if_pos h.2]
  rw [he]
  have hcs : [.int .u8 (224 + (n : Int) / 4096), .int .u8 (128 + (n : Int) / 64 % 64), .int .u8 (128 + (n : Int) % 64)] = byteVals [UInt8.ofNat (224 + n / 4096), UInt8.ofNat (128 + n / 64 % 64), UInt8.ofNat (128 + n % 64)] := by
    simp only [byteVals, List.map_cons, List.map_nil]
    rw [u8n (224 + n / 4096) (by omega), u8n (128 + n / 64 % 64) (by omega), u8n (128 + n % 64) (by omega)]
    try simp
  have how := own_lit w [UInt8.ofNat (224 + n / 4096), UInt8.ofNat (128 + n / 64 % 64), UInt8.ofNat (128 + n % 64)] _ (by simp) hcs
  clear he hcs hv
  have d1 : decide ((n : Int) < 128) = false := decide_eq_false (by omega)
  have d2 : decide ((n : Int) < 2048) = false := decide_eq_false (by omega)
  have d3 : decide ((n : Int) < 65536) = true := decide_eq_true (by omega)
  obtain ⟨h1, h2⟩ := h
  go_enter Tryz.func78, Tryz.ntmps78
  go_wp2_with fail
  go_ret
  exact ⟨⟨_, rfl, how⟩, (Below.refl _ _).alloc (Nat.le_refl _) _⟩

set_option maxHeartbeats 2000000 in
set_option maxRecDepth 100000 in
theorem r3Bytes_4 (n : Nat) (w : World) (hv : ¬ (55296 ≤ n ∧ n < 57344)) (h : 65536 ≤ n ∧ n ≤ 1114111) :
    Calls Tryz.prog 78 #[.int .i64 (n : Int)] w fun e w' => (∃ v, e = .returned v ∧ Own w.heap.size v (Utf8.encode (n : Int)).data.toList w') ∧ Below w.heap.size w w' := by
  have he : (Utf8.encode (n : Int)).data.toList = [UInt8.ofNat (240 + n / 262144), UInt8.ofNat (128 + n / 4096 % 64), UInt8.ofNat (128 + n / 64 % 64), UInt8.ofNat (128 + n % 64)] := by
    rw [enc_valid n hv (by omega)]
    rw [if_neg (by omega), if_neg (by omega), if_neg (by omega)]
  rw [he]
  have hcs : [.int .u8 (240 + (n : Int) / 262144), .int .u8 (128 + (n : Int) / 4096 % 64), .int .u8 (128 + (n : Int) / 64 % 64), .int .u8 (128 + (n : Int) % 64)] = byteVals [UInt8.ofNat (240 + n / 262144), UInt8.ofNat (128 + n / 4096 % 64), UInt8.ofNat (128 + n / 64 % 64), UInt8.ofNat (128 + n % 64)] := by
    simp only [byteVals, List.map_cons, List.map_nil]
    rw [u8n (240 + n / 262144) (by omega), u8n (128 + n / 4096 % 64) (by omega), u8n (128 + n / 64 % 64) (by omega), u8n (128 + n % 64) (by omega)]
    try simp
  have how := own_lit w [UInt8.ofNat (240 + n / 262144), UInt8.ofNat (128 + n / 4096 % 64), UInt8.ofNat (128 + n / 64 % 64), UInt8.ofNat (128 + n % 64)] _ (by simp) hcs
  clear he hcs hv
  have d1 : decide ((n : Int) < 128) = false := decide_eq_false (by omega)
  have d2 : decide ((n : Int) < 2048) = false := decide_eq_false (by omega)
  have d3 : decide ((n : Int) < 65536) = false := decide_eq_false (by omega)
  obtain ⟨h1, h2⟩ := h
  go_enter Tryz.func78, Tryz.ntmps78
  go_wp2_with fail
  go_ret
  exact ⟨⟨_, rfl, how⟩, (Below.refl _ _).alloc (Nat.le_refl _) _⟩

theorem r3Bytes_calls (n : Nat) (w : World) (hv : ¬ (55296 ≤ n ∧ n < 57344)) (h : n ≤ 1114111) :
    Calls Tryz.prog 78 #[.int .i64 (n : Int)] w fun e w' => (∃ v, e = .returned v ∧ Own w.heap.size v (Utf8.encode (n : Int)).data.toList w') ∧ Below w.heap.size w w' := by
  by_cases h1 : n < 128
  · exact r3Bytes_1 n w hv h1
  · by_cases h2 : n < 2048
    · exact r3Bytes_2 n w hv ⟨by omega, h2⟩
    · by_cases h3 : n < 65536
      · exact r3Bytes_3 n w hv ⟨by omega, h3⟩
      · exact r3Bytes_4 n w hv ⟨by omega, h⟩

end Go.Proofs.YtcpbljhogenjoaaGreatDoor
