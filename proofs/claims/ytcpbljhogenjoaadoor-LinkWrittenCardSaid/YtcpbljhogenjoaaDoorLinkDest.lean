/- Walks: link.bare, Dest. -/
import Derived.Test.YtcpbljhogenjoaaDoorLinkTitle
import Derived.WalkMore
import Derived.Deep.LoopGhost
namespace Go.Proofs.YtcpbljhogenjoaaDoor
set_option linter.unusedVariables false
set_option linter.unusedSimpArgs false
open Go Go.RowKit Go.Shelf Go.Lib

def bareT (t : ByteArray) (k q : Nat) : Option (Nat × Nat) := bareG t (t.size - k) k q

theorem bareT_end (t : ByteArray) (k q : Nat) (h : t.size ≤ k) : bareT t k q = some (k, q) := by
  unfold bareT; rw [Nat.sub_eq_zero_of_le h]; rfl
theorem bareT_at (t : ByteArray) (k q : Nat) (h : k < t.size) : bareT t k q = if (decide (32 < t[k].toNat) && (!(t[k] == 127) && !(t[k] == 41 && decide (q = 0)))) = true then
      (if 32 < (if t[k] = 40 then q + 1 else if t[k] = 41 then q - 1 else q) then none else bareT t (k + stepN t k) (if t[k] = 40 then q + 1 else if t[k] = 41 then q - 1 else q)) else some (k, q) := by
  unfold bareT
  obtain ⟨f, e⟩ : ∃ f, t.size - k = f + 1 := ⟨t.size - k - 1, by omega⟩
  have := step_pos t k
  rw [e, bareG, decide_eq_true h, Bool.true_and, byteU_in t k h]
  simp only []
  rw [bareG_fuel t f (t.size - (k + stepN t k)) _ _ (by omega) (Nat.le_refl _)]

/-- what bare answers -/
def bareI (t : ByteArray) : Int := match bareF t 0 with | some e => ((e : Nat) : Int) | none => -1

theorem bareI_of (t : ByteArray) (k q : Nat) (h : bareT t 0 0 = some (k, q)) : bareI t = if (decide (0 < k) && decide (q = 0)) = true then ((k : Nat) : Int) else -1 := by
  unfold bareT at h
  unfold bareI bareF
  rw [h]
  simp only []
  split
  · rename_i h2
    split at h2
    · rename_i h3; cases h2; rw [if_pos h3]
    · cases h2
  · rename_i h2
    split at h2
    · cases h2
    · rename_i h3; rw [if_neg h3]
theorem bareI_none (t : ByteArray) (h : bareT t 0 0 = none) : bareI t = -1 := by
  unfold bareT at h
  unfold bareI bareF
  rw [h]

set_option maxHeartbeats 4000000 in
set_option maxRecDepth 100000 in
theorem bare_calls (t : ByteArray) (w : World) (hs : t.size ≤ 1000000) :
    Calls Tryd.prog 17 #[.string t] w fun e w' => e = .returned (.int .i64 (bareI t)) ∧ Below w.heap.size w w' := by
  go_enter Tryd.func17, Tryd.ntmps17
  go_wp2_with fail
  go_step3
  go_wp2_with fail
  go_step3
  go_wp2_with fail
  go_loopw [3, 4] (fun o i wr => ∃ k q : Nat, k ≤ t.size ∧ q ≤ 32 ∧ o = .int .i64 q ∧ i = .int .i64 k ∧ Hid (bareT t 0 0 = bareT t k q) ∧ Below w.heap.size w wr) (fun _ i _ => t.size - (RowKit.intOf i).toNat)
  case atStart => exact ⟨0, 0, Nat.zero_le _, Nat.zero_le _, rfl, rfl, rfl, Below.refl _ _⟩
  case round =>
    obtain ⟨k, q, hk, hq, rfl, rfl, he, hB⟩ := hrel
    by_cases hlt : k < t.size
    · have hat := Lib.hid (bareT_at t k q hlt)
      have j0 : (0 : Int) ≤ (k : Int) := by omega
      have j1 : (k : Int) < (t.size : Int) := by omega
      have hend := Lib.hid (fun h => bareI_of t k q h)
      have hstp := step_pos t k
      have hstl := step_le t k hlt
      have hsz := fun w => size_calls t k hlt w hs
      have u2 : ((t[k].toNat : Int) == 127) = (t[k] == 127) := u8_eq t[k] 127
      have u3 : ((t[k].toNat : Int) == 41) = (t[k] == 41) := u8_eq t[k] 41
      have u4 : ((t[k].toNat : Int) == 40) = (t[k] == 40) := u8_eq t[k] 40
      have hlow : Hid (t[k].toNat ≤ 32 → (t[k] == 127) = false) := fun h => by
        rw [beq_eq_false_iff_ne]; intro hh; rw [hh] at h; exact absurd h (by decide)
      -- the ways on
      have hgo : Hid (∀ q' : Nat, 32 < t[k].toNat → (t[k] == 127) = false → (t[k] == 41 && decide (q = 0)) = false → (if t[k] = 40 then q + 1 else if t[k] = 41 then q - 1 else q) = q' → bareT t 0 0 = if 32 < q' then none else bareT t (k + stepN t k) q') := by
        intro q' h1 h2 h3 h4
        rw [he.out, hat.out, h4, h2, h3, decide_eq_true h1]; rfl
      have hstop : Hid ((decide (32 < t[k].toNat) && (!(t[k] == 127) && !(t[k] == 41 && decide (q = 0)))) = false → bareT t 0 0 = some (k, q)) := by
        intro h
        rw [he.out, hat.out, if_neg (by rw [h]; decide)]
      generalize stepN t k = d at *
      clear hat
      by_cases h32 : t[k].toNat ≤ 32
      · have s0 := hstop.out (by rw [decide_eq_false (by omega)]; rfl)
        have u1 : decide ((t[k].toNat : Int) ≤ 32) = true := decide_eq_true (by omega)
        have hr := Lib.hid (hend.out s0)
        clear hend hstop hgo hlow s0 u2 u3 u4 h32
        by_cases hk0 : 0 < k
        · by_cases hq0 : q = 0
          · have d1 : ((k : Int) == 0) = false := beq_eq_false_iff_ne.2 (by omega)
            have d2 : decide ((0 : Int) < (q : Int)) = false := decide_eq_false (by omega)
            have hr2 : Hid (bareI t = k) := by show _ = _; rw [hr.out, decide_eq_true hk0, decide_eq_true hq0]; rfl
            go_wp2_with fail
            try rw [Exit.noGoto_ret]
            go_ret
            exact ⟨ret_int (by rw [hr2.out]), hB⟩
          · have d1 : ((k : Int) == 0) = false := beq_eq_false_iff_ne.2 (by omega)
            have d2 : decide ((0 : Int) < (q : Int)) = true := decide_eq_true (by omega)
            have hr2 : Hid (bareI t = -1) := by show _ = _; rw [hr.out, decide_eq_false hq0]; simp
            go_wp2_with fail
            try rw [Exit.noGoto_ret]
            go_ret
            exact ⟨ret_int (by rw [hr2.out]), hB⟩
        · have d1 : ((k : Int) == 0) = true := beq_iff_eq.2 (by omega)
          have hr2 : Hid (bareI t = -1) := by show _ = _; rw [hr.out, decide_eq_false hk0]; rfl
          go_wp2_with fail
          try rw [Exit.noGoto_ret]
          go_ret
          exact ⟨ret_int (by rw [hr2.out]), hB⟩
      · have u1 : decide ((t[k].toNat : Int) ≤ 32) = false := decide_eq_false (by omega)
        have h33 : 32 < t[k].toNat := by omega
        clear h32 hlow
        cases b2 : (t[k] == 127) with
        | true =>
          have s0 := hstop.out (by rw [b2]; simp)
          have hr := Lib.hid (hend.out s0)
          rw [b2] at u2
          clear hend hstop hgo s0 u3 u4
          by_cases hk0 : 0 < k
          · by_cases hq0 : q = 0
            · have d1 : ((k : Int) == 0) = false := beq_eq_false_iff_ne.2 (by omega)
              have d2 : decide ((0 : Int) < (q : Int)) = false := decide_eq_false (by omega)
              have hr2 : Hid (bareI t = k) := by show _ = _; rw [hr.out, decide_eq_true hk0, decide_eq_true hq0]; rfl
              go_wp2_with fail
              try rw [Exit.noGoto_ret]
              go_ret
              exact ⟨ret_int (by rw [hr2.out]), hB⟩
            · have d1 : ((k : Int) == 0) = false := beq_eq_false_iff_ne.2 (by omega)
              have d2 : decide ((0 : Int) < (q : Int)) = true := decide_eq_true (by omega)
              have hr2 : Hid (bareI t = -1) := by show _ = _; rw [hr.out, decide_eq_false hq0]; simp
              go_wp2_with fail
              try rw [Exit.noGoto_ret]
              go_ret
              exact ⟨ret_int (by rw [hr2.out]), hB⟩
          · have d1 : ((k : Int) == 0) = true := beq_iff_eq.2 (by omega)
            have hr2 : Hid (bareI t = -1) := by show _ = _; rw [hr.out, decide_eq_false hk0]; rfl
            go_wp2_with fail
            try rw [Exit.noGoto_ret]
            go_ret
            exact ⟨ret_int (by rw [hr2.out]), hB⟩
        | false =>
          rw [b2] at u2
          cases b3 : (t[k] == 41) with
          | true =>
            rw [b3] at u3
            have b4 : (t[k] == 40) = false := by rw [beq_iff_eq] at b3; rw [b3]; rfl
            rw [b4] at u4
            by_cases hq0 : q = 0
            · have s0 := hstop.out (by rw [b3, decide_eq_true hq0]; simp)
              have hr := Lib.hid (hend.out s0)
              have d3 : ((q : Int) == 0) = true := beq_iff_eq.2 (by omega)
              have d2 : decide ((0 : Int) < (q : Int)) = false := decide_eq_false (by omega)
              clear hend hstop hgo s0
              by_cases hk0 : 0 < k
              · have d1 : ((k : Int) == 0) = false := beq_eq_false_iff_ne.2 (by omega)
                have hr2 : Hid (bareI t = k) := by show _ = _; rw [hr.out, decide_eq_true hk0, decide_eq_true hq0]; rfl
                go_wp2_with fail
                try rw [Exit.noGoto_ret]
                go_ret
                exact ⟨ret_int (by rw [hr2.out]), hB⟩
              · have d1 : ((k : Int) == 0) = true := beq_iff_eq.2 (by omega)
                have hr2 : Hid (bareI t = -1) := by show _ = _; rw [hr.out, decide_eq_false hk0]; rfl
                go_wp2_with fail
                try rw [Exit.noGoto_ret]
                go_ret
                exact ⟨ret_int (by rw [hr2.out]), hB⟩
            · have d3 : ((q : Int) == 0) = false := beq_eq_false_iff_ne.2 (by omega)
              have n41 : t[k] = 41 := by simpa using b3
              have hnx := hgo.out (q - 1) h33 b2 (by rw [decide_eq_false hq0]; simp) (by rw [n41]; rfl)
              have hr : Hid (bareT t 0 0 = bareT t (k + d) (q - 1)) := by show _ = _; rw [hnx, if_neg (by omega)]
              have e1 : IntKind.i64.wrap ((q : Int) - 1) = (q : Int) - 1 := IntWalk.i64_in _ (by omega)
              have d4 : decide ((32 : Int) < (q : Int) - 1) = false := decide_eq_false (by omega)
              clear hend hstop hgo hnx n41
              go_wp2_with fail
              refine (hsz _).mono ?_
              rintro e w1 ⟨rfl, hb⟩
              go_wp2_with fail
              go_round
              case measure => simp [RowKit.intOf] <;> omega
              case rel => exact ⟨k + d, q - 1, by omega, by omega, by congr 1; omega, by go_num, hr, hB.trans (hb.mono hB.size)⟩
          | false =>
            rw [b3] at u3
            cases b4 : (t[k] == 40) with
            | true =>
              rw [b4] at u4
              have n40 : t[k] = 40 := by simpa using b4
              have hnx := hgo.out (q + 1) h33 b2 (by rw [b3]; rfl) (by rw [n40]; rfl)
              have e1 : IntKind.i64.wrap ((q : Int) + 1) = (q : Int) + 1 := IntWalk.i64_in _ (by omega)
              by_cases hq32 : q = 32
              · have hr : Hid (bareI t = -1) := bareI_none t (by rw [hnx, if_pos (by omega)])
                have d4 : decide ((32 : Int) < (q : Int) + 1) = true := decide_eq_true (by omega)
                clear hend hstop hgo hnx n40
                go_wp2_with fail
                try rw [Exit.noGoto_ret]
                go_ret
                exact ⟨ret_int (by rw [hr.out]), hB⟩
              · have hr : Hid (bareT t 0 0 = bareT t (k + d) (q + 1)) := by show _ = _; rw [hnx, if_neg (by omega)]
                have d4 : decide ((32 : Int) < (q : Int) + 1) = false := decide_eq_false (by omega)
                clear hend hstop hgo hnx n40
                go_wp2_with fail
                refine (hsz _).mono ?_
                rintro e w1 ⟨rfl, hb⟩
                go_wp2_with fail
                go_round
                case measure => simp [RowKit.intOf] <;> omega
                case rel => exact ⟨k + d, q + 1, by omega, by omega, by go_num, by go_num, hr, hB.trans (hb.mono hB.size)⟩
            | false =>
              rw [b4] at u4
              have n40 : t[k] ≠ 40 := by simpa using b4
              have n41 : t[k] ≠ 41 := by simpa using b3
              have hnx := hgo.out q h33 b2 (by rw [b3]; rfl) (by rw [if_neg n40, if_neg n41])
              have hr : Hid (bareT t 0 0 = bareT t (k + d) q) := by show _ = _; rw [hnx, if_neg (by omega)]
              have d4 : decide ((32 : Int) < (q : Int)) = false := decide_eq_false (by omega)
              clear hend hstop hgo hnx n40 n41
              go_wp2_with fail
              refine (hsz _).mono ?_
              rintro e w1 ⟨rfl, hb⟩
              go_wp2_with fail
              go_round
              case measure => simp [RowKit.intOf] <;> omega
              case rel => exact ⟨k + d, q, by omega, by omega, rfl, by go_num, hr, hB.trans (hb.mono hB.size)⟩
    · have hr := Lib.hid (bareI_of t k q (by rw [he.out, bareT_end t k q (by omega)]))
      by_cases hk0 : 0 < k
      · by_cases hq0 : q = 0
        · have d1 : ((k : Int) == 0) = false := beq_eq_false_iff_ne.2 (by omega)
          have d2 : decide ((0 : Int) < (q : Int)) = false := decide_eq_false (by omega)
          have hr2 : Hid (bareI t = k) := by show _ = _; rw [hr.out, decide_eq_true hk0, decide_eq_true hq0]; rfl
          go_wp2_with fail
          try rw [Exit.noGoto_ret]
          go_ret
          exact ⟨ret_int (by rw [hr2.out]), hB⟩
        · have d1 : ((k : Int) == 0) = false := beq_eq_false_iff_ne.2 (by omega)
          have d2 : decide ((0 : Int) < (q : Int)) = true := decide_eq_true (by omega)
          have hr2 : Hid (bareI t = -1) := by show _ = _; rw [hr.out, decide_eq_false hq0]; simp
          go_wp2_with fail
          try rw [Exit.noGoto_ret]
          go_ret
          exact ⟨ret_int (by rw [hr2.out]), hB⟩
      · have d1 : ((k : Int) == 0) = true := beq_iff_eq.2 (by omega)
        have hr2 : Hid (bareI t = -1) := by show _ = _; rw [hr.out, decide_eq_false hk0]; rfl
        go_wp2_with fail
        try rw [Exit.noGoto_ret]
        go_ret
        exact ⟨ret_int (by rw [hr2.out]), hB⟩

end Go.Proofs.YtcpbljhogenjoaaDoor
