/- LinkWritten: what is written with backslashes is read as it is written. Conditions: the two tables of unicode/utf8 lie as the program's text lays them (the card ties them). -/
import Derived.Test.YtcpbljhogenjoaaDoorLinkWrittenW
import Derived.Test.YtcpbljhogenjoaaDoorCards
import Derived.Test.YtcpbljhogenjoaaDoorTie
import Derived.ProofKit
import Derived.PinnedBridge
import Derived.Lib.LaidU8
import Derived.Lay
import Derived.LaidOnce
import Derived.SevenTiedAt
import Derived.RowKit3
import Derived.ShutString
namespace Go.Proofs.YtcpbljhogenjoaaDoor
set_option linter.unusedVariables false
set_option linter.unusedSimpArgs false
open Go.ChangeShapes Go.WideShapes Go.ChangeAt Go.RowKit Go.Lib
open Go.ChangeMaps (open_string shut_string)

theorem own : ownKnob Tryd.prog.godebug = none := by kernel_rfl

theorem xU : U8Extra Tryd.prog Tryd.lays260_ren := by
  constructor <;> kernel_rfl

theorem tabs_of (W : World) (hL : laidMet Tryd.prog Rows.linkWrittenRow.laid W) : Tabs W := by
  refine utf8Tabs_of_reads Tryd.lays260 xU ?_ ?_
  · have := Lib.laidMet.reads hL (n := "unicode/utf8.first") (d := Rows.laid_unicode_utf8_first) (by simp [Rows.linkWrittenRow])
    exact Pinned.utf8First_eq ▸ this
  · have := Lib.laidMet.reads hL (n := "unicode/utf8.acceptRanges") (d := Rows.laid_unicode_utf8_acceptRanges) (by simp [Rows.linkWrittenRow])
    exact this

theorem trod_iface_data {P : Program} {w : World} {base : Nat} {sp : Nat → Bool} {fuel : Nat} {t : TypeId} {ms : Array (String × TypeId)} {cs : List Value} {n : String} {x : DataW Unit} {p : List MemPlace} (ht : P.underlying t = some (.interface ms))
    (h : DataW.trod (fun _ => ()) P w base sp false fuel t cs = some (.iface n x, p)) : ∃ u v, cs = [.iface u v] := by
  cases fuel with
  | zero => simp [DataW.trod] at h
  | succ fuel =>
    simp only [DataW.trod, ht] at h
    cases cs with
    | nil => simp at h
    | cons c r =>
      cases r with
      | cons _ _ => cases c <;> simp at h
      | nil =>
        cases c <;> first
          | exact ⟨_, _, rfl⟩
          | (simp at h; done)

theorem errs_of (W : World) (hL : laidMet Tryd.prog Rows.linkWrittenRow.laid W) : ErrS W ∧ 3 < W.heap.size := by
  obtain ⟨g, t, cs, fuel, p, hg, ht, hv, hr⟩ := Lib.laidMet.reads hL (n := "strconv.ErrSyntax") (d := Rows.laid_strconv_ErrSyntax) (by simp [Rows.linkWrittenRow])
  have hg2 : Tryd.prog.globalNamed "strconv.ErrSyntax" = some 3 := by kernel_rfl
  obtain rfl : 3 = g := Option.some.inj (hg2.symm.trans hg)
  have ht2 : (Tryd.prog.globals[3]?).map (·.type) = some 42 := by kernel_rfl
  obtain rfl : 42 = t := Option.some.inj (ht2.symm.trans ht)
  obtain ⟨u, v, hc⟩ := trod_iface_data Tryd.underlying42 hr
  obtain rfl : cs = #[.iface u v] := by
    obtain ⟨l⟩ := cs
    simp only at hc
    rw [hc]
  have h0 := World.var?_cell hg2 hv 0
  have h1 : W.cell? ⟨3, 0, none⟩ = some (.iface u v) := by simpa using h0
  refine ⟨⟨_, h1, Or.inr ⟨u, v, rfl⟩⟩, ?_⟩
  by_cases hh : 3 < W.heap.size
  · exact hh
  · simp [World.cell?, Array.getElem?_eq_none (Nat.le_of_not_lt hh)] at h1

theorem env_of (W : World) (hL : laidMet Tryd.prog Rows.linkWrittenRow.laid W) : EnvE W := ⟨tabs_of W hL, errs_of W hL⟩

set_option maxRecDepth 100000 in
theorem lifted (os : Os) (started : os.Started) (H : Type) (enc : TypeId × Value → H) :
    ReturnsInHanded {} Tryd.checked os 4 .any (fun w args => (Rows.linkWrittenSpec.pre enc Tryd.prog Tryd.f4 [] false w args ∧ laidMetH Tryd.prog Rows.linkWrittenRow.laid w) ∧ sizedMet enc Tryd.prog Tryd.f4 (OpenSpec.ofChange Rows.linkWrittenSpec) false w args)
      (Rows.linkWrittenSpec.post enc Tryd.prog Tryd.f4 false true false false) := by
  refine returnsInHanded_of_change_and (C := Tryd.checked) (X := fun w _ => laidMetH Tryd.prog Rows.linkWrittenRow.laid w) (fun _ _ _ hh h => h.of_heap hh) own started (by kernel_rfl) Tryd.func4
    (ChangeSpec.witness_shaped (enc := enc) (C := Tryd.checked) (os := os) (X := fun w _ => laidMetH Tryd.prog Rows.linkWrittenRow.laid w) false (World.laidAll Tryd.prog os Rows.linkWrittenRow.laid) #[.string ⟨#[]⟩, .string ⟨#[]⟩] 8 (World.laidAll_os _ _ _)
      (World.shaped_of_ZipB (by kernel_rfl) (by kernel_rfl)) (by kernel_rfl) (by kernel_rfl) (by kernel_rfl)
      (by rw [MakeChecks.laidMetH_plain _ _ _ (by kernel_rfl)]; exact laidMet_laidAll _ (by kernel_rfl) (by kernel_rfl))) ?_
  intro W base args ds gs before hval0 hW _ _ hL _
  have hval : ∀ (j : Nat) t v, Tryd.f4.params[j]? = some t → args[j]? = some v → Value.okWide Tryd.prog W .any base t v := hval0
  have hW' := hW
  obtain ⟨p, q, hA0, hV, rfl, _, _⟩ := hW
  have hA : DataW.TrodAll enc Tryd.prog W 0 (fun _ => true) true Tryd.f4.params.toList args.toList ds p := hA0
  rw [Tryd.params4] at hA hval
  obtain ⟨v0, vs0, d0, ds0, p0, q0, hargs, rfl, rfl, h0, r0⟩ := trodAll_cons hA
  obtain ⟨v1, vs1, d1, ds1, p1, q1, rfl, rfl, rfl, h1, r1⟩ := trodAll_cons r0
  obtain ⟨rfl, rfl, rfl⟩ := trodAll_nil r1
  obtain rfl : args = #[v0, v1] := by cases args; simp_all
  obtain ⟨rfl, rfl⟩ := trodVars_none hV
  obtain ⟨a0, rfl, rfl, rfl, w0⟩ := open_string Tryd.underlying9 (hval 0 9 v0 rfl rfl) h0
  obtain ⟨a1, rfl, rfl, rfl, w1⟩ := open_string Tryd.underlying9 (hval 1 9 v1 rfl rfl) h1
  simp only [List.append_nil] at hW'
  rw [MakeChecks.laidMetH_plain _ _ _ (by kernel_rfl)] at hL
  refine (LinkWritten_walk a0 a1  W (env_of W hL)).mono fun e W' ⟨he, hb⟩ => ?_
  subst he
  exact ⟨_, rfl, _, _, _, [], [], [], hW', trodAll_mk1 (shut_bool Tryd.underlying4 _), (trodAll_cons_mk (shut_string Tryd.underlying9 w0) (trodAll_cons_mk (shut_string Tryd.underlying9 w1) trodAll_mk0)), rfl, hb.frame _, fun h => by cases h⟩

theorem holds : Rows.LinkWrittenSaid :=
  OpenClaim.holds_of_wide 4 Tryd.f4 rfl rfl rfl rfl rfl rfl rfl ⟨rfl, rfl, rfl, rfl, rfl⟩ rfl rfl rfl rfl rfl (by kernel_rfl) Tryd.func4 (by kernel_rfl)
    (of_decide_eq_true (by kernel_rfl)) (by unfold Func.isWrapper; first | (rw [if_pos (by decide +kernel)]; kernel_rfl) | (rw [if_neg (by decide +kernel)]; exact ⟨rfl, rfl⟩))
    (fun os started H enc _ => lifted os started H enc)

theorem LinkWritten_card : Rows.LinkWrittenCardSaid :=
  Claim7.holds_tied_plain_at .later [] _ true Rows.linkWrittenCard.stood.harness Rows.linkWrittenCard.stood.looks holds (fun _ h => by cases h) (by kernel_rfl) (fun _ h => by cases h) linkWritten_row_tie rfl ⟨rfl, rfl⟩ (by kernel_rfl) rfl
    (fun f fn hf hfn => by
      obtain rfl : f = 4 := Option.some.inj ((show Tryd.prog.funcNamed "stet/stetlaw08.LinkWritten" = some 4 by kernel_rfl).symm.trans hf) |>.symm
      obtain rfl : fn = Tryd.f4 := (Option.some.inj (Tryd.func4.symm.trans hfn)).symm
      exact ⟨by kernel_rfl, fun j t ht => by
        rw [Tryd.params4] at ht
        have hm : t ∈ [9, 9] := by simpa using Array.mem_of_getElem? ht
        have hall : ([9, 9].all fun u => !Tryd.prog.wantsStandIn u) = true := by kernel_rfl
        exact (show Tryd.prog.wantsStandIn t = false by simpa using List.all_eq_true.1 hall t hm)⟩)
    (by kernel_rfl)
#print axioms LinkWritten_card
end Go.Proofs.YtcpbljhogenjoaaDoor
