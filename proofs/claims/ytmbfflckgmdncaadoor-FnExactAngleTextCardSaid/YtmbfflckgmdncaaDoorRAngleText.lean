/- The law FnExactAngleText (the text of an angle) holds at every angle, where the table of powers of ten reads as the program's text lays it; that reading is tied to the text by the card. -/
import Derived.Test.YtmbfflckgmdncaaDoorRows
import Derived.Test.YtmbfflckgmdncaaDoorDD
import Derived.Test.YtmbfflckgmdncaaDoorGE
import Derived.Test.YtmbfflckgmdncaaDoorCards
import Derived.Test.YtmbfflckgmdncaaDoorTie
import Derived.LaidMore
import Derived.Stop.LaidErr
import Derived.Lib.LaidTab
namespace Go.Proofs.YtmbfflckgmdncaaDoor.fnExactAngleText
open Go Go.ChangeShapes Go.WideShapes Go.ChangeAt Go.RowKit Go.Proofs.YtmbfflckgmdncaaDoor.Fw
set_option linter.unusedVariables false
set_option maxRecDepth 100000
theorem own : ownKnob Tryd.prog.godebug = none := by kernel_rfl
theorem laidOut : laidOutB Tryd.prog = true := by kernel_rfl
theorem shpA : Shp Tryd.prog 23 aT := .pair Tryd.underlying23 rfl rfl (by kernel_rfl) (by kernel_rfl) (by kernel_rfl) (.int Tryd.underlying2) (.int Tryd.underlying2)

theorem walk (W : World) (y0 : Ang) (ht : TabW W) : Calls Tryd.prog 3 #[.agg (dens A0 (aT.enc y0)).toArray] W fun e W' => e = .returned (.bool true) ∧ Below W.heap.size W W' := lawAt_in y0 W ht

abbrev lst : List (String × DataW Unit) := Rows.fnExactAngleTextRow.laid
theorem plain : (lst.all fun x => x.2.handleName?.isNone) = true := by kernel_rfl
/-- The heap that the door's run leaves meets the condition. -/
theorem door_met (os : Os) (args : Array Value) : laidMetH Tryd.prog lst ((World.doorLaid Tryd.prog 400 os).forCall (fun _ _ => 0) ⟨#[], args, []⟩).memory :=
  laidMetH_of_parts3 (fuel := 8) (laidMet_of_run' 8 (by kernel_rfl) (by kernel_rfl)) (by kernel_rfl) (by kernel_rfl)
/-- What the condition says of the table. -/
theorem tab_of {W : World} (h : laidMetH Tryd.prog lst W) : TabW W := by
  rw [MakeChecks.laidMetH_plain _ _ _ plain] at h
  exact Lib.tabIs_of_head (g := (Tryd.prog.globalNamed "internal/strconv.uint64pow10").getD 0) (by kernel_rfl) (by kernel_rfl) Tryd.underlying83 Tryd.underlying62 (by kernel_rfl) (by kernel_rfl) (laidMet.tail (laidMet.tail h))

theorem lifted (os : Os) (started : os.Started) (H : Type) (enc : TypeId × Value → H) :
    ReturnsInHanded {} Tryd.checked os 3 .any (fun w args => (Rows.fnExactAngleTextSpec.pre enc Tryd.prog Tryd.f3 [] false w args ∧ laidMetH Tryd.prog lst w) ∧ sizedMet enc Tryd.prog Tryd.f3 (OpenSpec.ofChange Rows.fnExactAngleTextSpec) false w args)
      (Rows.fnExactAngleTextSpec.post enc Tryd.prog Tryd.f3 false true false false) := by
  refine returnsInHanded_of_change_and (C := Tryd.checked) (X := fun w _ => laidMetH Tryd.prog lst w) (fun _ _ _ hh h => h.of_heap hh) own started (by kernel_rfl) Tryd.func3
    (ChangeSpec.witness_shaped (enc := enc) (C := Tryd.checked) (os := os) (X := fun w _ => laidMetH Tryd.prog lst w) false (World.doorLaid Tryd.prog 400 os) #[.agg #[.int .i64 0, .int .i64 0]] 8 rfl (World.shaped_of_RefB (by kernel_rfl) (by kernel_rfl)) (by kernel_rfl) (by kernel_rfl) (by kernel_rfl) (door_met os _)) ?_
  intro W base args ds gs before hval0 hW hcnd hsz0 hL _
  have hval : ∀ (j : Nat) t v, Tryd.f3.params[j]? = some t → args[j]? = some v → Value.okWide Tryd.prog W .any base t v := hval0
  have hW' := hW
  obtain ⟨p, q, hA0, hV, rfl, hfz, hnd⟩ := hW
  have hA : DataW.TrodAll enc Tryd.prog W 0 (fun _ => true) true Tryd.f3.params.toList args.toList ds p := hA0
  rw [Tryd.params3] at hA hval
  obtain ⟨v0, vs0, d0, ds0, p0, q0, hargs, rfl, rfl, h0, r0⟩ := trodAll_cons hA
  obtain ⟨rfl, rfl, rfl⟩ := trodAll_nil r0
  obtain rfl : args = #[v0] := by cases args; simp_all
  obtain ⟨rfl, rfl⟩ := trodVars_none hV
  obtain ⟨cs0, rfl, _⟩ := okWide_struct Tryd.underlying23 (hval 0 23 v0 rfl rfl)
  have k0 := h0
  have lt0 : ∀ x ∈ p0, x.block < W.heap.size := by obtain ⟨m, hm⟩ := k0; exact DataW.trod_lt m _ _ _ hm
  obtain ⟨y0, hy0⟩ : ∃ y : Ang, cs0 = (dens A0 (aT.enc y)).toArray := by
    obtain ⟨fuel, hf⟩ := h0
    obtain ⟨y, hy⟩ := trod_enc shpA hf
    exact ⟨y, by rw [← hy]; simp [Value.cells]⟩
  clear hA0 hval0 hsz0
  have hwalk := walk W y0 (tab_of hL)
  rw [← hy0] at hwalk
  refine hwalk.mono fun e W' ⟨he, bel⟩ => ?_
  subst he
  exact ⟨_, rfl, _, _, _, [], _, [], hW', trodAll_mk1 (shut_bool Tryd.underlying4 _), (trodAll_cons_mk (Below.trod laidOut (by kernel_rfl) (of_decide_eq_true (by kernel_rfl)) k0 bel lt0) trodAll_mk0), rfl, bel.frame _, fun h => by cases h⟩
theorem over : Rows.fnExactAngleTextRow.holds Tryd.pinned (OpenSpec.ofChange Rows.fnExactAngleTextSpec) :=
  OpenClaim.holds_of_wide 3 Tryd.f3 rfl rfl rfl rfl rfl rfl rfl ⟨rfl, rfl, rfl, rfl, rfl⟩ rfl rfl rfl rfl rfl (by kernel_rfl) Tryd.func3 (by kernel_rfl)
    (of_decide_eq_true (by kernel_rfl)) (by unfold Func.isWrapper; first | (rw [if_pos (by decide +kernel)]; kernel_rfl) | (rw [if_neg (by decide +kernel)]; exact ⟨rfl, rfl⟩))
    (fun os started H enc _ => lifted os started H enc)
/-- The card: what the row lists is what the program's text lays. -/
theorem card : Rows.FnExactAngleTextCardSaid :=
  Claim7.holds_tied_plain_at .later [] [.data, .data, .data] true (true, "6811f78fb413ac913022c65a80d83294cbfd99838618ef663342086cbd64a8a5") true
    over (fun _ h => by cases h) (by kernel_rfl) (fun _ h => by cases h) fnExactAngleText_row_tie rfl ⟨rfl, rfl⟩ (by kernel_rfl) rfl
    (fun f fn hf hfn => by
      obtain rfl : f = 3 := Option.some.inj ((show Tryd.prog.funcNamed "loop.example/g01234/laws.FnExactAngleText" = some 3 by kernel_rfl).symm.trans hf) |>.symm
      obtain rfl : fn = Tryd.f3 := (Option.some.inj (Tryd.func3.symm.trans hfn)).symm
      exact ⟨by kernel_rfl, fun j t ht => by
        rw [Tryd.params3] at ht
        have h3 : t = 23 := by
          rcases j with _ | j
          · simpa using ht.symm
          · simp at ht
        subst h3
        exact (show Tryd.prog.wantsStandIn 23 = false by kernel_rfl)⟩)
    (by kernel_rfl)
end Go.Proofs.YtmbfflckgmdncaaDoor.fnExactAngleText
namespace Go.Proofs.YtmbfflckgmdncaaDoor
/-- The card, under a short name, for the claim. -/
theorem fnExactAngleText_holds : Rows.FnExactAngleTextCardSaid := fnExactAngleText.card
#print axioms fnExactAngleText_holds
end Go.Proofs.YtmbfflckgmdncaaDoor
