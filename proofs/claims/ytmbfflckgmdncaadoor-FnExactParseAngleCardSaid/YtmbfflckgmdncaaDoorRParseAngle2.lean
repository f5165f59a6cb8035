/- The law FnExactParseAngle (reading an angle) holds at every text, where the listed variables (the table of powers of ten, the two errors) read as the program's text lays them; that reading is tied to the text by the card. -/
import Derived.Test.YtmbfflckgmdncaaDoorRows
import Derived.Test.YtmbfflckgmdncaaDoorDK
import Derived.Test.YtmbfflckgmdncaaDoorGE
import Derived.Test.YtmbfflckgmdncaaDoorCards
import Derived.Test.YtmbfflckgmdncaaDoorTie
import Derived.LaidMore
import Derived.Stop.LaidErr
import Derived.Lib.LaidTab
namespace Go.Proofs.YtmbfflckgmdncaaDoor.fnExactParseAngle
open Go Go.ChangeShapes Go.WideShapes Go.ChangeAt Go.RowKit Go.Proofs.YtmbfflckgmdncaaDoor.Fw
set_option linter.unusedVariables false
set_option maxRecDepth 100000
theorem own : ownKnob Tryd.prog.godebug = none := by kernel_rfl
theorem laidOut : laidOutB Tryd.prog = true := by kernel_rfl


theorem walk (W : World) (y0 : ByteArray) (z0 : y0.size ≤ maxLen) (ht : TabW W) (he : ErrW W) : Calls Tryd.prog 4 #[.string y0] W fun e W' => e = .returned (.bool true) ∧ Below W.heap.size W W' :=
  lawPa_in y0 (Nat.le_trans z0 (by decide)) W ht he

abbrev lst : List (String × DataW Unit) := Rows.fnExactParseAngleRow.laid
theorem plain : (lst.all fun x => x.2.handleName?.isNone) = true := by kernel_rfl
/-- The heap that the door's run leaves meets the condition. -/
theorem door_met (os : Os) (args : Array Value) : laidMetH Tryd.prog lst ((World.doorLaid Tryd.prog 400 os).forCall (fun _ _ => 0) ⟨#[], args, []⟩).memory :=
  laidMetH_of_parts3 (fuel := 8) (laidMet_of_run' 8 (by kernel_rfl) (by kernel_rfl)) (by kernel_rfl) (by kernel_rfl)
theorem rowE (u : TypeId) (h : Tryd.prog.typeName? 3 u = some "*errors.errorString") : u = 88 :=
  typeName_ptr_named (nm := "errors.errorString") (by kernel_rfl) (by kernel_rfl) (by decide) u h
/-- What the condition says of the table and the errors. -/
theorem of_laid {W : World} (h : laidMetH Tryd.prog lst W) : TabW W ∧ ErrW W := by
  rw [MakeChecks.laidMetH_plain _ _ _ plain] at h
  have h2 := laidMet.tail (laidMet.tail h)
  have h3 := laidMet.tail h2
  have h4 := laidMet.tail h3
  obtain ⟨a1, s1, hv1, _⟩ := laid_sentinel (g := (Tryd.prog.globalNamed "strconv.ErrRange").getD 0) h3 (by kernel_rfl) (by kernel_rfl) Tryd.underlying50 rowE Tryd.underlying88 Tryd.underlying90 rfl rfl Tryd.underlying9 (by kernel_rfl) (by kernel_rfl)
  obtain ⟨a2, s2, hv2, _⟩ := laid_sentinel (g := (Tryd.prog.globalNamed "strconv.ErrSyntax").getD 0) h4 (by kernel_rfl) (by kernel_rfl) Tryd.underlying50 rowE Tryd.underlying88 Tryd.underlying90 rfl rfl Tryd.underlying9 (by kernel_rfl) (by kernel_rfl)
  have c1 := World.var?_cell (g := Tryd.pintL_ren.g 16) (by kernel_rfl) hv1 0
  have c2 := World.var?_cell (g := Tryd.pintL_ren.g 15) (by kernel_rfl) hv2 0
  refine ⟨Lib.tabIs_of_head (g := (Tryd.prog.globalNamed "internal/strconv.uint64pow10").getD 0) (by kernel_rfl) (by kernel_rfl) Tryd.underlying83 Tryd.underlying62 (by kernel_rfl) (by kernel_rfl) h2, ⟨_, c2, .inr ⟨_, _, rfl⟩⟩, ⟨_, c1, .inr ⟨_, _, rfl⟩⟩⟩

theorem lifted (os : Os) (started : os.Started) (H : Type) (enc : TypeId × Value → H) :
    ReturnsInHanded {} Tryd.checked os 4 .any (fun w args => (Rows.fnExactParseAngleSpec.pre enc Tryd.prog Tryd.f4 [] false w args ∧ laidMetH Tryd.prog lst w) ∧ sizedMet enc Tryd.prog Tryd.f4 (OpenSpec.ofChange Rows.fnExactParseAngleSpec) false w args)
      (Rows.fnExactParseAngleSpec.post enc Tryd.prog Tryd.f4 false true false false) := by
  refine returnsInHanded_of_change_and (C := Tryd.checked) (X := fun w _ => laidMetH Tryd.prog lst w) (fun _ _ _ hh h => h.of_heap hh) own started (by kernel_rfl) Tryd.func4
    (ChangeSpec.witness_shaped (enc := enc) (C := Tryd.checked) (os := os) (X := fun w _ => laidMetH Tryd.prog lst w) false (World.doorLaid Tryd.prog 400 os) #[.string ⟨#[]⟩] 8 rfl (World.shaped_of_RefB (by kernel_rfl) (by kernel_rfl)) (by kernel_rfl) (by kernel_rfl) (by kernel_rfl) (door_met os _)) ?_
  intro W base args ds gs before hval0 hW hcnd hsz0 hL _
  have hval : ∀ (j : Nat) t v, Tryd.f4.params[j]? = some t → args[j]? = some v → Value.okWide Tryd.prog W .any base t v := hval0
  have hW' := hW
  obtain ⟨p, q, hA0, hV, rfl, hfz, hnd⟩ := hW
  have hA : DataW.TrodAll enc Tryd.prog W 0 (fun _ => true) true Tryd.f4.params.toList args.toList ds p := hA0
  rw [Tryd.params4] at hA hval
  obtain ⟨v0, vs0, d0, ds0, p0, q0, hargs, rfl, rfl, h0, r0⟩ := trodAll_cons hA
  obtain ⟨rfl, rfl, rfl⟩ := trodAll_nil r0
  obtain rfl : args = #[v0] := by cases args; simp_all
  obtain ⟨rfl, rfl⟩ := trodVars_none hV
  have k0 := h0
  have lt0 : ∀ x ∈ p0, x.block < W.heap.size := by obtain ⟨m, hm⟩ := k0; exact DataW.trod_lt m _ _ _ hm
  obtain ⟨y0, rfl⟩ := okWide_string Tryd.underlying9 (hval 0 9 v0 rfl rfl)
  have z0 : y0.size ≤ maxLen := by
    obtain ⟨fuel, hf⟩ := h0
    obtain ⟨s', h, _, hs⟩ := DataW.trod_string Tryd.underlying9 hf
    simp [Value.cells] at h
    subst h
    exact hs
  clear hA0 hval0 hsz0
  have hwalk := walk W y0 z0 (of_laid hL).1 (of_laid hL).2
  refine hwalk.mono fun e W' ⟨he, bel⟩ => ?_
  subst he
  exact ⟨_, rfl, _, _, _, [], _, [], hW', trodAll_mk1 (shut_bool Tryd.underlying4 _), (trodAll_cons_mk (Below.trod laidOut (by kernel_rfl) (of_decide_eq_true (by kernel_rfl)) k0 bel lt0) trodAll_mk0), rfl, bel.frame _, fun h => by cases h⟩
theorem over : Rows.fnExactParseAngleRow.holds Tryd.pinned (OpenSpec.ofChange Rows.fnExactParseAngleSpec) :=
  OpenClaim.holds_of_wide 4 Tryd.f4 rfl rfl rfl rfl rfl rfl rfl ⟨rfl, rfl, rfl, rfl, rfl⟩ rfl rfl rfl rfl rfl (by kernel_rfl) Tryd.func4 (by kernel_rfl)
    (of_decide_eq_true (by kernel_rfl)) (by unfold Func.isWrapper; first | (rw [if_pos (by decide +kernel)]; kernel_rfl) | (rw [if_neg (by decide +kernel)]; exact ⟨rfl, rfl⟩))
    (fun os started H enc _ => lifted os started H enc)
/-- The card: what the row lists is what the program's text lays. -/
theorem card : Rows.FnExactParseAngleCardSaid :=
  Claim7.holds_tied_plain_at .later [] [.data, .data, .data, .sentinel, .sentinel] true (true, "6811f78fb413ac913022c65a80d83294cbfd99838618ef663342086cbd64a8a5") true
    over (fun _ h => by cases h) (by kernel_rfl) (fun _ h => by cases h) fnExactParseAngle_row_tie rfl ⟨rfl, rfl⟩ (by kernel_rfl) rfl
    (fun f fn hf hfn => by
      obtain rfl : f = 4 := Option.some.inj ((show Tryd.prog.funcNamed "loop.example/g01234/laws.FnExactParseAngle" = some 4 by kernel_rfl).symm.trans hf) |>.symm
      obtain rfl : fn = Tryd.f4 := (Option.some.inj (Tryd.func4.symm.trans hfn)).symm
      exact ⟨by kernel_rfl, fun j t ht => by
        rw [Tryd.params4] at ht
        have h3 : t = 9 := by
          rcases j with _ | j
          · simpa using ht.symm
          · simp at ht
        subst h3
        exact (show Tryd.prog.wantsStandIn 9 = false by kernel_rfl)⟩)
    (by kernel_rfl)
end Go.Proofs.YtmbfflckgmdncaaDoor.fnExactParseAngle
namespace Go.Proofs.YtmbfflckgmdncaaDoor
/-- The card, under a short name, for the claim. -/
theorem fnExactParseAngle_holds : Rows.FnExactParseAngleCardSaid := fnExactParseAngle.card
#print axioms fnExactParseAngle_holds
end Go.Proofs.YtmbfflckgmdncaaDoor
