/- The row of the law FnExactAngleOfSequence. -/
import Derived.Test.YtlplngafncobkacRows
import Derived.Test.YtlplngafncobkacS18
import Derived.Test.YtlplngafncobkacGE
namespace Go.Proofs.Ytlplngafncobkac.fnExactAngleOfSequence
open Go Go.ChangeShapes Go.WideShapes Go.ChangeAt Go.RowKit Go.Proofs.Ytlplngafncobkac.Fw
set_option linter.unusedVariables false
set_option maxRecDepth 100000
theorem own : ownKnob Try.prog.godebug = none := by kernel_rfl
theorem laidOut : laidOutB Try.prog = true := by kernel_rfl
theorem shpS : Shp Try.prog 64 sT := .pair Try.underlying64 rfl rfl (by kernel_rfl) (by kernel_rfl) (by kernel_rfl) (.str Try.underlying9) (.str Try.underlying9)

theorem walk (W : World) (y0 : Sq) (z0 : SzOk sT y0) : Calls Try.prog 14 #[.agg (dens A0 (sT.enc y0)).toArray] W fun e W' => e = .returned (.bool true) ∧ Below W.heap.size W W' := by
  obtain ⟨s0a, s0b⟩ := y0
  obtain ⟨rows, v, ⟨rfl, rfl⟩, hc⟩ := lawAo_ok.calls (fun _ => none) (fun _ => none) 0 [.agg [.str s0a, .str s0b]] (fun rows v => rows = [] ∧ v = .bool true) ⟨z0, rfl, rfl⟩
  refine (hc A0 W (fun i cs h => by cases h) (fun i r hi => by cases hi)).mono fun e W' hp => ?_
  obtain ⟨hs, h1, h2, _⟩ := hp
  exact ⟨by rw [h1]; rfl, h2.toBelow⟩

theorem lifted (os : Os) (started : os.Started) (H : Type) (enc : TypeId × Value → H) :
    ReturnsInHanded {} Try.checked os 14 .any (Rows.fnExactAngleOfSequenceSpec.pre6 enc Try.prog Try.f14 Rows.fnExactAngleOfSequenceRow.domain false) (Rows.fnExactAngleOfSequenceSpec.post enc Try.prog Try.f14 false true false false) := by
  refine returnsInHanded_of_change_sized (C := Try.checked) own started (by kernel_rfl) Try.func14
    (ChangeSpec.witness6 (enc := enc) (C := Try.checked) false ⟨#[], #[.agg #[.string ⟨#[]⟩, .string ⟨#[]⟩]], []⟩ 8 (by kernel_rfl) (by kernel_rfl) (by kernel_rfl) (by kernel_rfl)) ?_
  intro W base args ds gs before hval0 hW hcnd hsz0 _
  have hval : ∀ (j : Nat) t v, Try.f14.params[j]? = some t → args[j]? = some v → Value.okWide Try.prog W .any base t v := hval0
  have hW' := hW
  obtain ⟨p, q, hA0, hV, rfl, hfz, hnd⟩ := hW
  have hA : DataW.TrodAll enc Try.prog W 0 (fun _ => true) true Try.f14.params.toList args.toList ds p := hA0
  rw [Try.params14] at hA hval
  obtain ⟨v0, vs0, d0, ds0, p0, q0, hargs, rfl, rfl, h0, r0⟩ := trodAll_cons hA
  obtain ⟨rfl, rfl, rfl⟩ := trodAll_nil r0
  obtain rfl : args = #[v0] := by cases args; simp_all
  obtain ⟨rfl, rfl⟩ := trodVars_none hV
  obtain ⟨cs0, rfl, _⟩ := okWide_struct Try.underlying64 (hval 0 64 v0 rfl rfl)
  have k0 := h0
  have lt0 : ∀ x ∈ p0, x.block < W.heap.size := by obtain ⟨m, hm⟩ := k0; exact DataW.trod_lt m _ _ _ hm
  obtain ⟨y0, hy0, z0⟩ : ∃ y : Sq, cs0 = (dens A0 (TyC.enc sT y)).toArray ∧ SzOk sT y := by
    obtain ⟨fuel, hf⟩ := h0
    obtain ⟨y, hy, hz⟩ := trod_encS shpS hf
    exact ⟨y, by rw [← hy]; simp [Value.cells], hz⟩
  clear hA0 hval0 hsz0
  have hwalk := walk W y0 z0
  rw [← hy0] at hwalk
  refine hwalk.mono fun e W' ⟨he, bel⟩ => ?_
  subst he
  exact ⟨_, rfl, _, _, _, [], _, [], hW', trodAll_mk1 (shut_bool Try.underlying4 _), (trodAll_cons_mk (Below.trod laidOut (by kernel_rfl) (of_decide_eq_true (by kernel_rfl)) k0 bel lt0) trodAll_mk0), rfl, bel.frame _, fun h => by cases h⟩
theorem over : Rows.fnExactAngleOfSequenceRow.holds Try.pinned (OpenSpec.ofChange Rows.fnExactAngleOfSequenceSpec) :=
  OpenClaim.holds_of_wide 14 Try.f14 rfl rfl rfl rfl rfl rfl rfl ⟨rfl, rfl, rfl, rfl, rfl⟩ rfl rfl rfl rfl rfl (by kernel_rfl) Try.func14 (by kernel_rfl)
    (of_decide_eq_true (by kernel_rfl)) (by unfold Func.isWrapper; first | (rw [if_pos (by decide +kernel)]; kernel_rfl) | (rw [if_neg (by decide +kernel)]; exact ⟨rfl, rfl⟩))
    (fun os started H enc _ => lifted os started H enc)
theorem proved : Rows.FnExactAngleOfSequenceSaid := over
#print axioms proved
end Go.Proofs.Ytlplngafncobkac.fnExactAngleOfSequence
namespace Go.Proofs.Ytlplngafncobkac
/-- The row, under a short name, for the claim. -/
theorem fnExactAngleOfSequence_holds : Rows.FnExactAngleOfSequenceSaid := fnExactAngleOfSequence.proved
end Go.Proofs.Ytlplngafncobkac
