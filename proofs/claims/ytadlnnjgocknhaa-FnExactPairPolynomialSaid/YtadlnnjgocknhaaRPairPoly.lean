/- The row of the law FnExactPairPolynomial. -/
import Derived.Test.YtadlnnjgocknhaaRows
import Derived.Test.YtadlnnjgocknhaaW4
import Derived.Test.YtadlnnjgocknhaaGE
namespace Go.Proofs.Ytadlnnjgocknhaa.fnExactPairPolynomial
open Go Go.ChangeShapes Go.WideShapes Go.ChangeAt Go.RowKit Go.Proofs.Ytadlnnjgocknhaa.Fw
set_option linter.unusedVariables false
set_option maxRecDepth 100000
theorem own : ownKnob Try.prog.godebug = none := by kernel_rfl
theorem laidOut : laidOutB Try.prog = true := by kernel_rfl
theorem shpA : Shp Try.prog 23 aT := .pair Try.underlying23 rfl rfl (by kernel_rfl) (by kernel_rfl) (by kernel_rfl) (.int Try.underlying2) (.int Try.underlying2)

theorem walk (W : World) (y0 : Ang) : Calls Try.prog 4 #[.agg (dens A0 (aT.enc y0)).toArray] W fun e W' => e = .returned (.bool true) ∧ Below W.heap.size W W' := by
  obtain ⟨a0, b0⟩ := y0
  obtain ⟨rows, v, ⟨rfl, rfl⟩, hc⟩ := lawPP_ok.calls (fun _ => none) (fun _ => none) 0 [.agg [.int .i64 a0, .int .i64 b0]] (fun rows v => rows = [] ∧ v = .bool true) ⟨trivial, rfl, rfl⟩
  refine (hc A0 W (fun i cs h => by cases h) (fun i r hi => by cases hi)).mono fun e W' hp => ?_
  obtain ⟨hs, h1, h2, _⟩ := hp
  exact ⟨by rw [h1]; rfl, h2.toBelow⟩

theorem lifted (os : Os) (started : os.Started) (H : Type) (enc : TypeId × Value → H) :
    ReturnsInHanded {} Try.checked os 4 .any (Rows.fnExactPairPolynomialSpec.pre6 enc Try.prog Try.f4 Rows.fnExactPairPolynomialRow.domain false) (Rows.fnExactPairPolynomialSpec.post enc Try.prog Try.f4 false true false false) := by
  refine returnsInHanded_of_change_sized (C := Try.checked) own started (by kernel_rfl) Try.func4
    (ChangeSpec.witness6 (enc := enc) (C := Try.checked) false ⟨#[], #[.agg #[.int .i64 0, .int .i64 0]], []⟩ 8 (by kernel_rfl) (by kernel_rfl) (by kernel_rfl) (by kernel_rfl)) ?_
  intro W base args ds gs before hval0 hW hcnd hsz0 _
  have hval : ∀ (j : Nat) t v, Try.f4.params[j]? = some t → args[j]? = some v → Value.okWide Try.prog W .any base t v := hval0
  have hW' := hW
  obtain ⟨p, q, hA0, hV, rfl, hfz, hnd⟩ := hW
  have hA : DataW.TrodAll enc Try.prog W 0 (fun _ => true) true Try.f4.params.toList args.toList ds p := hA0
  rw [Try.params4] at hA hval
  obtain ⟨v0, vs0, d0, ds0, p0, q0, hargs, rfl, rfl, h0, r0⟩ := trodAll_cons hA
  obtain ⟨rfl, rfl, rfl⟩ := trodAll_nil r0
  obtain rfl : args = #[v0] := by cases args; simp_all
  obtain ⟨rfl, rfl⟩ := trodVars_none hV
  obtain ⟨cs0, rfl, _⟩ := okWide_struct Try.underlying23 (hval 0 23 v0 rfl rfl)
  have k0 := h0
  have lt0 : ∀ x ∈ p0, x.block < W.heap.size := by obtain ⟨m, hm⟩ := k0; exact DataW.trod_lt m _ _ _ hm
  obtain ⟨y0, hy0⟩ : ∃ y : Ang, cs0 = (dens A0 (aT.enc y)).toArray := by
    obtain ⟨fuel, hf⟩ := h0
    obtain ⟨y, hy⟩ := trod_enc shpA hf
    exact ⟨y, by rw [← hy]; simp [Value.cells]⟩
  clear hA0 hval0 hsz0
  have hwalk := walk W y0
  rw [← hy0] at hwalk
  refine hwalk.mono fun e W' ⟨he, bel⟩ => ?_
  subst he
  exact ⟨_, rfl, _, _, _, [], _, [], hW', trodAll_mk1 (shut_bool Try.underlying4 _), (trodAll_cons_mk (Below.trod laidOut (by kernel_rfl) (of_decide_eq_true (by kernel_rfl)) k0 bel lt0) trodAll_mk0), rfl, bel.frame _, fun h => by cases h⟩
theorem over : Rows.fnExactPairPolynomialRow.holds Try.pinned (OpenSpec.ofChange Rows.fnExactPairPolynomialSpec) :=
  OpenClaim.holds_of_wide 4 Try.f4 rfl rfl rfl rfl rfl rfl rfl ⟨rfl, rfl, rfl, rfl, rfl⟩ rfl rfl rfl rfl rfl (by kernel_rfl) Try.func4 (by kernel_rfl)
    (of_decide_eq_true (by kernel_rfl)) (by unfold Func.isWrapper; first | (rw [if_pos (by decide +kernel)]; kernel_rfl) | (rw [if_neg (by decide +kernel)]; exact ⟨rfl, rfl⟩))
    (fun os started H enc _ => lifted os started H enc)
theorem proved : Rows.FnExactPairPolynomialSaid := over
#print axioms proved
end Go.Proofs.Ytadlnnjgocknhaa.fnExactPairPolynomial
namespace Go.Proofs.Ytadlnnjgocknhaa
/-- The row, under a short name, for the claim. -/
theorem fnExactPairPolynomial_holds : Rows.FnExactPairPolynomialSaid := fnExactPairPolynomial.proved
end Go.Proofs.Ytadlnnjgocknhaa
