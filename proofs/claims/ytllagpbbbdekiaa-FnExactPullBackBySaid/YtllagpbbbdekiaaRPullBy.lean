/- The row of the law FnExactPullBackBy. -/
import Derived.Test.YtllagpbbbdekiaaRows
import Derived.Test.YtllagpbbbdekiaaVG
import Derived.Test.YtllagpbbbdekiaaGE
namespace Go.Proofs.Ytllagpbbbdekiaa.fnExactPullBackBy
open Go Go.ChangeShapes Go.WideShapes Go.ChangeAt Go.RowKit Go.Proofs.Ytllagpbbbdekiaa.Fw
set_option linter.unusedVariables false
set_option maxRecDepth 100000
theorem own : ownKnob Try.prog.godebug = none := by kernel_rfl
theorem laidOut : laidOutB Try.prog = true := by kernel_rfl
theorem shpA : Shp Try.prog 23 aT := .pair Try.underlying23 rfl rfl (by kernel_rfl) (by kernel_rfl) (by kernel_rfl) (.int Try.underlying2) (.int Try.underlying2)
theorem shpL : Shp Try.prog 25 lT := .pair Try.underlying25 rfl rfl (by kernel_rfl) (by kernel_rfl) (by kernel_rfl) shpA shpA

theorem walk (W : World) (y0 : Lf) (y1 : Lf) : Calls Try.prog 3 #[.agg (dens A0 (lT.enc y0)).toArray, .agg (dens A0 (lT.enc y1)).toArray] W fun e W' => e = .returned (.bool true) ∧ Below W.heap.size W W' := by
  obtain ⟨⟨a0, b0⟩, ⟨c0, d0⟩⟩ := y0
  obtain ⟨⟨a1, b1⟩, ⟨c1, d1⟩⟩ := y1
  obtain ⟨rows, v, ⟨rfl, rfl⟩, hc⟩ := lawPb_ok.calls (fun _ => none) (fun _ => none) 0 [.agg [.int .i64 a0, .int .i64 b0, .int .i64 c0, .int .i64 d0], .agg [.int .i64 a1, .int .i64 b1, .int .i64 c1, .int .i64 d1]] (fun rows v => rows = [] ∧ v = .bool true) ⟨trivial, rfl, rfl⟩
  refine (hc A0 W (fun i cs h => by cases h) (fun i r hi => by cases hi)).mono fun e W' hp => ?_
  obtain ⟨hs, h1, h2, _⟩ := hp
  exact ⟨by rw [h1]; rfl, h2.toBelow⟩

theorem lifted (os : Os) (started : os.Started) (H : Type) (enc : TypeId × Value → H) :
    ReturnsInHanded {} Try.checked os 3 .any (Rows.fnExactPullBackBySpec.pre6 enc Try.prog Try.f3 Rows.fnExactPullBackByRow.domain false) (Rows.fnExactPullBackBySpec.post enc Try.prog Try.f3 false true false false) := by
  refine returnsInHanded_of_change_sized (C := Try.checked) own started (by kernel_rfl) Try.func3
    (ChangeSpec.witness6 (enc := enc) (C := Try.checked) false ⟨#[], #[.agg #[.int .i64 0, .int .i64 0, .int .i64 0, .int .i64 0], .agg #[.int .i64 0, .int .i64 0, .int .i64 0, .int .i64 0]], []⟩ 8 (by kernel_rfl) (by kernel_rfl) (by kernel_rfl) (by kernel_rfl)) ?_
  intro W base args ds gs before hval0 hW hcnd hsz0 _
  have hval : ∀ (j : Nat) t v, Try.f3.params[j]? = some t → args[j]? = some v → Value.okWide Try.prog W .any base t v := hval0
  have hW' := hW
  obtain ⟨p, q, hA0, hV, rfl, hfz, hnd⟩ := hW
  have hA : DataW.TrodAll enc Try.prog W 0 (fun _ => true) true Try.f3.params.toList args.toList ds p := hA0
  rw [Try.params3] at hA hval
  obtain ⟨v0, vs0, d0, ds0, p0, q0, hargs, rfl, rfl, h0, r0⟩ := trodAll_cons hA
  obtain ⟨v1, vs1, d1, ds1, p1, q1, rfl, rfl, rfl, h1, r1⟩ := trodAll_cons r0
  obtain ⟨rfl, rfl, rfl⟩ := trodAll_nil r1
  obtain rfl : args = #[v0, v1] := by cases args; simp_all
  obtain ⟨rfl, rfl⟩ := trodVars_none hV
  obtain ⟨cs0, rfl, _⟩ := okWide_struct Try.underlying25 (hval 0 25 v0 rfl rfl)
  have k0 := h0
  have lt0 : ∀ x ∈ p0, x.block < W.heap.size := by obtain ⟨m, hm⟩ := k0; exact DataW.trod_lt m _ _ _ hm
  obtain ⟨y0, hy0⟩ : ∃ y : Lf, cs0 = (dens A0 (lT.enc y)).toArray := by
    obtain ⟨fuel, hf⟩ := h0
    obtain ⟨y, hy⟩ := trod_enc shpL hf
    exact ⟨y, by rw [← hy]; simp [Value.cells]⟩
  obtain ⟨cs1, rfl, _⟩ := okWide_struct Try.underlying25 (hval 1 25 v1 rfl rfl)
  have k1 := h1
  have lt1 : ∀ x ∈ p1, x.block < W.heap.size := by obtain ⟨m, hm⟩ := k1; exact DataW.trod_lt m _ _ _ hm
  obtain ⟨y1, hy1⟩ : ∃ y : Lf, cs1 = (dens A0 (lT.enc y)).toArray := by
    obtain ⟨fuel, hf⟩ := h1
    obtain ⟨y, hy⟩ := trod_enc shpL hf
    exact ⟨y, by rw [← hy]; simp [Value.cells]⟩
  clear hA0 hval0 hsz0
  have hwalk := walk W y0 y1
  rw [← hy0, ← hy1] at hwalk
  refine hwalk.mono fun e W' ⟨he, bel⟩ => ?_
  subst he
  exact ⟨_, rfl, _, _, _, [], _, [], hW', trodAll_mk1 (shut_bool Try.underlying4 _), (trodAll_cons_mk (Below.trod laidOut (by kernel_rfl) (of_decide_eq_true (by kernel_rfl)) k0 bel lt0) (trodAll_cons_mk (Below.trod laidOut (by kernel_rfl) (of_decide_eq_true (by kernel_rfl)) k1 bel lt1) trodAll_mk0)), rfl, bel.frame _, fun h => by cases h⟩
theorem over : Rows.fnExactPullBackByRow.holds Try.pinned (OpenSpec.ofChange Rows.fnExactPullBackBySpec) :=
  OpenClaim.holds_of_wide 3 Try.f3 rfl rfl rfl rfl rfl rfl rfl ⟨rfl, rfl, rfl, rfl, rfl⟩ rfl rfl rfl rfl rfl (by kernel_rfl) Try.func3 (by kernel_rfl)
    (of_decide_eq_true (by kernel_rfl)) (by unfold Func.isWrapper; first | (rw [if_pos (by decide +kernel)]; kernel_rfl) | (rw [if_neg (by decide +kernel)]; exact ⟨rfl, rfl⟩))
    (fun os started H enc _ => lifted os started H enc)
theorem proved : Rows.FnExactPullBackBySaid := over
#print axioms proved
end Go.Proofs.Ytllagpbbbdekiaa.fnExactPullBackBy
namespace Go.Proofs.Ytllagpbbbdekiaa
/-- The row, under a short name, for the claim. -/
theorem fnExactPullBackBy_holds : Rows.FnExactPullBackBySaid := fnExactPullBackBy.proved
end Go.Proofs.Ytllagpbbbdekiaa
