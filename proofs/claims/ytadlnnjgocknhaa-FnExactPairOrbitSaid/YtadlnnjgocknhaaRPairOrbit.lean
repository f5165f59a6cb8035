/- The row of the law FnExactPairOrbit. -/
import Derived.Test.YtadlnnjgocknhaaRows
import Derived.Test.YtadlnnjgocknhaaY5
import Derived.Test.YtadlnnjgocknhaaGE
namespace Go.Proofs.Ytadlnnjgocknhaa.fnExactPairOrbit
open Go Go.ChangeShapes Go.WideShapes Go.ChangeAt Go.RowKit Go.Proofs.Ytadlnnjgocknhaa.Fw
set_option linter.unusedVariables false
set_option maxRecDepth 100000
theorem own : ownKnob Try.prog.godebug = none := by kernel_rfl
theorem laidOut : laidOutB Try.prog = true := by kernel_rfl
theorem shpA : Shp Try.prog 23 aT := .pair Try.underlying23 rfl rfl (by kernel_rfl) (by kernel_rfl) (by kernel_rfl) (.int Try.underlying2) (.int Try.underlying2)

theorem walk (W : World) (y0 : Ang) (y1 : Int) (y2 : Int) (y3 : Int) : Calls Try.prog 3 #[.agg (dens A0 (aT.enc y0)).toArray, .int .i64 y1, .int .i64 y2, .int .i64 y3] W fun e W' => e = .returned (.bool true) ∧ Below W.heap.size W W' := by
  obtain ⟨a0, b0⟩ := y0
  obtain ⟨rows, v, ⟨rfl, rfl⟩, hc⟩ := lawPo_ok.calls (fun _ => none) (fun _ => none) 0 [.agg [.int .i64 a0, .int .i64 b0], .int .i64 y1, .int .i64 y2, .int .i64 y3] (fun rows v => rows = [] ∧ v = .bool true) ⟨trivial, rfl, rfl⟩
  refine (hc A0 W (fun i cs h => by cases h) (fun i r hi => by cases hi)).mono fun e W' hp => ?_
  obtain ⟨hs, h1, h2, _⟩ := hp
  exact ⟨by rw [h1]; rfl, h2.toBelow⟩

theorem lifted (os : Os) (started : os.Started) (H : Type) (enc : TypeId × Value → H) :
    ReturnsInHanded {} Try.checked os 3 .any (Rows.fnExactPairOrbitSpec.pre6 enc Try.prog Try.f3 Rows.fnExactPairOrbitRow.domain false) (Rows.fnExactPairOrbitSpec.post enc Try.prog Try.f3 false true false false) := by
  refine returnsInHanded_of_change_sized (C := Try.checked) own started (by kernel_rfl) Try.func3
    (ChangeSpec.witness6 (enc := enc) (C := Try.checked) false ⟨#[], #[.agg #[.int .i64 0, .int .i64 0], .int .i64 0, .int .i64 0, .int .i64 0], []⟩ 8 (by kernel_rfl) (by kernel_rfl) (by kernel_rfl) (by kernel_rfl)) ?_
  intro W base args ds gs before hval0 hW hcnd hsz0 _
  have hval : ∀ (j : Nat) t v, Try.f3.params[j]? = some t → args[j]? = some v → Value.okWide Try.prog W .any base t v := hval0
  have hW' := hW
  obtain ⟨p, q, hA0, hV, rfl, hfz, hnd⟩ := hW
  have hA : DataW.TrodAll enc Try.prog W 0 (fun _ => true) true Try.f3.params.toList args.toList ds p := hA0
  rw [Try.params3] at hA hval
  obtain ⟨v0, vs0, d0, ds0, p0, q0, hargs, rfl, rfl, h0, r0⟩ := trodAll_cons hA
  obtain ⟨v1, vs1, d1, ds1, p1, q1, rfl, rfl, rfl, h1, r1⟩ := trodAll_cons r0
  obtain ⟨v2, vs2, d2, ds2, p2, q2, rfl, rfl, rfl, h2, r2⟩ := trodAll_cons r1
  obtain ⟨v3, vs3, d3, ds3, p3, q3, rfl, rfl, rfl, h3, r3⟩ := trodAll_cons r2
  obtain ⟨rfl, rfl, rfl⟩ := trodAll_nil r3
  obtain rfl : args = #[v0, v1, v2, v3] := by cases args; simp_all
  obtain ⟨rfl, rfl⟩ := trodVars_none hV
  obtain ⟨cs0, rfl, _⟩ := okWide_struct Try.underlying23 (hval 0 23 v0 rfl rfl)
  have k0 := h0
  have lt0 : ∀ x ∈ p0, x.block < W.heap.size := by obtain ⟨m, hm⟩ := k0; exact DataW.trod_lt m _ _ _ hm
  obtain ⟨y0, hy0⟩ : ∃ y : Ang, cs0 = (dens A0 (aT.enc y)).toArray := by
    obtain ⟨fuel, hf⟩ := h0
    obtain ⟨y, hy⟩ := trod_enc shpA hf
    exact ⟨y, by rw [← hy]; simp [Value.cells]⟩
  obtain ⟨y1, rfl⟩ := okWide_int Try.underlying2 (hval 1 2 v1 rfl rfl)
  have k1 := h1
  have lt1 : ∀ x ∈ p1, x.block < W.heap.size := by obtain ⟨m, hm⟩ := k1; exact DataW.trod_lt m _ _ _ hm
  obtain ⟨y2, rfl⟩ := okWide_int Try.underlying2 (hval 2 2 v2 rfl rfl)
  have k2 := h2
  have lt2 : ∀ x ∈ p2, x.block < W.heap.size := by obtain ⟨m, hm⟩ := k2; exact DataW.trod_lt m _ _ _ hm
  obtain ⟨y3, rfl⟩ := okWide_int Try.underlying2 (hval 3 2 v3 rfl rfl)
  have k3 := h3
  have lt3 : ∀ x ∈ p3, x.block < W.heap.size := by obtain ⟨m, hm⟩ := k3; exact DataW.trod_lt m _ _ _ hm
  clear hA0 hval0 hsz0
  have hwalk := walk W y0 y1 y2 y3
  rw [← hy0] at hwalk
  refine hwalk.mono fun e W' ⟨he, bel⟩ => ?_
  subst he
  exact ⟨_, rfl, _, _, _, [], _, [], hW', trodAll_mk1 (shut_bool Try.underlying4 _), (trodAll_cons_mk (Below.trod laidOut (by kernel_rfl) (of_decide_eq_true (by kernel_rfl)) k0 bel lt0) (trodAll_cons_mk (Below.trod laidOut (by kernel_rfl) (of_decide_eq_true (by kernel_rfl)) k1 bel lt1) (trodAll_cons_mk (Below.trod laidOut (by kernel_rfl) (of_decide_eq_true (by kernel_rfl)) k2 bel lt2) (trodAll_cons_mk (Below.trod laidOut (by kernel_rfl) (of_decide_eq_true (by kernel_rfl)) k3 bel lt3) trodAll_mk0)))), rfl, bel.frame _, fun h => by cases h⟩
theorem over : Rows.fnExactPairOrbitRow.holds Try.pinned (OpenSpec.ofChange Rows.fnExactPairOrbitSpec) :=
  OpenClaim.holds_of_wide 3 Try.f3 rfl rfl rfl rfl rfl rfl rfl ⟨rfl, rfl, rfl, rfl, rfl⟩ rfl rfl rfl rfl rfl (by kernel_rfl) Try.func3 (by kernel_rfl)
    (of_decide_eq_true (by kernel_rfl)) (by unfold Func.isWrapper; first | (rw [if_pos (by decide +kernel)]; kernel_rfl) | (rw [if_neg (by decide +kernel)]; exact ⟨rfl, rfl⟩))
    (fun os started H enc _ => lifted os started H enc)
theorem proved : Rows.FnExactPairOrbitSaid := over
#print axioms proved
end Go.Proofs.Ytadlnnjgocknhaa.fnExactPairOrbit
namespace Go.Proofs.Ytadlnnjgocknhaa
/-- The row, under a short name, for the claim. -/
theorem fnExactPairOrbit_holds : Rows.FnExactPairOrbitSaid := fnExactPairOrbit.proved
end Go.Proofs.Ytadlnnjgocknhaa
