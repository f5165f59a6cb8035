/- The row of the law FnExactIsCarried. -/
import Derived.Test.YtlplngafncobkaaRows
import Derived.Test.YtlplngafncobkaaC13
import Derived.Test.YtlplngafncobkaaFwZ
namespace Go.Proofs.Ytlplngafncobkaa.fnExactIsCarried
open Go Go.ChangeShapes Go.WideShapes Go.ChangeAt Go.RowKit Go.Proofs.Ytlplngafncobkaa.Fw
set_option linter.unusedVariables false
set_option maxRecDepth 100000
theorem own : ownKnob Try.prog.godebug = none := by kernel_rfl
theorem laidOut : laidOutB Try.prog = true := by kernel_rfl

theorem shpA : Shp Try.prog 35 aT := .pair Try.underlying35 rfl rfl (by kernel_rfl) (by kernel_rfl) (by kernel_rfl) (.int Try.underlying2) (.int Try.underlying2)
theorem shpL : Shp Try.prog 37 lT := .pair Try.underlying37 rfl rfl (by kernel_rfl) (by kernel_rfl) (by kernel_rfl) shpA shpA

theorem walk (W : World) (hd : Hdr) (xs : List Lf) (h : RowAt W hd ⟨lT, 37, false, xs⟩) : Calls Try.prog 5 #[hd.val] W fun e W' => e = .returned (.bool true) ∧ Below W.heap.size W W' := by
  obtain ⟨rows, v, ⟨rfl, rfl⟩, hc⟩ := lawCar_ok.calls (fun _ => none) (nthj [some ⟨lT, 37, false, xs⟩]) 0 [.row 0] (fun rows v => rows = [] ∧ v = .bool true) ⟨trivial, rfl, rfl⟩
  refine (hc ⟨fun _ => 0, fun _ => hd, fun _ _ => hd⟩ W (fun i cs h => by cases h) (fun i r hi => ?_)).mono fun e W' hp => ?_
  · cases i with
    | zero => cases hi; exact h
    | succ i => simp [nthj] at hi
  · obtain ⟨hs, h1, h2, h3, _⟩ := hp
    exact ⟨by rw [h2]; rfl, h3⟩

theorem lifted (os : Os) (started : os.Started) (H : Type) (enc : TypeId × Value → H) :
    ReturnsInHanded {} Try.checked os 5 .any (Rows.fnExactIsCarriedSpec.pre6 enc Try.prog Try.f5 Rows.fnExactIsCarriedRow.domain false) (Rows.fnExactIsCarriedSpec.post enc Try.prog Try.f5 false true false false) := by
  refine returnsInHanded_of_change_sized (C := Try.checked) own started (by kernel_rfl) Try.func5
    (ChangeSpec.witness6 (enc := enc) (C := Try.checked) false ⟨#[], #[.slice none 0 0], []⟩ 8 (by kernel_rfl) (by kernel_rfl) (by kernel_rfl) (by kernel_rfl)) ?_
  intro W base args ds gs before hval0 hW hcnd hsz0 _
  have hval : ∀ (j : Nat) t v, Try.f5.params[j]? = some t → args[j]? = some v → Value.okWide Try.prog W .any base t v := hval0
  have hW' := hW
  obtain ⟨p, q, hA0, hV, rfl, hfz, hnd⟩ := hW
  have hA : DataW.TrodAll enc Try.prog W 0 (fun _ => true) true Try.f5.params.toList args.toList ds p := hA0
  rw [Try.params5] at hA hval
  obtain ⟨v0, vs0, d0, ds0, p0, q0, hargs, rfl, rfl, h0, r0⟩ := trodAll_cons hA
  obtain ⟨rfl, rfl, rfl⟩ := trodAll_nil r0
  obtain rfl : args = #[v0] := by cases args; simp_all
  obtain ⟨rfl, rfl⟩ := trodVars_none hV
  obtain ⟨a0, len0, cap0, rfl⟩ := okWide_slice Try.underlying22 (hval 0 22 v0 rfl rfl)
  have k0 := h0
  have lt0 : ∀ x ∈ p0, x.block < W.heap.size := by obtain ⟨m, hm⟩ := k0; exact DataW.trod_lt m _ _ _ hm
  obtain ⟨hd, xs, hcs, hat⟩ : ∃ (hd : Hdr) (xs : List Lf), Value.slice a0 len0 cap0 = hd.val ∧ RowAt W hd ⟨lT, 37, false, xs⟩ := by
    obtain ⟨fuel, hf⟩ := h0
    obtain ⟨hd, xs, hcs, hat⟩ := open_slice Try.underlying22 (by kernel_rfl) shpL hf
    exact ⟨hd, xs, by simpa [Value.cells] using hcs, hat⟩
  clear hA0 hval0 hsz0
  have hwalk := walk W hd xs hat
  rw [← hcs] at hwalk
  refine hwalk.mono fun e W' ⟨he, bel⟩ => ?_
  subst he
  exact ⟨_, rfl, _, _, _, [], _, [], hW', trodAll_mk1 (shut_bool Try.underlying4 _), (trodAll_cons_mk (Below.trod laidOut (by kernel_rfl) (of_decide_eq_true (by kernel_rfl)) k0 bel lt0) trodAll_mk0), rfl, bel.frame _, fun h => by cases h⟩
theorem over : Rows.fnExactIsCarriedRow.holds Try.pinned (OpenSpec.ofChange Rows.fnExactIsCarriedSpec) :=
  OpenClaim.holds_of_wide 5 Try.f5 rfl rfl rfl rfl rfl rfl rfl ⟨rfl, rfl, rfl, rfl, rfl⟩ rfl rfl rfl rfl rfl (by kernel_rfl) Try.func5 (by kernel_rfl)
    (of_decide_eq_true (by kernel_rfl)) (by unfold Func.isWrapper; first | (rw [if_pos (by decide +kernel)]; kernel_rfl) | (rw [if_neg (by decide +kernel)]; exact ⟨rfl, rfl⟩))
    (fun os started H enc _ => lifted os started H enc)
theorem proved : Rows.FnExactIsCarriedSaid := over
#print axioms proved
end Go.Proofs.Ytlplngafncobkaa.fnExactIsCarried
namespace Go.Proofs.Ytlplngafncobkaa
/-- The row, under a short name, for the claim. -/
theorem fnExactIsCarried_holds : Rows.FnExactIsCarriedSaid := fnExactIsCarried.proved
end Go.Proofs.Ytlplngafncobkaa
