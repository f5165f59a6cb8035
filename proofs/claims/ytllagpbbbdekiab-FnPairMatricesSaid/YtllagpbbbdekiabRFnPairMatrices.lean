/- The row of the law FnPairMatrices. -/
import Derived.Test.YtllagpbbbdekiabRows
import Derived.Test.YtllagpbbbdekiabXC
import Derived.Test.YtllagpbbbdekiabGE
import Derived.Test.YtllagpbbbdekiabUZ
namespace Go.Proofs.Ytllagpbbbdekiab.fnPairMatrices
open Go Go.ChangeShapes Go.WideShapes Go.ChangeAt Go.RowKit Go.Proofs.Ytllagpbbbdekiab.Fw
set_option linter.unusedVariables false
set_option maxRecDepth 100000
theorem own : ownKnob Try.prog.godebug = none := by kernel_rfl
theorem laidOut : laidOutB Try.prog = true := by kernel_rfl
theorem walk (W : World) (hd0 : Hdr) (xs0 : List Int) (h0 : RowAt W hd0 ⟨bT, 5, false, xs0⟩) (z0 : Bts xs0) : Calls Try.prog 3 #[hd0.val] W fun e W' => e = .returned (.bool true) ∧ Below W.heap.size W W' := by
  obtain ⟨rows, v, ⟨rfl, rfl⟩, hc⟩ := lawPm_ok.calls (fun _ => none) (nthj [some ⟨bT, 5, false, xs0⟩]) 0 [.row 0] (fun rows v => rows = [] ∧ v = .bool true) ⟨z0, rfl, rfl⟩
  refine (hc ⟨fun _ => 0, fun k => match k with | 0 => hd0 | _ => hd0, fun _ _ => ⟨none, 0, 0⟩⟩ W (fun i cs h => by cases h) (fun k r hi => by
    match k, hi with
    | 0, hi => cases hi; exact RowAt.rows h0 rfl
    | k + 1, hi => simp [nthj] at hi)).mono fun e W' hp => ?_
  obtain ⟨hs, h1, h2, _⟩ := hp
  exact ⟨by rw [h1]; rfl, h2.toBelow⟩
theorem lifted (os : Os) (started : os.Started) (H : Type) (enc : TypeId × Value → H) :
    ReturnsInHanded {} Try.checked os 3 .any (Rows.fnPairMatricesSpec.pre6 enc Try.prog Try.f3 Rows.fnPairMatricesRow.domain false) (Rows.fnPairMatricesSpec.post enc Try.prog Try.f3 false true false false) := by
  refine returnsInHanded_of_change_sized (C := Try.checked) own started (by kernel_rfl) Try.func3
    (ChangeSpec.witness6 (enc := enc) (C := Try.checked) false ⟨#[], #[.slice none 0 0], []⟩ 8 (by kernel_rfl) (by kernel_rfl) (by kernel_rfl) (by kernel_rfl)) ?_
  intro W base args ds gs before hval0 hW hcnd hsz0 _
  have hval : ∀ (j : Nat) t v, Try.f3.params[j]? = some t → args[j]? = some v → Value.okWide Try.prog W .any base t v := hval0
  have hW' := hW
  obtain ⟨p, q, hA0, hV, rfl, hfz, hnd⟩ := hW
  have hA : DataW.TrodAll enc Try.prog W 0 (fun _ => true) true Try.f3.params.toList args.toList ds p := hA0
  rw [Try.params3] at hA hval
  obtain ⟨v0, vs0, d0, ds0, p0, q0, hargs, rfl, rfl, h0, r0⟩ := trodAll_cons hA
  obtain ⟨rfl, rfl, rfl⟩ := trodAll_nil r0
  obtain rfl : args = #[v0] := by cases args; simp_all
  obtain ⟨rfl, rfl⟩ := trodVars_none hV
  obtain ⟨a0, len0, cap0, rfl⟩ := okWide_slice Try.underlying22 (hval 0 22 v0 rfl rfl)
  have k0 := h0
  have lt0 : ∀ x ∈ p0, x.block < W.heap.size := by obtain ⟨m, hm⟩ := k0; exact DataW.trod_lt m _ _ _ hm
  obtain ⟨hd0, xs0, hcs0, hat0, bts0⟩ : ∃ (hd : Hdr) (xs : List Int), Value.slice a0 len0 cap0 = hd.val ∧ RowAt W hd ⟨bT, 5, false, xs⟩ ∧ Bts xs := by
    obtain ⟨fuel, hf⟩ := h0
    obtain ⟨hd, xs, hcs, hat, hb⟩ := open_bytes Try.underlying22 Try.underlying5 (by kernel_rfl) hf
    exact ⟨hd, xs, by simpa [Value.cells] using hcs, hat, hb⟩
  clear hA0 hval0 hsz0
  have hwalk := walk W hd0 xs0 hat0 bts0
  rw [← hcs0] at hwalk
  refine hwalk.mono fun e W' ⟨he, bel⟩ => ?_
  subst he
  exact ⟨_, rfl, _, _, _, [], _, [], hW', trodAll_mk1 (shut_bool Try.underlying4 _), (trodAll_cons_mk (Below.trod laidOut (by kernel_rfl) (of_decide_eq_true (by kernel_rfl)) k0 bel lt0) trodAll_mk0), rfl, bel.frame _, fun h => by cases h⟩
theorem over : Rows.fnPairMatricesRow.holds Try.pinned (OpenSpec.ofChange Rows.fnPairMatricesSpec) :=
  OpenClaim.holds_of_wide 3 Try.f3 rfl rfl rfl rfl rfl rfl rfl ⟨rfl, rfl, rfl, rfl, rfl⟩ rfl rfl rfl rfl rfl (by kernel_rfl) Try.func3 (by kernel_rfl)
    (of_decide_eq_true (by kernel_rfl)) (by unfold Func.isWrapper; first | (rw [if_pos (by decide +kernel)]; kernel_rfl) | (rw [if_neg (by decide +kernel)]; exact ⟨rfl, rfl⟩))
    (fun os started H enc _ => lifted os started H enc)
theorem proved : Rows.FnPairMatricesSaid := over
#print axioms proved
end Go.Proofs.Ytllagpbbbdekiab.fnPairMatrices
namespace Go.Proofs.Ytllagpbbbdekiab
theorem fnPairMatrices_holds : Rows.FnPairMatricesSaid := fnPairMatrices.proved
end Go.Proofs.Ytllagpbbbdekiab
