/- The row of the law FnExactAddLeaf. -/
import Derived.Test.YtllagpbbbdekiaaRows
import Derived.Test.YtllagpbbbdekiaaB9
import Derived.Test.YtllagpbbbdekiaaGE
namespace Go.Proofs.Ytllagpbbbdekiaa.fnExactAddLeaf
open Go Go.ChangeShapes Go.WideShapes Go.ChangeAt Go.RowKit Go.Proofs.Ytllagpbbbdekiaa.Fw
set_option linter.unusedVariables false
set_option maxRecDepth 100000
theorem own : ownKnob Try.prog.godebug = none := by kernel_rfl
theorem laidOut : laidOutB Try.prog = true := by kernel_rfl
theorem shpA : Shp Try.prog 23 aT := .pair Try.underlying23 rfl rfl (by kernel_rfl) (by kernel_rfl) (by kernel_rfl) (.int Try.underlying2) (.int Try.underlying2)
theorem shpL : Shp Try.prog 25 lT := .pair Try.underlying25 rfl rfl (by kernel_rfl) (by kernel_rfl) (by kernel_rfl) shpA shpA

theorem walk (W : World) (hd0 : Hdr) (xs0 : List Lf) (h0 : RowAt W hd0 ⟨lT, 25, false, xs0⟩) (y1 : Lf) : Calls Try.prog 4 #[hd0.val, .agg (dens A0 (lT.enc y1)).toArray] W fun e W' => e = .returned (.bool true) ∧ Below W.heap.size W W' := by
  obtain ⟨⟨a1, b1⟩, ⟨c1, d1⟩⟩ := y1
  obtain ⟨rows, v, ⟨rfl, rfl⟩, hc⟩ := lawAd_ok.calls (fun _ => none) (nthj [some ⟨lT, 25, false, xs0⟩]) 0 [.row 0, .agg [.int .i64 a1, .int .i64 b1, .int .i64 c1, .int .i64 d1]] (fun rows v => rows = [] ∧ v = .bool true) ⟨trivial, rfl, rfl⟩
  refine (hc ⟨fun _ => 0, fun k => match k with | 0 => hd0 | _ => hd0, fun _ _ => ⟨none, 0, 0⟩⟩ W (fun i cs h => by cases h) (fun k r hi => by
    match k, hi with
    | 0, hi => cases hi; exact RowAt.rows h0 rfl
    | k + 1, hi => simp [nthj] at hi)).mono fun e W' hp => ?_
  obtain ⟨hs, h1, h2, _⟩ := hp
  exact ⟨by rw [h1]; rfl, h2.toBelow⟩

theorem lifted (os : Os) (started : os.Started) (H : Type) (enc : TypeId × Value → H) :
    ReturnsInHanded {} Try.checked os 4 .any (Rows.fnExactAddLeafSpec.pre6 enc Try.prog Try.f4 Rows.fnExactAddLeafRow.domain false) (Rows.fnExactAddLeafSpec.post enc Try.prog Try.f4 false true false false) := by
  refine returnsInHanded_of_change_sized (C := Try.checked) own started (by kernel_rfl) Try.func4
    (ChangeSpec.witness6 (enc := enc) (C := Try.checked) false ⟨#[], #[.slice none 0 0, .agg #[.int .i64 0, .int .i64 0, .int .i64 0, .int .i64 0]], []⟩ 8 (by kernel_rfl) (by kernel_rfl) (by kernel_rfl) (by kernel_rfl)) ?_
  intro W base args ds gs before hval0 hW hcnd hsz0 _
  have hval : ∀ (j : Nat) t v, Try.f4.params[j]? = some t → args[j]? = some v → Value.okWide Try.prog W .any base t v := hval0
  have hW' := hW
  obtain ⟨p, q, hA0, hV, rfl, hfz, hnd⟩ := hW
  have hA : DataW.TrodAll enc Try.prog W 0 (fun _ => true) true Try.f4.params.toList args.toList ds p := hA0
  rw [Try.params4] at hA hval
  obtain ⟨v0, vs0, d0, ds0, p0, q0, hargs, rfl, rfl, h0, r0⟩ := trodAll_cons hA
  obtain ⟨v1, vs1, d1, ds1, p1, q1, rfl, rfl, rfl, h1, r1⟩ := trodAll_cons r0
  obtain ⟨rfl, rfl, rfl⟩ := trodAll_nil r1
  obtain rfl : args = #[v0, v1] := by cases args; simp_all
  obtain ⟨rfl, rfl⟩ := trodVars_none hV
  obtain ⟨a0, len0, cap0, rfl⟩ := okWide_slice Try.underlying36 (hval 0 36 v0 rfl rfl)
  have k0 := h0
  have lt0 : ∀ x ∈ p0, x.block < W.heap.size := by obtain ⟨m, hm⟩ := k0; exact DataW.trod_lt m _ _ _ hm
  obtain ⟨hd0, xs0, hcs0, hat0⟩ : ∃ (hd : Hdr) (xs : List Lf), Value.slice a0 len0 cap0 = hd.val ∧ RowAt W hd ⟨lT, 25, false, xs⟩ := by
    obtain ⟨fuel, hf⟩ := h0
    obtain ⟨hd, xs, hcs, hat⟩ := open_slice Try.underlying36 (by kernel_rfl) shpL hf
    exact ⟨hd, xs, by simpa [Value.cells] using hcs, hat⟩
  obtain ⟨cs1, rfl, _⟩ := okWide_struct Try.underlying25 (hval 1 25 v1 rfl rfl)
  have k1 := h1
  have lt1 : ∀ x ∈ p1, x.block < W.heap.size := by obtain ⟨m, hm⟩ := k1; exact DataW.trod_lt m _ _ _ hm
  obtain ⟨y1, hy1⟩ : ∃ y : Lf, cs1 = (dens A0 (lT.enc y)).toArray := by
    obtain ⟨fuel, hf⟩ := h1
    obtain ⟨y, hy⟩ := trod_enc shpL hf
    exact ⟨y, by rw [← hy]; simp [Value.cells]⟩
  clear hA0 hval0 hsz0
  have hwalk := walk W hd0 xs0 hat0 y1
  rw [← hcs0, ← hy1] at hwalk
  refine hwalk.mono fun e W' ⟨he, bel⟩ => ?_
  subst he
  exact ⟨_, rfl, _, _, _, [], _, [], hW', trodAll_mk1 (shut_bool Try.underlying4 _), (trodAll_cons_mk (Below.trod laidOut (by kernel_rfl) (of_decide_eq_true (by kernel_rfl)) k0 bel lt0) (trodAll_cons_mk (Below.trod laidOut (by kernel_rfl) (of_decide_eq_true (by kernel_rfl)) k1 bel lt1) trodAll_mk0)), rfl, bel.frame _, fun h => by cases h⟩
theorem over : Rows.fnExactAddLeafRow.holds Try.pinned (OpenSpec.ofChange Rows.fnExactAddLeafSpec) :=
  OpenClaim.holds_of_wide 4 Try.f4 rfl rfl rfl rfl rfl rfl rfl ⟨rfl, rfl, rfl, rfl, rfl⟩ rfl rfl rfl rfl rfl (by kernel_rfl) Try.func4 (by kernel_rfl)
    (of_decide_eq_true (by kernel_rfl)) (by unfold Func.isWrapper; first | (rw [if_pos (by decide +kernel)]; kernel_rfl) | (rw [if_neg (by decide +kernel)]; exact ⟨rfl, rfl⟩))
    (fun os started H enc _ => lifted os started H enc)
theorem proved : Rows.FnExactAddLeafSaid := over
#print axioms proved
end Go.Proofs.Ytllagpbbbdekiaa.fnExactAddLeaf
namespace Go.Proofs.Ytllagpbbbdekiaa
/-- The row, under a short name, for the claim. -/
theorem fnExactAddLeaf_holds : Rows.FnExactAddLeafSaid := fnExactAddLeaf.proved
end Go.Proofs.Ytllagpbbbdekiaa
