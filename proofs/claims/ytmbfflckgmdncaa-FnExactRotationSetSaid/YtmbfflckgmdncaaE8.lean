/- The law of ConditionThatFails, walked: a leaf with its images and majors. -/
import Derived.Test.YtmbfflckgmdncaaE7
namespace Go.Proofs.Ytmbfflckgmdncaa.Fw
open Go Go.RowKit
set_option linter.unusedVariables false
set_option linter.unusedSimpArgs false
set_option maxRecDepth 100000
set_option maxHeartbeats 2000000

/-- Two nil slices where rows are told. -/
theorem leafNN {P : Program} {w : World} {K : Nat → Prop} {r0 : Nat → Hdr} {n0 b0 : Nat} {x0 : Nat → Nat} {tn : Nat → Bool} {A : Asg} {lr : Nat} {hp : List (Option (List AVal))} {rows : List (Option Row)} {u v : AVal} {c c' : TyC} {e e' : TypeId} {xs : List c.α} {ys : List c'.α} (hK : K = (· < w.heap.size)) (hx : xs = []) (hy : ys = [])
    (huv : ∀ B C : Asg, C.rw lr = ⟨none, 0, 0⟩ → C.rw (lr + 1) = ⟨none, 0, 0⟩ → u.den B = v.den C) :
    Leaf ⟨P, w, K, r0, n0, b0, x0, tn⟩ (CPost A lr [⟨c, e, true, xs⟩, ⟨c', e', true, ys⟩] v w) hp rows u := ⟨fun B w' hm => by
  subst hK; subst hx; subst hy
  refine ⟨[⟨⟨none, 0, 0⟩, fun _ => ⟨none, 0, 0⟩⟩, ⟨⟨none, 0, 0⟩, fun _ => ⟨none, 0, 0⟩⟩], ?_, hm.kept.below, newRows_two rfl (rows_nil _ _ _ _) (fun b hb => (feet_nil hb).elim) rfl (rows_nil _ _ _ _) (fun b hb => (feet_nil hb).elim) (fun b hb => (feet_nil hb).elim)⟩
  have s1 := (setRws_in A lr [(⟨⟨none, 0, 0⟩, fun _ => ⟨none, 0, 0⟩⟩ : HdrN), ⟨⟨none, 0, 0⟩, fun _ => ⟨none, 0, 0⟩⟩] 0 _ rfl).1
  have s2 := (setRws_in A lr [(⟨⟨none, 0, 0⟩, fun _ => ⟨none, 0, 0⟩⟩ : HdrN), ⟨⟨none, 0, 0⟩, fun _ => ⟨none, 0, 0⟩⟩] 1 _ rfl).1
  rw [Nat.add_zero] at s1
  rw [huv B (A.setRws lr [⟨⟨none, 0, 0⟩, fun _ => ⟨none, 0, 0⟩⟩, ⟨⟨none, 0, 0⟩, fun _ => ⟨none, 0, 0⟩⟩]) s1 s2]⟩

/-- What is made of a leaf: the leaf, images, majors, the condition that fails, the code. -/
structure Mi where
  l : Lf
  i : List Lf
  j : List Lf
  f : Int
  c : Int
@[irreducible] def miR (m : Lf) : Mi :=
  if IsL m then
    if ShortL m then
      if imgB isDiaL m = true ∧ majN m = 0 then ⟨m, imgL isDiaL m, majO m, failN m (imgL isDiaL m) (majO m), 0⟩ else ⟨((0, 0), (0, 0)), [], [], 0, 3⟩
    else ⟨m, [], [], 1, 0⟩
  else ⟨((0, 0), (0, 0)), [], [], 0, 1⟩
theorem miR_1 {m : Lf} (h : ¬ IsL m) : miR m = ⟨((0, 0), (0, 0)), [], [], 0, 1⟩ := by unfold miR; rw [if_neg h]
theorem miR_2 {m : Lf} (h : IsL m) (h2 : ¬ ShortL m) : miR m = ⟨m, [], [], 1, 0⟩ := by unfold miR; rw [if_pos h, if_neg h2]
theorem miR_3 {m : Lf} (h : IsL m) (h2 : ShortL m) (h3 : ¬ (imgB isDiaL m = true ∧ majN m = 0)) : miR m = ⟨((0, 0), (0, 0)), [], [], 0, 3⟩ := by unfold miR; rw [if_pos h, if_pos h2, if_neg h3]
theorem miR_4 {m : Lf} (h : IsL m) (h2 : ShortL m) (h3 : imgB isDiaL m = true ∧ majN m = 0) : miR m = ⟨m, imgL isDiaL m, majO m, failN m (imgL isDiaL m) (majO m), 0⟩ := by unfold miR; rw [if_pos h, if_pos h2, if_pos h3]
theorem majN_0 {l : Lf} (h : majN l = 0) : (majL l).all limAY = true ∧ majO l = majL l := by
  unfold majN at h
  unfold majO
  split at h
  · rename_i h1
    exact ⟨h1, if_pos h1⟩
  · cases h
theorem majO_sm {l : Lf} (hl : IsL l) : ∀ x ∈ majO l, SmL x := by
  intro x hx
  unfold majO at hx
  split at hx
  · rename_i h1
    exact (maj_isL hl h1 x hx).sm
  · cases hx
abbrev GMi := (GOk.nil : GOk Try.prog [])
@[irreducible] def cfR (m : Lf) : Int × Int := if (miR m).c = 0 then ((miR m).f, 0) else (0, (miR m).c)
def condC : PCtr := fun _ _ _ vals k => match vals with
  | [.agg [.int .i64 n, .int .i64 d, .int .i64 m, .int .i64 e]] => True ∧ ∀ q : Int × Int, q = cfR ((n, d), (m, e)) → k [] (.tup [.int .i64 q.1, .int .i64 q.2])
  | _ => False
end Go.Proofs.Ytmbfflckgmdncaa.Fw
-- %intro
