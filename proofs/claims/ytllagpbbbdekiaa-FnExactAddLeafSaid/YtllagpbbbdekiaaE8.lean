/- The law of ConditionThatFails, walked: a leaf with its images and majors. -/
import Derived.Test.YtllagpbbbdekiaaE7
namespace Go.Proofs.Ytllagpbbbdekiaa.Fw
open Go Go.RowKit
set_option linter.unusedVariables false
set_option linter.unusedSimpArgs false
set_option maxRecDepth 100000
set_option maxHeartbeats 2000000

/-- Two nil slices where rows are told. -/
theorem leafNN {P : Program} {w : World} {K : Nat → Prop} {r0 : Nat → Hdr} {n0 b0 : Nat} {x0 : Nat → Nat} {tn : Nat → Bool} {A : Asg} {lr : Nat} {hp : List (Option (List AVal))} {rows : List (Option Row)} {u v : AVal} {c c' : TyC} {e e' : TypeId} {xs : List c.α} {ys : List c'.α} (hK : K = (· < w.heap.size)) (hx : xs = []) (hy : ys = [])
    (huv : ∀ B C : Asg, C.rw lr = ⟨none, 0, 0⟩ → C.rw (lr + 1) = ⟨none, 0, 0⟩ → u.den B = v.den C) :
    Leaf ⟨P, w, K, r0, n0, b0, x0, tn⟩ (CPost A lr [⟨c, e, true, xs⟩, ⟨c', e', true, ys⟩] v w) hp rows u := ⟨fun B w' hm => by
  subst hK; subst hx; subst hy
  refine ⟨[⟨⟨none, 0, 0⟩, fun _ => ⟨none, 0, 0⟩⟩, ⟨⟨none, 0, 0⟩, fun _ => ⟨none, 0, 0⟩⟩], ?_, hm.kept.below, newRows_two rfl (rows_nil _ _ _ _) (fun b hb => (feet_nil hb).elim) rfl (rows_nil _ _ _ _) (fun b hb => (feet_nil hb).elim) (fun b hb => (feet_nil hb).elim)⟩
  have s1 := (setRws_in A lr [(⟨⟨none, 0, 0⟩, fun _ => ⟨none, 0, 0⟩⟩ : HdrN), ⟨⟨none, 0, 0⟩, fun _ => ⟨none, 0, 0⟩⟩] 0 _ rfl).1
  have s2 := (setRws_in A lr [(⟨⟨none, 0, 0⟩, fun _ => ⟨none, 0, 0⟩⟩ : HdrN), ⟨⟨none, 0, 0⟩, fun _ => ⟨none, 0, 0⟩⟩] 1 _ rfl).1
  rw [Nat.add_zero] at s1
  rw [huv B (A.setRws lr [⟨⟨none, 0, 0⟩, fun _ => ⟨none, 0, 0⟩⟩, ⟨⟨none, 0, 0⟩, fun _ => ⟨none, 0, 0⟩⟩]) s1 s2]⟩

/-- What is made of a leaf: the leaf, images, majors, the condition that fails, the code. -/
structure Mi where
  l : Lf
  i : List Lf
  j : List Lf
  f : Int
  c : Int
@[irreducible] def miR (m : Lf) : Mi :=
  if IsL m then
    if ShortL m then
      if imgB isDiaL m = true ∧ majN m = 0 then ⟨m, imgL isDiaL m, majO m, failN m (imgL isDiaL m) (majO m), 0⟩ else ⟨((0, 0), (0, 0)), [], [], 0, 3⟩
    else ⟨m, [], [], 1, 0⟩
  else ⟨((0, 0), (0, 0)), [], [], 0, 1⟩
theorem miR_1 {m : Lf} (h : ¬ IsL m) : miR m = ⟨((0, 0), (0, 0)), [], [], 0, 1⟩ := by unfold miR; rw [if_neg h]
theorem miR_2 {m : Lf} (h : IsL m) (h2 : ¬ ShortL m) : miR m = ⟨m, [], [], 1, 0⟩ := by unfold miR; rw [if_pos h, if_neg h2]
theorem miR_3 {m : Lf} (h : IsL m) (h2 : ShortL m) (h3 : ¬ (imgB isDiaL m = true ∧ majN m = 0)) : miR m = ⟨((0, 0), (0, 0)), [], [], 0, 3⟩ := by unfold miR; rw [if_pos h, if_pos h2, if_neg h3]
theorem miR_4 {m : Lf} (h : IsL m) (h2 : ShortL m) (h3 : imgB isDiaL m = true ∧ majN m = 0) : miR m = ⟨m, imgL isDiaL m, majO m, failN m (imgL isDiaL m) (majO m), 0⟩ := by unfold miR; rw [if_pos h, if_pos h2, if_pos h3]
def minorC : PCtr := fun _ _ lr vals k => match vals with
  | [.agg [.int .i64 n, .int .i64 d, .int .i64 m, .int .i64 e]] => True ∧ ∀ q : Mi, q = miR ((n, d), (m, e)) → k [⟨lT, 31, true, q.i⟩, ⟨lT, 31, true, q.j⟩] (.tup [.agg [.int .i64 q.l.1.1, .int .i64 q.l.1.2, .int .i64 q.l.2.1, .int .i64 q.l.2.2, .row lr, .row (lr + 1), .int .i64 q.f], .int .i64 q.c])
  | _ => False
theorem majN_0 {l : Lf} (h : majN l = 0) : (majL l).all limAY = true ∧ majO l = majL l := by
  unfold majN at h
  unfold majO
  split at h
  · rename_i h1
    exact ⟨h1, if_pos h1⟩
  · cases h
theorem majO_sm {l : Lf} (hl : IsL l) : ∀ x ∈ majO l, SmL x := by
  intro x hx
  unfold majO at hx
  split at hx
  · rename_i h1
    exact (maj_isL hl h1 x hx).sm
  · cases hx
abbrev GMi := GOk.cons leavesCode_ok (GOk.cons short_ok (GOk.cons images_ok (GOk.cons majors_ok (GOk.cons have_ok (GOk.cons mlc_ok .nil)))))
theorem minor_ok : PCtrOk Try.prog 55 minorC where
  enter := enter_ok Try.func55 (by kernel_rfl) rfl
  calls := by
    intro hg rg lr vals k h
    unfold minorC at h
    split at h
    case h_2 => exact h.elim
    rename_i n d m e
    obtain ⟨_, hk⟩ := h
    replace hk := hk _ rfl
    refine ⟨_, _, hk, fun A w _ _ => ?_⟩
    refine enter T_ok GMi Try.func55 rfl (K := (· < w.heap.size)) (fun _ h => h) (A := A) (n0 := 0) (b0 := 0) (rows := []) (hp := []) rfl (Nat.zero_le _) (fun k r h => by cases h) rfl (fun k r h => by cases h) rfl rfl (Nat.le_of_ble_eq_true rfl) ?_
    conv => whnf
    repeat (refine V_step T_ok GMi rfl ?_; conv => whnf)
    repeat (any_goals (first
      | (refine V_step T_ok GMi rfl ?_; conv => whnf)
      | (refine V_drawN T_ok GMi mixed (by kernel_rfl) ?_; conv => whnf)
      | (refine bcond_split (fun hc => ?_) (fun hc => ?_) <;> (try simp only [decide_eq_true_eq, decide_eq_false_iff_not, Bool.not_eq_true', Bool.not_eq_false', Bool.and_eq_true, Bool.or_eq_true, Bool.and_eq_false_imp, Bool.or_eq_false_iff, ne_eq, Decidable.not_not] at hc) <;> conv => whnf)
      | (intro ysK hysK; have hysl := congrArg List.length hysK; (try simp only [List.length_set, List.length_append, List.length_cons, List.length_nil, List.length_take, List.length_drop, List.length_replicate] at hysl); conv => whnf)
      | (intro bK hbK; have hbl := congrArg ByteArray.size hbK; conv => whnf)
      | (intro sK hsK; conv => whnf)
      | (refine And.intro (by first | (first | exact True.intro | exact ((one_isL _).1 (by assumption)).sm | exact ⟨((one_isL _).1 (by assumption)).1, ((one_isL _).1 (by assumption)).2.1⟩ | exact ⟨fun x hx => (imgL_isL ((one_isL _).1 (by assumption)) x hx).sm, fun x hx => (imgL_isL ((one_isL _).1 (by assumption)) x hx).sm⟩ | exact ⟨fun x hx => (imgL_isL ((one_isL _).1 (by assumption)) x hx).sm, majO_sm ((one_isL _).1 (by assumption))⟩ | exact ⟨((one_isL _).1 (by assumption)).sm, fun x hx => (imgL_isL ((one_isL _).1 (by assumption)) x hx).sm⟩) | exact True.intro | exact ⟨rfl, True.intro, fun _ _ => rfl⟩ | exact Nat.le_of_ble_eq_true rfl | (refine ⟨by (try simp only [List.length_cons, List.length_nil]); omega, Int.le_trans (Int.mul_le_mul_of_nonneg_left (show (TInfo.bytes _ : Int) ≤ 64 from Int.ofNat_le.2 (Nat.le_of_ble_eq_true rfl)) (by omega)) (by (try simp only [List.length_cons, List.length_nil]); omega)⟩)) ?_; conv => whnf)))
    · have hn : ¬ IsL ((n, d), (m, e)) := fun h => hc ((one_isL _).2 h)
      rw [miR_1 hn]
      exact leafNN rfl rfl rfl (fun B C h h' => by simp [AVal.den, dens, h, h', Hdr.val, one_isL' _ hn])
    · have hl := (one_isL ((n, d), (m, e))).1 (by assumption)
      rw [miR_2 hl hc]
      exact leafNN rfl rfl rfl (fun B C h h' => by simp [AVal.den, dens, h, h', Hdr.val])
    · have hl := (one_isL ((n, d), (m, e))).1 (by assumption)
      rw [miR_3 hl (by assumption) fun h => by rw [hc] at h; cases h.1]
      exact leafNN rfl rfl rfl (fun B C h h' => by simp [AVal.den, dens, h, h', Hdr.val])
    · have hl := (one_isL ((n, d), (m, e))).1 (by assumption)
      rw [miR_3 hl (by assumption) fun h => hc h.2]
      exact leafNN rfl rfl rfl (fun B C h h' => by simp [AVal.den, dens, h, h', Hdr.val])
    all_goals
      have hl := (one_isL ((n, d), (m, e))).1 (by assumption)
      rw [miR_4 hl (by assumption) ⟨by assumption, by assumption⟩]
      refine leaf2 1 2 (by decide) rfl rfl rfl rfl rfl rfl rfl (fun B C h h' => ?_)
      simp [AVal.den, dens, h, h', failN, *]

/-! ### the condition that fails -/
@[irreducible] def cfR (m : Lf) : Int × Int := if (miR m).c = 0 then ((miR m).f, 0) else (0, (miR m).c)
def condC : PCtr := fun _ _ _ vals k => match vals with
  | [.agg [.int .i64 n, .int .i64 d, .int .i64 m, .int .i64 e]] => True ∧ ∀ q : Int × Int, q = cfR ((n, d), (m, e)) → k [] (.tup [.int .i64 q.1, .int .i64 q.2])
  | _ => False
end Go.Proofs.Ytllagpbbbdekiaa.Fw
-- %intro
