/- Plain laws: the pairs that the reference finds. No program. -/
import Derived.Test.YtadlnnjgocknhabN3
namespace Go.Proofs.Ytadlnnjgocknhab.Fw
set_option linter.unusedVariables false
set_option linter.unusedSimpArgs false
def grA (p : List Lf → Ang → Ang → Bool) (out : List Lf) (l : List Ang) : List Lf := gr p l.length out l
theorem grA_some {p : List Lf → Ang → Ang → Bool} {out : List Lf} {a b : Ang} {l l' : List Ang} (h : popP (p out a) l = some (b, l')) : grA p out (a :: l) = grA p (out ++ [(a, b)]) l' := by
  have := (popP_some h).2.2.1
  unfold grA
  rw [List.length_cons, gr, h]
  exact gr_fuel p _ _ _ _ (by omega) (Nat.le_refl _)
theorem grA_none {p : List Lf → Ang → Ang → Bool} {out : List Lf} {a : Ang} {l : List Ang} (h : popP (p out a) l = none) : grA p out (a :: l) = grA p out l := by
  unfold grA
  rw [List.length_cons, gr, h]
/-- The angles that are not used. -/
def rem : List Ang → List Bool → List Ang
  | a :: zs, u :: us => if u = true then rem zs us else a :: rem zs us
  | _, _ => []
theorem rem_app : ∀ (zs : List Ang) (us : List Bool) (zs' : List Ang) (us' : List Bool), zs.length = us.length → rem (zs ++ zs') (us ++ us') = rem zs us ++ rem zs' us'
  | [], [], zs', us', _ => by simp [rem]
  | [], u :: us, _, _, h => by simp at h
  | a :: zs, [], _, _, h => by simp at h
  | a :: zs, u :: us, zs', us', h => by
    have ih := rem_app zs us zs' us' (by simpa using h)
    simp only [List.cons_append, rem, ih]
    split <;> rfl
theorem rem_all : ∀ (zs : List Ang), rem zs (List.replicate zs.length false) = zs
  | [] => rfl
  | a :: zs => by simp [rem, List.replicate_succ, rem_all zs]
def remI (zs : List Ang) (us : List Bool) (i : Nat) : List Ang := rem (zs.drop i) (us.drop i)
theorem remI_step {zs : List Ang} {us : List Bool} {i : Nat} {d : Ang} (h : i < zs.length) (hl : us.length = zs.length) : remI zs us i = if us.getD i false = true then remI zs us (i + 1) else zs.getD i d :: remI zs us (i + 1) := by
  unfold remI
  rw [List.drop_eq_getElem_cons h, List.drop_eq_getElem_cons (l := us) (i := i) (by omega), rem, List.getD_eq_getElem?_getD, List.getD_eq_getElem?_getD, List.getElem?_eq_getElem h, List.getElem?_eq_getElem (by omega)]
  rfl
theorem remI_end {zs : List Ang} {us : List Bool} {i : Nat} (h : zs.length ≤ i) : remI zs us i = [] := by
  unfold remI
  rw [List.drop_of_length_le h]
  cases us.drop i <;> rfl
/-- The angles not used in a part. -/
def remP (zs : List Ang) (us : List Bool) (i k : Nat) : List Ang := rem ((zs.take k).drop i) ((us.take k).drop i)
theorem remP_split {zs : List Ang} {us : List Bool} {i k : Nat} (hl : us.length = zs.length) (h : i ≤ k) : remI zs us i = remP zs us i k ++ remI zs us k := by
  unfold remI remP
  rw [← rem_app _ _ _ _ (by simp; omega)]
  congr 1
  · have := List.take_append_drop (k - i) (zs.drop i)
    rw [List.drop_drop, show i + (k - i) = k by omega] at this
    rw [← this]
    congr 1
    rw [List.drop_take]
  · have := List.take_append_drop (k - i) (us.drop i)
    rw [List.drop_drop, show i + (k - i) = k by omega] at this
    rw [← this]
    congr 1
    rw [List.drop_take]
theorem remP_self (zs : List Ang) (us : List Bool) (i : Nat) : remP zs us i i = [] := by
  unfold remP
  rw [List.drop_of_length_le (by simp; omega)]
  cases (us.take i).drop i <;> rfl
theorem remP_succ {zs : List Ang} {us : List Bool} {i k : Nat} {d : Ang} (hl : us.length = zs.length) (h : i ≤ k) (hk : k < zs.length) : remP zs us i (k + 1) = remP zs us i k ++ (if us.getD k false = true then [] else [zs.getD k d]) := by
  unfold remP
  rw [List.take_add_one, List.take_add_one, List.getElem?_eq_getElem hk, List.getElem?_eq_getElem (by omega : k < us.length), List.drop_append_of_le_length (by simp; omega), List.drop_append_of_le_length (by simp; omega), rem_app _ _ _ _ (by simp; omega)]
  congr 1
  simp only [Option.toList_some, rem, List.getD_eq_getElem?_getD, List.getElem?_eq_getElem hk, List.getElem?_eq_getElem (by omega : k < us.length), Option.getD_some]
theorem remP_cut {zs : List Ang} {us : List Bool} {i k j : Nat} {b : Bool} (h : k ≤ j ∨ j < i) : remP zs (us.set j b) i k = remP zs us i k := by
  unfold remP
  congr 1
  rcases h with h | h
  · rw [List.take_set_of_le h]
  · rw [List.take_set, List.drop_set, if_pos h]
theorem remI_cut {zs : List Ang} {us : List Bool} {i j : Nat} {b : Bool} (h : j < i) : remI zs (us.set j b) i = remI zs us i := by
  unfold remI
  rw [List.drop_set, if_pos h]
/-- What is known between two angles of the reference's outer loop. -/
structure JoO (T : List Lf) (zs : List Ang) (out : List Lf) (us : List Bool) (i : Nat) : Prop where
  len : us.length = zs.length
  isL : ∀ x ∈ out, IsL x
  small : out.length ≤ i + 2000
  res : grA freeS out (remI zs us i) = T
/-- .. of its inner loop. -/
structure JoI (T : List Lf) (zs : List Ang) (out : List Lf) (us : List Bool) (i k : Nat) : Prop where
  len : us.length = zs.length
  isL : ∀ x ∈ out, IsL x
  small : out.length ≤ i + 1 + 2000
  ik : i < k
  alt : (us.getD i false = false ∧ out.length ≤ i + 2000 ∧ grA freeS out (zs.getD i (0, 0) :: remI zs us (i + 1)) = T ∧ ∀ x ∈ remP zs us (i + 1) k, freeS out (zs.getD i (0, 0)) x = false) ∨ (us.getD i false = true ∧ grA freeS out (remI zs us (i + 1)) = T)
theorem JoO.inner {T : List Lf} {zs : List Ang} {out : List Lf} {us : List Bool} {i : Nat} (h : JoO T zs out us i) (hi : i < zs.length) : JoI T zs out us i (i + 1) := by
  have hr := h.res
  rw [remI_step (d := (0, 0)) hi h.len] at hr
  refine ⟨h.len, h.isL, by have := h.small; omega, Nat.lt_succ_self _, ?_⟩
  cases hu : us.getD i false with
  | true => rw [hu, if_pos rfl] at hr; exact .inr ⟨rfl, hr⟩
  | false =>
    rw [hu, if_neg (by simp)] at hr
    exact .inl ⟨rfl, h.small, hr, fun x hx => by rw [remP_self] at hx; simp at hx⟩
theorem JoI.outer {T : List Lf} {zs : List Ang} {out : List Lf} {us : List Bool} {i k : Nat} (h : JoI T zs out us i k) (he : zs.length ≤ k ∨ us.getD i false = true) : JoO T zs out us (i + 1) := by
  refine ⟨h.len, h.isL, by have := h.small; omega, ?_⟩
  rcases h.alt with ⟨h1, _, h2, h3⟩ | ⟨_, h2⟩
  · rcases he with he | he
    · rw [grA_none (popP_none fun x hx => h3 x (by
        rw [remP_split h.len (i := i + 1) (k := k) (by have := h.ik; omega), remI_end he, List.append_nil] at hx; exact hx))] at h2
      exact h2
    · rw [h1] at he; cases he
  · exact h2
theorem JoI.skip {T : List Lf} {zs : List Ang} {out : List Lf} {us : List Bool} {i k : Nat} (h : JoI T zs out us i k) (hk : k < zs.length) (hf : us.getD k false = true ∨ freeS out (zs.getD i (0, 0)) (zs.getD k (0, 0)) = false) : JoI T zs out us i (k + 1) := by
  refine ⟨h.len, h.isL, h.small, by have := h.ik; omega, ?_⟩
  rcases h.alt with ⟨h1, h0, h2, h3⟩ | h2
  · refine .inl ⟨h1, h0, h2, fun x hx => ?_⟩
    rw [remP_succ (d := (0, 0)) h.len (by have := h.ik; omega) hk] at hx
    rcases List.mem_append.1 hx with hx | hx
    · exact h3 x hx
    · rcases hf with hf | hf
      · rw [if_pos hf] at hx; simp at hx
      · split at hx
        · simp at hx
        · rw [List.mem_singleton.1 hx]; exact hf
  · exact .inr h2
theorem JoI.take {T : List Lf} {zs : List Ang} {out : List Lf} {us : List Bool} {i k : Nat} (ha : Asc zs) (h : JoI T zs out us i k) (hk : k < zs.length) (hi : us.getD i false = false) (hu : us.getD k false = false) (hf : freeS out (zs.getD i (0, 0)) (zs.getD k (0, 0)) = true) :
    JoI T zs (out ++ [(zs.getD i (0, 0), zs.getD k (0, 0))]) ((us.set i true).set k true) i (k + 1) := by
  have hik := h.ik
  have gi : zs.getD i (0, 0) = zs[i] := by rw [List.getD_eq_getElem?_getD, List.getElem?_eq_getElem (by omega)]; rfl
  have gk : zs.getD k (0, 0) = zs[k] := by rw [List.getD_eq_getElem?_getD, List.getElem?_eq_getElem hk]; rfl
  rcases h.alt with ⟨h1, h0, h2, h3⟩ | ⟨h2, _⟩
  · refine ⟨by simp [h.len], snoc_isL h.isL ?_, by simp; omega, by omega, .inr ⟨?_, ?_⟩⟩
    · rw [gi, gk]
      exact ⟨ha.isA _ (List.getElem_mem _), ha.isA _ (List.getElem_mem _), List.pairwise_iff_getElem.1 ha.asc i k _ _ hik⟩
    · rw [List.getD_eq_getElem?_getD, List.getElem?_set_ne (by omega), List.getElem?_set_self (by have := h.len; omega)]; rfl
    · have e : remI zs us (i + 1) = remP zs us (i + 1) k ++ zs.getD k (0, 0) :: remI zs us (k + 1) := by
        rw [remP_split h.len (i := i + 1) (k := k) (by omega), remI_step (d := (0, 0)) hk h.len, hu, if_neg (by simp)]
      rw [e, grA_some (b := zs.getD k (0, 0)) (l' := remP zs us (i + 1) k ++ remI zs us (k + 1)) (by rw [popP_app _ h3, popP, if_pos hf]; rfl)] at h2
      rw [← h2]
      congr 1
      have hl : ((us.set i true).set k true).length = zs.length := by simp [h.len]
      rw [remP_split hl (i := i + 1) (k := k) (by omega), remP_cut (.inl (Nat.le_refl _)), remP_cut (.inr (by omega))]
      congr 1
      rw [remI_step (d := (0, 0)) hk hl, if_pos (by rw [List.getD_eq_getElem?_getD, List.getElem?_set_self (by simp; have := h.len; omega)]; rfl), remI_cut (by omega), remI_cut (by omega)]
  · rw [hi] at h2; cases h2
theorem JoO.start {m : Nat} (h : m < 7) (hl : (prN m).length ≤ 2000) : JoO (prN (m + 1)) (angsN (m + 2)) (prN m) (List.replicate (angsN (m + 2)).length false) 0 := by
  have ha := angs_asc (n := m + 2) (by omega) (by omega)
  refine ⟨by simp, prN_isL (by omega), by omega, ?_⟩
  unfold remI
  rw [List.drop_zero, List.drop_zero, rem_all]
  unfold grA
  rw [(gr_congr (q := freeQ) freeS_Q _ _ _ (prN_isL (by omega)) ha).1, gr_fuel freeQ _ 256 _ _ (Nat.le_refl _) (angs_len _ (by omega))]
  rfl
theorem JoO.done {T : List Lf} {zs : List Ang} {out : List Lf} {us : List Bool} {i : Nat} (h : JoO T zs out us i) (hi : zs.length ≤ i) : out = T := by
  have := h.res
  rwa [remI_end hi] at this
end Go.Proofs.Ytadlnnjgocknhab.Fw
