/- The effect of an operation, whichever it is, is what the machine comes to. -/
import Derived.Test.YtlplngafncobkaaFwL
namespace Go.Proofs.Ytlplngafncobkaa.Fw
open Go Go.RowKit
set_option linter.unusedVariables false
set_option linter.unusedSimpArgs false

variable {E : Env} {T : TypeId → Option TInfo} {G : List (FuncId × PCtr)} {hg : Nat → Option (List AVal)} {rg : Nat → Option Row} {lb lr : Nat} {fr : List AVal} {k : Eff → Prop}

theorem withs_eq' {fr : List AVal} {l : List Operand} {k : List AVal → Prop} (h : withs fr l k) : ∃ vs, k vs ∧ (vs.length = l.length ∧ ∀ A (ρ : Operand → Value), (∀ x ∈ l, ∀ v, ev fr x = some v → ρ x = v.den A) → l.map ρ = dens A vs) := by
  obtain ⟨vs, h1, h2, h3⟩ := withs_eq fr l k h
  exact ⟨vs, h1, h2, h3⟩

theorem opEff_sound (hT : TOk E.P T) (hG : GOk E.P G) {o : Oper} (h : opEff T G hg rg lb lr fr o.op k) : Good E hg rg lb lr fr o k := by
  obtain ⟨dst, op, ty, pos, after, guard⟩ := o
  simp only at h
  unfold opEff at h
  split at h
  · replace h := with1_eq h; obtain ⟨v, hv, h⟩ := h; exact move_good hv h
  · replace h := with1_eq h; obtain ⟨v, hv, h⟩ := h; exact assign_good hv h
  · replace h := with1_eq h; obtain ⟨v, hv, h⟩ := h
    split at h
    · exact pick_good hv h
    · exact h.elim
  · rename_i t
    cases ht : T t with
    | none => simp [ht] at h
    | some i => simp only [ht, copyK_eq] at h; exact alloc_good hT ht h
  · replace h := with1_eq h; obtain ⟨v, hv, h⟩ := h; exact box_good hv h
  · rename_i t ps
    cases ht : T t with
    | none => simp [ht] at h
    | some i =>
      simp only [ht] at h
      split at h
      · rename_i fs hd
        split at h
        · rename_i hk; rw [copyK_eq] at h; exact build_good hT ht hd hk h
        · exact h.elim
      · exact h.elim
  · rename_i t n ps
    cases ht : T t with
    | none => simp [ht] at h
    | some i =>
      simp only [ht] at h
      split at h
      · rename_i e hd
        cases he : T e with
        | none => simp [he] at h
        | some ie =>
          simp only [he] at h
          cases hc : ie.ty with
          | none => simp [hc] at h
          | some c => simp only [hc] at h; exact buildSlice_good hT ht hd he hc h
      · exact h.elim
  · rename_i t x
    replace h := with1_eq h; obtain ⟨v, hv, h⟩ := h
    cases ht : T t with
    | none => simp [ht] at h
    | some i => simp only [ht] at h; exact load_good hT hv ht h
  · rename_i s x f
    replace h := with1_eq h; obtain ⟨v, hv, h⟩ := h
    cases ht : T s with
    | none => simp [ht] at h
    | some i => simp only [ht] at h; exact fieldAddr_good hT hv ht h
  · rename_i s x f
    replace h := with1_eq h; obtain ⟨v, hv, h⟩ := h
    split at h
    · rename_i cs
      cases ht : T s with
      | none => simp [ht] at h
      | some i => simp only [ht] at h; exact field_good hT hv ht h
    · exact h.elim
  · rename_i t x i
    replace h := with1_eq h; obtain ⟨v, hv, h⟩ := h
    replace h := with1_eq h; obtain ⟨n, hn, h⟩ := h
    split at h
    · rename_i r kd n'
      cases hr : rg r with
      | none => simp [hr] at h
      | some row =>
        obtain ⟨c, e, own, xs⟩ := row
        simp only [hr] at h
        cases ht : T t with
        | none => simp [ht] at h
        | some ti =>
          simp only [ht] at h
          split at h
          · rename_i e' hd
            cases he : T e' with
            | none => simp [he] at h
            | some ei =>
              simp only [he] at h
              split at h
              · exact indexAddr_good hT hv hn hr ht hd he h.1 h.2
              · exact h.elim
          · exact h.elim
    · exact h.elim
  · rename_i t x i
    replace h := with1_eq h; obtain ⟨v, hv, h⟩ := h
    replace h := with1_eq h; obtain ⟨n, hn, h⟩ := h
    split at h
    · cases ht : T t with
      | none => simp [ht] at h
      | some ti =>
        simp only [ht] at h
        split at h
        · rename_i hd; exact index_good hT hv hn ht hd h.1 h.2
        · exact h.elim
    · exact h.elim
  · rename_i op t x y yt
    replace h := with1_eq h; obtain ⟨v, hv, h⟩ := h
    replace h := with1_eq h; obtain ⟨u, hu, h⟩ := h
    split at h
    · split at h
      · exact eqOp_good hT hv hu false (.inl ⟨_, _, rfl, rfl⟩) (by simpa using h)
      · exact eqOp_good hT hv hu true (.inl ⟨_, _, rfl, rfl⟩) (by simpa using h)
      · exact h.elim
    · split at h
      · exact eqOp_good hT hv hu false (.inr ⟨_, _, rfl, rfl⟩) (by simpa using h)
      · exact eqOp_good hT hv hu true (.inr ⟨_, _, rfl, rfl⟩) (by simpa using h)
      · exact h.elim
    · exact evBin_good hv hu h
  · replace h := with1_eq h; obtain ⟨v, hv, h⟩ := h; exact unOp_good hv h
  · rename_i s d x
    replace h := with1_eq h; obtain ⟨v, hv, h⟩ := h
    split at h
    · cases hs : T s with
      | none => simp [hs] at h
      | some si =>
        simp only [hs] at h
        cases hd : T d with
        | none => simp [hd] at h
        | some di =>
          simp only [hd] at h
          split at h
          · rename_i kd hdd; exact convert_good hT hv hs hd hdd h.1 h.2
          · exact h.elim
    · exact h.elim
  · exact makeFunc_good h
  · replace h := with1_eq h; obtain ⟨v, hv, h⟩ := h
    split at h
    · rename_i vs
      split at h
      · rename_i u hn; exact extract_good hv hn h
      · exact h.elim
    · exact h.elim
  · rename_i t x lo hi
    replace h := with1_eq h; obtain ⟨v, hv, h⟩ := h
    split at h
    · rename_i s
      cases ht : T t with
      | none => simp [ht] at h
      | some ti =>
        simp only [ht] at h
        split at h
        · rename_i hd
          split at h
          · refine slice_good hT hv ht hd 0 s.size h (fun ρ _ _ P w => by simp [Instr.sliceBounds]) ⟨fun y hy => by simp at hy, fun y hy => by simp at hy⟩
          · rename_i lo
            replace h := with1_eq h; obtain ⟨l, hl, h⟩ := h
            split at h
            · rename_i kd l
              refine slice_good hT hv ht hd l.toNat s.size h.2 (fun ρ h1 _ P w => ?_) ⟨fun y hy => ⟨kd, l, by cases hy; exact hl⟩, fun y hy => by simp at hy⟩
              have e1 := h1 lo rfl _ hl
              simp only [AVal.den] at e1
              simp [Instr.sliceBounds, e1, bound_ok P w kd l s.size .sliceB h.1]
            · exact h.elim
          · rename_i hi
            replace h := with1_eq h; obtain ⟨l, hl, h⟩ := h
            split at h
            · rename_i kd l
              refine slice_good hT hv ht hd 0 l.toNat h.2 (fun ρ _ h1 P w => ?_) ⟨fun y hy => by simp at hy, fun y hy => ⟨kd, l, by cases hy; exact hl⟩⟩
              have e1 := h1 hi rfl _ hl
              simp only [AVal.den] at e1
              simp [Instr.sliceBounds, e1, bound_ok P w kd l s.size .sliceAlen h.1]
            · exact h.elim
          · rename_i lo hi
            replace h := with1_eq h; obtain ⟨l, hl, h⟩ := h
            replace h := with1_eq h; obtain ⟨g, hg', h⟩ := h
            split at h
            · rename_i kd l kd' g
              refine slice_good hT hv ht hd l.toNat g.toNat h.2 (fun ρ h1 h2 P w => ?_) ⟨fun y hy => ⟨kd, l, by cases hy; exact hl⟩, fun y hy => ⟨kd', g, by cases hy; exact hg'⟩⟩
              have e1 := h1 lo rfl _ hl
              have e2 := h2 hi rfl _ hg'
              simp only [AVal.den] at e1 e2
              obtain ⟨⟨c1, c2, c3⟩, _⟩ := h
              simp [Instr.sliceBounds, e1, e2, bound_ok P w kd' g s.size .sliceAlen ⟨by omega, c3⟩, bound_ok P w kd l g.toNat .sliceB ⟨c1, by omega⟩]
            · exact h.elim
        · exact h.elim
    · rename_i r
      cases hr : rg r with
      | none => simp [hr] at h
      | some row =>
        obtain ⟨c, e, own, xs⟩ := row
        cases own
        case true => simp [hr] at h
        case false =>
        simp only [hr] at h
        cases ht : T t with
        | none => simp [ht] at h
        | some ti =>
          simp only [ht] at h
          split at h
          · rename_i e' hd
            cases he : T e' with
            | none => simp [he] at h
            | some ei =>
              simp only [he] at h
              split at h
              · rename_i hsz
                have hsz := Nat.eq_of_beq_eq_true hsz
                split at h
                · refine rowSlice_good hT hv hr ht hd he hsz 0 xs.length ⟨Nat.zero_le _, Nat.le_refl _⟩ (by simp) h (fun ρ _ _ P w cap hcap => by simp [Instr.sliceBounds]) ⟨fun y hy => by simp at hy, fun y hy => by simp at hy⟩
                · rename_i lo
                  replace h := with1_eq h; obtain ⟨l, hl, h⟩ := h
                  split at h
                  · rename_i kd l
                    refine rowSlice_good hT hv hr ht hd he hsz l.toNat xs.length ⟨by omega, Nat.le_refl _⟩ (by simp) h.2 (fun ρ h1 _ P w cap hcap => ?_) ⟨fun y hy => ⟨kd, l, by cases hy; exact hl⟩, fun y hy => by simp at hy⟩
                    have e1 := h1 lo rfl _ hl
                    simp only [AVal.den] at e1
                    simp [Instr.sliceBounds, e1, bound_ok P w kd l xs.length .sliceB h.1]
                  · exact h.elim
                · rename_i hi
                  replace h := with1_eq h; obtain ⟨l, hl, h⟩ := h
                  split at h
                  · rename_i kd l
                    refine rowSlice_good hT hv hr ht hd he hsz 0 l.toNat ⟨Nat.zero_le _, by omega⟩ rfl h.2 (fun ρ _ h1 P w cap hcap => ?_) ⟨fun y hy => by simp at hy, fun y hy => ⟨kd, l, by cases hy; exact hl⟩⟩
                    have e1 := h1 hi rfl _ hl
                    simp only [AVal.den] at e1
                    simp [Instr.sliceBounds, e1, bound_ok P w kd l cap .sliceAcap ⟨h.1.1, by omega⟩]
                  · exact h.elim
                · rename_i lo hi
                  replace h := with1_eq h; obtain ⟨l, hl, h⟩ := h
                  replace h := with1_eq h; obtain ⟨g, hg', h⟩ := h
                  split at h
                  · rename_i kd l kd' g
                    obtain ⟨⟨c1, c2, c3⟩, h⟩ := h
                    refine rowSlice_good hT hv hr ht hd he hsz l.toNat g.toNat ⟨by omega, by omega⟩ rfl h (fun ρ h1 h2 P w cap hcap => ?_) ⟨fun y hy => ⟨kd, l, by cases hy; exact hl⟩, fun y hy => ⟨kd', g, by cases hy; exact hg'⟩⟩
                    have e1 := h1 lo rfl _ hl
                    have e2 := h2 hi rfl _ hg'
                    simp only [AVal.den] at e1 e2
                    simp [Instr.sliceBounds, e1, e2, bound_ok P w kd' g cap .sliceAcap ⟨by omega, by omega⟩, bound_ok P w kd l g.toNat .sliceB ⟨c1, by omega⟩]
                  · exact h.elim
              · exact h.elim
          · exact h.elim
    · exact h.elim
  · rename_i t l0 c0
    replace h := with1_eq h; obtain ⟨l, hl, h⟩ := h
    replace h := with1_eq h; obtain ⟨c', hc', h⟩ := h
    split at h
    · rename_i kl n kc m
      cases ht : T t with
      | none => simp [ht] at h
      | some i =>
        simp only [ht] at h
        split at h
        · rename_i e hd
          cases he : T e with
          | none => simp [he] at h
          | some ie =>
            simp only [he] at h
            cases hc : ie.ty with
            | none => simp [hc] at h
            | some c => simp only [hc] at h; exact makeSlice_good hT hl hc' ht hd he hc h
        · exact h.elim
    · exact h.elim
  · replace h := with1_eq h; obtain ⟨v, hv, h⟩ := h
    split at h
    · exact nilCheck_good hv h
    · exact h.elim
  · replace h := with1_eq h; obtain ⟨g, hg', h⟩ := h
    replace h := withs_eq' h; obtain ⟨vs, h, hvs⟩ := h
    split at h
    · rename_i g fs cs
      split at h
      · rename_i c hl; exact call_good hG hg' hvs.2 hl h
      · exact h.elim
    · exact h.elim
  · replace h := withs_eq' h; obtain ⟨vs, h, hvs⟩ := h
    split at h
    · rename_i v
      split at h
      · rename_i t ha
        cases ht : T t with
        | none => simp [ht] at h
        | some ti =>
          simp only [ht] at h
          split at h
          · rename_i r e hd
            split at h
            · rename_i c e own xs hr
              exact len_row_good hT hvs rfl ha ht hd hr h
            · exact h.elim
          · rename_i s hd; exact len_str_good hT hvs rfl ha ht hd h
          · rename_i e hd; exact len_nil_good hT hvs rfl ha ht hd h
          · exact h.elim
      · exact h.elim
    · exact h.elim
  · replace h := withs_eq' h; obtain ⟨vs, h, hvs⟩ := h
    split at h
    · split at h
      · rename_i hk; obtain rfl := sameK_eq hk
        exact mm_good (.inl rfl) hvs rfl (by simpa using h)
      · exact h.elim
    · exact h.elim
  · replace h := withs_eq' h; obtain ⟨vs, h, hvs⟩ := h
    split at h
    · split at h
      · rename_i hk; obtain rfl := sameK_eq hk
        exact mm_good (.inr rfl) hvs rfl (by simpa using h)
      · exact h.elim
    · exact h.elim
  · exact h.elim

end Go.Proofs.Ytlplngafncobkaa.Fw
