/- The effect of an operation, whichever it is, is what the machine comes to. -/
import Derived.Test.YtlplngafncobkaaFwL
namespace Go.Proofs.Ytlplngafncobkaa.Fw
open Go Go.RowKit
set_option linter.unusedVariables false
set_option linter.unusedSimpArgs false

variable {E : Env} {T : TypeId → Option TInfo} {G : List (FuncId × Ctr)} {hg : Nat → Option (List AVal)} {rg : Nat → Option Row} {lb lr : Nat} {fr : List AVal} {k : Eff → Prop}

theorem withs_eq' {fr : List AVal} {l : List Operand} {k : List AVal → Prop} (h : withs fr l k) : ∃ vs, k vs ∧ (vs.length = l.length ∧ ∀ A (ρ : Operand → Value), (∀ x ∈ l, ∀ v, ev fr x = some v → ρ x = v.den A) → l.map ρ = dens A vs) := by
  obtain ⟨vs, h1, h2, h3⟩ := withs_eq fr l k h
  exact ⟨vs, h1, h2, h3⟩

theorem opEff_sound (hT : TOk E.P T) (hG : GOk E.P G) {o : Oper} (h : opEff T G hg rg lb lr fr o.op k) : Good E hg rg lb lr fr o k := by
  obtain ⟨dst, op, ty, pos, after, guard⟩ := o
  simp only at h
  unfold opEff at h
  split at h
  · replace h := with1_eq h; obtain ⟨v, hv, h⟩ := h; exact move_good hv h
  · replace h := with1_eq h; obtain ⟨v, hv, h⟩ := h; exact assign_good hv h
  · replace h := with1_eq h; obtain ⟨v, hv, h⟩ := h
    split at h
    · exact pick_good hv h
    · exact h.elim
  · rename_i t
    cases ht : T t with
    | none => simp [ht] at h
    | some i => simp only [ht, copyK_eq] at h; exact alloc_good hT ht h
  · replace h := with1_eq h; obtain ⟨v, hv, h⟩ := h; exact box_good hv h
  · rename_i t ps
    cases ht : T t with
    | none => simp [ht] at h
    | some i =>
      simp only [ht] at h
      split at h
      · rename_i fs hd
        split at h
        · rename_i hk; rw [copyK_eq] at h; exact build_good hT ht hd hk h
        · exact h.elim
      · exact h.elim
  · rename_i t n ps
    cases ht : T t with
    | none => simp [ht] at h
    | some i =>
      simp only [ht] at h
      split at h
      · rename_i e hd
        cases he : T e with
        | none => simp [he] at h
        | some ie =>
          simp only [he] at h
          cases hc : ie.ty with
          | none =>
            simp only [hc] at h
            split at h
            · rename_i h1s hds; exact buildSliceB_good hT ht hd he h1s h
            · exact h.elim
          | some c => simp only [hc] at h; exact buildSlice_good hT ht hd he hc h
      · exact h.elim
  · rename_i t x
    replace h := with1_eq h; obtain ⟨v, hv, h⟩ := h
    cases ht : T t with
    | none => simp [ht] at h
    | some i => simp only [ht] at h; exact load_good hT hv ht h
  · rename_i s x f
    replace h := with1_eq h; obtain ⟨v, hv, h⟩ := h
    cases ht : T s with
    | none => simp [ht] at h
    | some i => simp only [ht] at h; exact fieldAddr_good hT hv ht h
  · rename_i s x f
    replace h := with1_eq h; obtain ⟨v, hv, h⟩ := h
    split at h
    · rename_i cs
      cases ht : T s with
      | none => simp [ht] at h
      | some i => simp only [ht] at h; exact field_good hT hv ht h
    · exact h.elim
  · rename_i t x i
    replace h := with1_eq h; obtain ⟨v, hv, h⟩ := h
    replace h := with1_eq h; obtain ⟨n, hn, h⟩ := h
    split at h
    · rename_i kd n'
      cases ht : T t with
      | none => simp [ht] at h
      | some ti =>
        simp only [ht] at h
        split at h
        · rename_i e' hd
          cases he : T e' with
          | none => simp [he] at h
          | some ei =>
            simp only [he] at h
            split at h
            · rename_i r
              split at h
              · rename_i c e own xs hr
                split at h
                · rename_i hsz
                  have hsz := Nat.eq_of_beq_eq_true hsz
                  refine indexAddr_good hT hv hn ht hd he h.2 fun A hp rw w hm hrg => ?_
                  obtain ⟨hra, _⟩ := hm.row r _ (hrg _ _ hr)
                  have hlen : (A.rw r).len = xs.length := hra.len
                  obtain ⟨a, ha⟩ := hra.there (i := n'.toNat) (by show n'.toNat < xs.length; omega)
                  exact ⟨A.rw r, a, rfl, ha, by rw [hlen]; exact h.1, by simp only [AVal.den, Hdr.ptr, ha, Option.getD_some, Nat.add_zero]⟩
                · exact h.elim
              · exact h.elim
            · rename_i r lo m sz
              split at h
              · rename_i c e own xs hr
                split at h
                · rename_i hsz hsz2
                  have hsz := Nat.eq_of_beq_eq_true hsz
                  have hsz2 := Nat.eq_of_beq_eq_true hsz2
                  obtain ⟨⟨c1, c2, c3⟩, h⟩ := h
                  refine indexAddr_good hT hv hn ht hd he h fun A hp rw w hm hrg => ?_
                  obtain ⟨hra, _⟩ := hm.row r _ (hrg _ _ hr)
                  have hlen : (A.rw r).len = xs.length := hra.len
                  have hcap := hra.cap
                  obtain ⟨a, ha⟩ := hra.there (i := lo + n'.toNat) (by show lo + n'.toNat < xs.length; omega)
                  refine ⟨(A.rw r).view lo m sz, a.add (lo * sz), rfl, ?_, ⟨c1, c2⟩, ?_⟩
                  · show (if (A.rw r).cap = lo then (A.rw r).a else (A.rw r).a.map (·.add (lo * sz))) = _
                    rw [if_neg (by omega), ha]; rfl
                  · simp only [AVal.den, Hdr.ptr, ha, Option.getD_some, Nat.add_zero, add_add, hsz, hsz2, Nat.add_mul]
                · exact h.elim
              · exact h.elim
            · rename_i r i0
              split at h
              · rename_i c e1 e own yss hr
                split at h
                · rename_i hsz
                  obtain ⟨⟨c1, c2, c3⟩, h⟩ := h
                  refine indexAddr_good hT hv hn ht hd he h fun A hp rw w hm hrg => ?_
                  obtain ⟨hra, _⟩ := hm.row r _ (hrg _ _ hr)
                  have hin := hra.inner c3
                  have hlen : (A.inn r i0).len = (@List.getD (List c.α) yss i0 []).length := hin.len
                  obtain ⟨a, ha⟩ := hin.there (i := n'.toNat) (by show n'.toNat < (@List.getD (List c.α) yss i0 []).length; omega)
                  exact ⟨A.inn r i0, a, rfl, ha, by rw [hlen]; exact ⟨c1, c2⟩, by simp only [AVal.den, Hdr.ptr, ha, Option.getD_some, Nat.add_zero]⟩
                · exact h.elim
              · exact h.elim
            · exact h.elim
        · exact h.elim
    · exact h.elim
  · rename_i t x i
    replace h := with1_eq h; obtain ⟨v, hv, h⟩ := h
    replace h := with1_eq h; obtain ⟨n, hn, h⟩ := h
    split at h
    · cases ht : T t with
      | none => simp [ht] at h
      | some ti =>
        simp only [ht] at h
        split at h
        · rename_i hd; exact index_good hT hv hn ht hd h.1 h.2
        · exact h.elim
    · exact h.elim
  · rename_i op t x y yt
    replace h := with1_eq h; obtain ⟨v, hv, h⟩ := h
    replace h := with1_eq h; obtain ⟨u, hu, h⟩ := h
    split at h
    · split at h
      · exact eqOp_good hT hv hu false (.inl ⟨_, _, rfl, rfl⟩) (by simpa using h)
      · exact eqOp_good hT hv hu true (.inl ⟨_, _, rfl, rfl⟩) (by simpa using h)
      · exact h.elim
    · split at h
      · exact eqOp_good hT hv hu false (.inr ⟨_, _, rfl, rfl⟩) (by simpa using h)
      · exact eqOp_good hT hv hu true (.inr ⟨_, _, rfl, rfl⟩) (by simpa using h)
      · exact h.elim
    · exact evBin_good hv hu h
  · replace h := with1_eq h; obtain ⟨v, hv, h⟩ := h; exact unOp_good hv h
  · rename_i s d x
    replace h := with1_eq h; obtain ⟨v, hv, h⟩ := h
    cases hs : T s with
    | none => simp [hs] at h
    | some si =>
      simp only [hs] at h
      cases hd : T d with
      | none => simp [hd] at h
      | some di =>
        simp only [hd] at h
        split at h
        · rename_i kd kd0 n hdd; exact convert_good hT hv hs hd hdd h.1 h.2
        · rename_i r hdd
          split at h
          · rename_i e hsd
            cases he : T e with
            | none => simp [he] at h
            | some ei =>
              simp only [he] at h
              split at h
              · rename_i hed
                split at h
                · rename_i e0 own xs hr
                  exact bytesToStr_good hT hv hs hd hdd hsd he hed (fun A hp rw w hm hrg => ⟨_, e0, own, rfl, (hm.row r _ (hrg _ _ hr)).1.flat rfl⟩) h
                · exact h.elim
              · exact h.elim
          · exact h.elim
        · rename_i r lo n hdd
          split at h
          · rename_i e hsd
            cases he : T e with
            | none => simp [he] at h
            | some ei =>
              simp only [he] at h
              split at h
              · rename_i hed
                split at h
                · rename_i e0 own xs hr
                  refine bytesToStr_good hT hv hs hd hdd hsd he hed (fun A hp rw w hm hrg => ⟨_, e0, false, rfl, ?_⟩) h.2
                  exact ((hm.row r _ (hrg _ _ hr)).1.flat rfl).view lo n h.1
                · exact h.elim
              · exact h.elim
          · exact h.elim
        · rename_i e b hdd
          cases he : T e with
          | none => simp [he] at h
          | some ei =>
            simp only [he] at h
            split at h
            · rename_i hed
              split at h
              · rename_i hsd; exact strToBytes_good hT hv hs hd hdd he hed hsd h
              · exact h.elim
            · exact h.elim
        · exact h.elim
  · exact makeFunc_good h
  · replace h := with1_eq h; obtain ⟨v, hv, h⟩ := h
    split at h
    · rename_i vs
      split at h
      · rename_i u hn; exact extract_good hv hn h
      · exact h.elim
    · exact h.elim
  · rename_i t x lo hi
    replace h := with1_eq h; obtain ⟨v, hv, h⟩ := h
    split at h
    · rename_i s
      cases ht : T t with
      | none => simp [ht] at h
      | some ti =>
        simp only [ht] at h
        split at h
        · rename_i hd
          split at h
          · refine slice_good hT hv ht hd 0 s.size h (fun ρ _ _ P w => by simp [Instr.sliceBounds]) ⟨fun y hy => by simp at hy, fun y hy => by simp at hy⟩
          · rename_i lo
            replace h := with1_eq h; obtain ⟨l, hl, h⟩ := h
            split at h
            · rename_i kd l
              refine slice_good hT hv ht hd l.toNat s.size h.2 (fun ρ h1 _ P w => ?_) ⟨fun y hy => ⟨kd, l, by cases hy; exact hl⟩, fun y hy => by simp at hy⟩
              have e1 := h1 lo rfl _ hl
              simp only [AVal.den] at e1
              simp [Instr.sliceBounds, e1, bound_ok P w kd l s.size .sliceB h.1]
            · exact h.elim
          · rename_i hi
            replace h := with1_eq h; obtain ⟨l, hl, h⟩ := h
            split at h
            · rename_i kd l
              refine slice_good hT hv ht hd 0 l.toNat h.2 (fun ρ _ h1 P w => ?_) ⟨fun y hy => by simp at hy, fun y hy => ⟨kd, l, by cases hy; exact hl⟩⟩
              have e1 := h1 hi rfl _ hl
              simp only [AVal.den] at e1
              simp [Instr.sliceBounds, e1, bound_ok P w kd l s.size .sliceAlen h.1]
            · exact h.elim
          · rename_i lo hi
            replace h := with1_eq h; obtain ⟨l, hl, h⟩ := h
            replace h := with1_eq h; obtain ⟨g, hg', h⟩ := h
            split at h
            · rename_i kd l kd' g
              refine slice_good hT hv ht hd l.toNat g.toNat h.2 (fun ρ h1 h2 P w => ?_) ⟨fun y hy => ⟨kd, l, by cases hy; exact hl⟩, fun y hy => ⟨kd', g, by cases hy; exact hg'⟩⟩
              have e1 := h1 lo rfl _ hl
              have e2 := h2 hi rfl _ hg'
              simp only [AVal.den] at e1 e2
              obtain ⟨⟨c1, c2, c3⟩, _⟩ := h
              simp [Instr.sliceBounds, e1, e2, bound_ok P w kd' g s.size .sliceAlen ⟨by omega, c3⟩, bound_ok P w kd l g.toNat .sliceB ⟨c1, by omega⟩]
            · exact h.elim
        · exact h.elim
    · rename_i r
      cases ht : T t with
      | none => simp [ht] at h
      | some ti =>
        simp only [ht] at h
        split at h
        · rename_i e' hd
          cases he : T e' with
          | none => simp [he] at h
          | some ei =>
            simp only [he] at h
            split at h
            · rename_i c e own xs hr
              split at h
              · rename_i hcl hsz
                have hsz := Nat.eq_of_beq_eq_true hsz
                split at h
                · exact rowSlice_good hT hv hr hcl ht hd he hsz h
                · exact ownSlice_good hT hv hr ht hd he h
              · exact h.elim
            · exact h.elim
        · exact h.elim
    · rename_i r a0 n0 sz
      cases ht : T t with
      | none => simp [ht] at h
      | some ti =>
        simp only [ht] at h
        split at h
        · rename_i e' hd
          cases he : T e' with
          | none => simp [he] at h
          | some ei =>
            simp only [he] at h
            split at h
            · rename_i c e own xs hr
              split at h
              · rename_i hcl hsz hsz2
                have hsz := Nat.eq_of_beq_eq_true hsz
                have hsz2 := Nat.eq_of_beq_eq_true hsz2
                subst hsz2
                rw [← hsz] at hv
                exact vwSlice_good hT hv hr ht hd he h.1 h.2
              · exact h.elim
            · exact h.elim
        · exact h.elim
    · exact h.elim
  · rename_i t l0 c0
    replace h := with1_eq h; obtain ⟨l, hl, h⟩ := h
    replace h := with1_eq h; obtain ⟨c', hc', h⟩ := h
    split at h
    · rename_i kl n kc m
      cases ht : T t with
      | none => simp [ht] at h
      | some i =>
        simp only [ht] at h
        split at h
        · rename_i e hd
          cases he : T e with
          | none => simp [he] at h
          | some ie =>
            simp only [he] at h
            cases hc : ie.ty with
            | none =>
              simp only [hc] at h
              split at h
              · rename_i e2 hds
                cases he2 : T e2 with
                | none => simp [he2] at h
                | some ie2 =>
                  simp only [he2] at h
                  split at h
                  · rename_i c hc2
                    split at h
                    · rename_i hz0; exact makeRows_good hT hl hc' ht hd he hz0 h
                    · exact h.elim
                  · exact h.elim
              · exact h.elim
            | some c => simp only [hc] at h; exact makeSlice_good hT hl hc' ht hd he hc h
        · exact h.elim
    · exact h.elim
  · replace h := with1_eq h; obtain ⟨v, hv, h⟩ := h
    split at h
    · exact nilCheck_good hv h
    · exact h.elim
  · replace h := with1_eq h; obtain ⟨g, hg', h⟩ := h
    replace h := withs_eq' h; obtain ⟨vs, h, hvs⟩ := h
    split at h
    · rename_i g fs cs
      split at h
      · rename_i c hl; exact call_good hG hg' hvs.2 hl h
      · exact h.elim
    · exact h.elim
  · replace h := withs_eq' h; obtain ⟨vs, h, hvs⟩ := h
    split at h
    · rename_i v
      split at h
      · rename_i t ha
        cases ht : T t with
        | none => simp [ht] at h
        | some ti =>
          simp only [ht] at h
          split at h
          · rename_i r e hd
            split at h
            · rename_i c e own xs hr
              exact len_slice_good hT hvs rfl ha ht hd h (fun A hp rw w hm hrg => ⟨(A.rw r).a, (A.rw r).cap, by
                have := (hm.row r _ (hrg _ _ hr)).1.len
                simp only [AVal.den, Hdr.val, this]⟩)
            · exact h.elim
          · rename_i r lo n sz e hd
            exact len_slice_good hT hvs rfl ha ht hd h (fun A hp rw w hm hrg => ⟨_, _, rfl⟩)
          · rename_i i n e hd
            exact len_slice_good hT hvs rfl ha ht hd h (fun A hp rw w hm hrg => ⟨_, _, rfl⟩)
          · rename_i r i e hd
            split at h
            · rename_i c e1 e2 own yss hr
              exact len_slice_good hT hvs rfl ha ht hd h.2 (fun A hp rw w hm hrg => ⟨(A.inn r i).a, (A.inn r i).cap, by
                have := ((hm.row r _ (hrg _ _ hr)).1.inner h.1).len
                simp only [AVal.den, Hdr.val, this]⟩)
            · exact h.elim
          · rename_i s hd; exact len_str_good hT hvs rfl ha ht hd h
          · rename_i e hd; exact len_nil_good hT hvs rfl ha ht hd h
          · exact h.elim
      · exact h.elim
    · exact h.elim
  · replace h := withs_eq' h; obtain ⟨vs, h, hvs⟩ := h
    split at h
    · split at h
      · rename_i hk; obtain rfl := sameK_eq hk
        exact mm_good (.inl rfl) hvs rfl (by simpa using h)
      · exact h.elim
    · exact h.elim
  · replace h := withs_eq' h; obtain ⟨vs, h, hvs⟩ := h
    split at h
    · split at h
      · rename_i hk; obtain rfl := sameK_eq hk
        exact mm_good (.inr rfl) hvs rfl (by simpa using h)
      · exact h.elim
    · exact h.elim
  · exact h.elim

end Go.Proofs.Ytlplngafncobkaa.Fw
