/- The walk by reckoning is sound: pieces of code one behind the other. -/
import Derived.Test.YtlplngafncobkaaFwM
import Derived.Laws.CopyRow
import Derived.Laws.Tables
namespace Go.Proofs.Ytlplngafncobkaa.Fw
open Go Go.RowKit
set_option linter.unusedVariables false
set_option linter.unusedSimpArgs false

mutual
theorem AVal.sc_mono {nb nb' nr nr' : Nat} (h1 : nb ≤ nb') (h2 : nr ≤ nr') : ∀ x : AVal, x.sc nb [] nr [] = true → x.sc nb' [] nr' [] = true
  | .loc i _, h => by simp only [AVal.sc, lvl_eq, List.not_mem_nil, or_false] at h ⊢; omega
  | .ele k _ _ _, h => by simp only [AVal.sc, lvl_eq, List.not_mem_nil, or_false] at h ⊢; omega
  | .row k, h => by simp only [AVal.sc, lvl_eq, List.not_mem_nil, or_false] at h ⊢; omega
  | .irow k _, h => by simp only [AVal.sc, lvl_eq, List.not_mem_nil, or_false] at h ⊢; omega
  | .iele k _ _ _ _, h => by simp only [AVal.sc, lvl_eq, List.not_mem_nil, or_false] at h ⊢; omega
  | .vw k _ _ _, h => by simp only [AVal.sc, lvl_eq, List.not_mem_nil, or_false] at h ⊢; omega
  | .bsl k _, h => by simp only [AVal.sc, lvl_eq, List.not_mem_nil, or_false] at h ⊢; omega
  | .agg cs, h => by simp only [AVal.sc] at h ⊢; exact scs_mono h1 h2 cs h
  | .tup vs, h => by simp only [AVal.sc] at h ⊢; exact scs_mono h1 h2 vs h
  | .fn _ fs cs, h => by
    simp only [AVal.sc] at h ⊢
    split at h
    · rename_i h3; rw [scs_mono h1 h2 fs h3]; exact scs_mono h1 h2 cs h
    · cases h
  | .int _ _, _ => by simp [AVal.sc]
  | .bool _, _ => by simp [AVal.sc]
  | .str _, _ => by simp [AVal.sc]
  | .raw _, _ => by simp [AVal.sc]
  | .junk, _ => by simp [AVal.sc]
theorem scs_mono {nb nb' nr nr' : Nat} (h1 : nb ≤ nb') (h2 : nr ≤ nr') : ∀ l : List AVal, scs nb [] nr [] l = true → scs nb' [] nr' [] l = true
  | [], _ => by simp [scs]
  | x :: l, h => by
    simp only [scs] at h ⊢
    split at h
    · rename_i h3; rw [AVal.sc_mono h1 h2 x h3]; exact scs_mono h1 h2 l h
    · cases h
end

theorem scs_all {nb nr : Nat} {eb er : List Nat} : ∀ {l : List AVal}, scs nb eb nr er l = true ↔ ∀ x ∈ l, x.sc nb eb nr er = true
  | [] => by simp [scs]
  | x :: l => by
    have ih := scs_all (nb := nb) (nr := nr) (eb := eb) (er := er) (l := l)
    simp only [scs, List.mem_cons, forall_eq_or_imp]
    split
    · rename_i h; simp [h, ih]
    · rename_i h; simp [h]

def boxL : Option (List AVal) → List (Option (List AVal)) | none => [] | some c => [some c]

theorem pushO_eq (l : List (Option (List AVal))) (x : Option (List AVal)) (k : List (Option (List AVal)) → Prop) : pushO l x k = k (l ++ boxL x) := by
  cases x <;> simp [pushO, pushK_eq, boxL]
theorem pushR_eq : ∀ (l : List (Option Row)) (rs : List Row) (k : List (Option Row) → Prop), pushR l rs k = k (l ++ rs.map some)
  | l, [], k => by simp [pushR]
  | l, r :: rs, k => by simp [pushR, pushK_eq, pushR_eq]

theorem nthj_rows (l : List (Option Row)) (rs : List Row) : nthj (l ++ rs.map some) = updL (nthj l) l.length rs := by
  funext i
  unfold updL
  rw [nthj_eq, nthj_eq]
  split
  · rename_i h
    rw [List.getElem?_append_right h.1, List.getElem?_map]
    cases hr : rs[i - l.length]? with
    | none => rfl
    | some r => rfl
  · rename_i h
    rw [List.getElem?_append]
    split
    · rfl
    · rw [List.getElem?_eq_none (by simp; omega), List.getElem?_eq_none (by omega)]

theorem nthj_boxes (l : List (Option (List AVal))) (x : Option (List AVal)) : nthj (l ++ boxL x) = updO (nthj l) l.length x := by
  funext i
  cases x with
  | none => simp [updO, boxL]
  | some c =>
    simp only [updO, boxL]
    rw [nthj_snoc]

section
variable {E : Env} {A : Asg} {σ : St} {a : Act} {w : World}

theorem Sat.ctx (h : Sat E A σ a w) (bo : Bool) (m : Nat) : Ctx E A (nthj σ.hp) (nthj σ.rows) σ.hp.length bo σ.rows.length m w where
  mem := h.mem
  klt := h.klt
  fb := fun _ => nthj_none (Nat.le_refl _)
  fr := fun i hi _ => nthj_none hi
  n0 := h.n0
  b0 := h.b0
  stb := fun B hB i c hi => (dens_congr (fun j hj => by
      have : j < σ.hp.length := by simpa using hj
      exact hB.bx j (fun _ => by omega)) (fun j hj => by
      have : j < σ.rows.length := by simpa using hj
      exact hB.rw j (.inl this)) c (h.hsc i c hi)).symm

theorem Sat.match (h : Sat E A σ a w) (o : Oper) : Match σ.fr o a.eval A := fun x _ v hv => ev_sound h hv

theorem putE_sound {eff : Eff} {u : Value} {w' : World} {dst : Option Tmp} {k : St → Prop} (h : Sat E A σ a w)
    (hp : Post E A (nthj σ.hp) (nthj σ.rows) σ.hp.length σ.rows.length w eff u w') (hk : putE σ dst eff k) : ∃ σ', k σ' ∧ ∃ B, Sat E B σ' (a.put dst u) w' := by
  obtain ⟨fr, hpl, rows⟩ := σ
  obtain ⟨box, rs, v⟩ := eff
  simp only [putE, pushO_eq, pushR_eq, lenN_eq] at hk
  split at hk
  · rename_i hsc
    split at hk
    · rename_i hbox
      obtain ⟨B, hag, rfl, hm, hsz⟩ := hp.out
      simp only at hag hm hsc hbox
      have hlen1 : hpl.length ≤ (hpl ++ boxL box).length := by simp
      have hlen2 : rows.length ≤ (rows ++ rs.map some).length := by simp
      have hden : ∀ x : AVal, x.sc hpl.length [] rows.length [] = true → x.den A = x.den B := fun x hx =>
        AVal.den_congr (fun j hj => by
          have : j < hpl.length := by simpa using hj
          exact hag.bx j (fun _ => by omega))
          (fun j hj => by
          have : j < rows.length := by simpa using hj
          exact hag.rw j (.inl this)) x hx
      have base : ∀ fr' (a' : Act), a'.defers = [] → a'.tmps.size = fr'.length →
          (∀ (t : Nat) (x : AVal), fr'[t]? = some x → (x = .junk ∨ a'.tmps.getD t undef = x.den B) ∧ x.sc (hpl ++ boxL box).length [] (rows ++ rs.map some).length [] = true) →
          Sat E B ⟨fr', hpl ++ boxL box, rows ++ rs.map some⟩ a' w' := fun fr' a' hd hs hf =>
        { defers := hd
          size := hs
          fr := fun t x hx => (hf t x hx).1
          sc := fun t x hx => (hf t x hx).2
          hsc := fun i cs hi => by
            simp only at hi ⊢
            rw [nthj_boxes] at hi
            cases box with
            | none => exact scs_mono hlen1 hlen2 cs (h.hsc i cs hi)
            | some c =>
              simp only [updO] at hi
              split at hi
              · cases hi; exact scs_mono hlen1 hlen2 _ hbox
              · exact scs_mono hlen1 hlen2 cs (h.hsc i cs hi)
          mem := by
            show Mem E B (nthj _) (nthj _) w'
            rw [nthj_boxes, nthj_rows]; exact hm
          klt := fun b hb => Nat.lt_of_lt_of_le (h.klt b hb) hsz
          n0 := Nat.le_trans h.n0 hlen2
          b0 := Nat.le_trans h.b0 hlen1 }
      have old : ∀ (t : Nat) (x : AVal), fr[t]? = some x → (x = .junk ∨ a.tmps.getD t undef = x.den B) ∧ x.sc (hpl ++ boxL box).length [] (rows ++ rs.map some).length [] = true := fun t x hx =>
        ⟨(h.fr t x hx).imp id (fun e => e.trans (hden x (h.sc t x hx))), AVal.sc_mono hlen1 hlen2 x (h.sc t x hx)⟩
      cases dst with
      | none => exact ⟨_, hk, B, base fr a h.defers h.size old⟩
      | some d =>
        simp only [setK_eq] at hk
        refine ⟨_, hk, B, base _ _ h.defers (by simp [Act.put, h.size]) fun t x hx => ?_⟩
        by_cases htd : t = d
        · subst htd
          rw [List.getElem?_set_self'] at hx
          cases hf : fr[t]? with
          | none => simp [hf] at hx
          | some y =>
            simp [hf] at hx
            subst hx
            have hlt : t < a.tmps.size := by rw [h.size]; exact (List.getElem?_eq_some_iff.1 hf).1
            exact ⟨.inr (by simp [Act.put, hlt]), hsc⟩
        · rw [List.getElem?_set_ne (fun e => htd e.symm)] at hx
          obtain ⟨h1, h2⟩ := old t x hx
          refine ⟨h1.imp id (fun e => ?_), h2⟩
          rw [← e]
          simp only [Act.put, Array.getD_eq_getD_getElem?]
          rw [Array.getElem?_setIfInBounds_ne (fun e => htd e.symm)]
    · exact hk.elim
  · exact hk.elim

/-- a place whose content the walk may forget -/
theorem Sat.setFr (h : Sat E A σ a w) (d : Nat) (x : AVal) (hx : ∀ y, σ.fr[d]? = some y → (x = .junk ∨ a.tmps.getD d undef = x.den A) ∧ x.sc σ.hp.length [] σ.rows.length [] = true) :
    Sat E A ⟨σ.fr.set d x, σ.hp, σ.rows⟩ a w :=
  { h with
    size := by simp [h.size]
    fr := fun t y hy => by
      by_cases htd : t = d
      · subst htd
        rw [List.getElem?_set_self'] at hy
        cases hf : σ.fr[t]? with
        | none => simp [hf] at hy
        | some z => simp [hf] at hy; subst hy; exact (hx z hf).1
      · rw [List.getElem?_set_ne (fun e => htd e.symm)] at hy; exact h.fr t y hy
    sc := fun t y hy => by
      by_cases htd : t = d
      · subst htd
        rw [List.getElem?_set_self'] at hy
        cases hf : σ.fr[t]? with
        | none => simp [hf] at hy
        | some z => simp [hf] at hy; subst hy; exact (hx z hf).2
      · rw [List.getElem?_set_ne (fun e => htd e.symm)] at hy; exact h.sc t y hy }

theorem Sat.skip (h : Sat E A σ a w) (d : Nat) : Sat E A ⟨σ.fr.set d uV, σ.hp, σ.rows⟩ (a.put (some d) undef) w :=
  { h with
    size := by simp [Act.put, h.size]
    fr := fun t y hy => by
      by_cases htd : t = d
      · subst htd
        rw [List.getElem?_set_self'] at hy
        cases hf : σ.fr[t]? with
        | none => simp [hf] at hy
        | some z =>
          simp [hf] at hy; subst hy
          refine .inr ?_
          have hlt : t < a.tmps.size := by rw [h.size]; exact (List.getElem?_eq_some_iff.1 hf).1
          simp [Act.put, hlt, uV, AVal.den, undef]
      · rw [List.getElem?_set_ne (fun e => htd e.symm)] at hy
        refine (h.fr t y hy).imp id (fun e => ?_)
        rw [← e]
        simp only [Act.put, Array.getD_eq_getD_getElem?]
        rw [Array.getElem?_setIfInBounds_ne (fun e => htd e.symm)]
    sc := fun t y hy => by
      by_cases htd : t = d
      · subst htd
        rw [List.getElem?_set_self'] at hy
        cases hf : σ.fr[t]? with
        | none => simp [hf] at hy
        | some z => simp [hf] at hy; subst hy; simp [uV, AVal.sc]
      · rw [List.getElem?_set_ne (fun e => htd e.symm)] at hy; exact h.sc t y hy }

end
end Go.Proofs.Ytlplngafncobkaa.Fw
