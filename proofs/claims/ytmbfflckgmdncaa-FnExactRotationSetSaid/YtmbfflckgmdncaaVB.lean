/- The walk compares a slice with nil. -/
import Derived.Test.YtmbfflckgmdncaaVA
import Derived.Lib.LazyBuf
namespace Go.Proofs.Ytmbfflckgmdncaa.Fw
open Go Go.RowKit
set_option linter.unusedVariables false
set_option linter.unusedSimpArgs false
set_option maxRecDepth 100000
set_option maxHeartbeats 2000000

theorem eqG_slice (P : Program) (w : World) (op : BinOp) (t : TypeId) (xo yo : Operand) (a : Option Addr) (n c : Nat) (y : Value) : (eqGuard op t xo yo (.slice a n c) y).run P w = .ok () w := by
  unfold eqGuard
  cases op <;> simp
theorem VO_nil {E : Env} {all rest : List Oper} {fr : List AVal} {hp : List (Option (List AVal))} {rows : List (Option Row)} {kN : St → Prop} {d s r : Nat} {t yt ty el : TypeId} {pos : String} {after : Array Edge} {R : Row}
    (hx : nth fr s = some (.row r)) (hr : nthj rows r = some R) (ht : E.P.underlying t = some (.slice el))
    (h : ∀ b : Bool, (b = true → R.xs.length = 0) → VO E all rest ⟨fr.set d (.bool b), hp, rows⟩ kN) :
    VO E all (⟨some d, .binOp .eql t (.tmp s) (.const (.slice none 0 0)) yt, ty, pos, after, none⟩ :: rest) ⟨fr, hp, rows⟩ kN := ⟨fun Q hN A a w hs => by
  rw [nth_eq] at hx
  have hv : a.tmps.getD s undef = (A.rw r).val := by
    rcases hs.fr s _ hx with h' | h'
    · cases h'
    · simpa [AVal.den] using h'
  have hat := (hs.mem.row r _ hr).1
  have hb : (A.rw r).a.isNone = true → R.xs.length = 0 := fun h0 => by
    rcases Nat.eq_zero_or_pos R.xs.length with h1 | h1
    · exact h1
    · obtain ⟨z, hz⟩ := hat.there h1
      rw [hz] at h0; cases h0
  unfold wpList
  rw [if_pos (by simp [Region.wanted])]
  refine .inl ?_
  unfold Oper.wp
  have hrun : (execOp a.eval ⟨some d, .binOp .eql t (.tmp s) (.const (.slice none 0 0)) yt, ty, pos, after, none⟩).run E.P w = .ok (.value (.bool (A.rw r).a.isNone)) w := by
    simp only [execOp]
    refine wrapF _ _ _ _ ?_
    have e1 : a.eval (.tmp s) = .slice (A.rw r).a (A.rw r).len (A.rw r).cap := hv
    have e2 : a.eval (.const (.slice none 0 0)) = .slice none 0 0 := rfl
    rw [e1, e2]
    simp only [Sem.run_bind, eqG_slice, Result.andThen_ok]
    exact run_eql_slice_nil w t el _ _ _ ht
  rw [hrun]
  refine (h _ hb).out Q hN A _ _ ?_
  have h1 := hs.putJ d (.bool (A.rw r).a.isNone)
  have h2 := h1.setFr d (.bool (A.rw r).a.isNone) (fun y hy => by
    have hlt : d < (fr.set d .junk).length := (List.getElem?_eq_some_iff.1 hy).1
    rw [List.length_set] at hlt
    have hsz : d < a.tmps.size := by rw [hs.size]; exact hlt
    refine ⟨.inr ?_, by simp [AVal.sc]⟩
    simp [Act.put, Array.getD_eq_getD_getElem?, hsz, AVal.den])
  simpa [List.set_set] using h2⟩
theorem VO_one {E : Env} {T : TypeId → Option TInfo} {G : List (FuncId × Ctr)} (hT : TOk E.P T) (hG : GOk E.P G) {all rest : List Oper} {o : Oper} {fr : List AVal} {hp : List (Option (List AVal))} {rows : List (Option Row)} {kN : St → Prop}
    (hg : o.guard = none) (h : vcOne E T G all rest o fr hp rows kN fun σ' => VO E all rest σ' kN) : VO E all (o :: rest) ⟨fr, hp, rows⟩ kN :=
  ⟨fun Q hN A a w hs => vcOne_sound hT hG h hN (fun σ' h' A a w hs' => h'.out Q hN A a w hs') hs (by simp [Region.wanted, hg])⟩
theorem VO_end {E : Env} {all : List Oper} {σ : St} {kN : St → Prop} (h : kN σ) : VO E all [] σ kN := ⟨fun Q hN A a w hs => hN σ h A a w hs⟩
theorem V_ops {E : Env} {id : Nat} {ops : Array Oper} {kN : St → Prop} {kE : Nat → St → Prop} {kR : St → Prop} {σ : St} (h : VO E ops.toList ops.toList σ kN) : V E (.region id ops false) kN kE kR σ :=
  ⟨fun Q h1 h2 h3 A a w hs => wp_region_list (by
    have := h.out Q h1 A a w hs
    simpa using this)⟩
theorem V_seq' {E : Env} {x y : Code} {kN : St → Prop} {kE : Nat → St → Prop} {kR : St → Prop} {σ : St} (h : V E x (fun σ' => V E y kN kE kR σ') kE kR σ) : V E (.seq x y) kN kE kR σ :=
  ⟨fun Q h1 h2 h3 A a w hs => by
    refine wp_seq (h.out _ ?_ ?_ ?_ A a w hs)
    · intro σ' h' A a w hs'
      exact h'.out Q h1 h2 h3 A a w hs'
    · intro i σ' h' A a w hs'; exact h2 i σ' h' A a w hs'
    · intro σ' h' A a w hs'; exact h3 σ' h' A a w hs'⟩
end Go.Proofs.Ytmbfflckgmdncaa.Fw
