/- Contracts: AngleOf, LetterOf, the law's own functions. -/
import Derived.Test.YtllagpbbbdekiacTE
import Derived.Test.YtllagpbbbdekiacU6
import Derived.Test.YtllagpbbbdekiacU4
import Derived.Laws.Runes
namespace Go.Proofs.Ytllagpbbbdekiac.Fw
open Go Go.RowKit
set_option linter.unusedVariables false
set_option linter.unusedSimpArgs false
set_option maxRecDepth 100000
set_option maxHeartbeats 2000000
@[irreducible] def tolA (x : Ang) : Ang × Int := if 8191 < x.2 then ((0, 0), 3) else (x, 0)
theorem tolA_t {x : Ang} (h : 8191 < x.2) : tolA x = ((0, 0), 3) := by unfold tolA; rw [if_pos h]
theorem tolA_f {x : Ang} (h : ¬ 8191 < x.2) : tolA x = (x, 0) := by unfold tolA; rw [if_neg h]
def tolC : PCtr := fun _ _ _ vals k => match vals with
  | [.agg [.int .i64 n, .int .i64 d]] => True ∧ ∀ q : Ang × Int, q = tolA (n, d) → k [] (.tup [aV q.1, .int .i64 q.2])
  | _ => False
theorem tol_ok : PCtrOk Try.prog 46 tolC where
  enter := enter_ok Try.func46 (by kernel_rfl) rfl
  calls := by
    intro hg rg lr vals k h
    unfold tolC at h
    split at h
    case h_2 => exact h.elim
    rename_i n d
    obtain ⟨_, hk⟩ := h
    replace hk := hk _ rfl
    refine ⟨_, _, hk, fun A w _ _ => ?_⟩
    refine enter T_ok .nil Try.func46 rfl (K := (· < w.heap.size)) (fun _ h => h) (A := A) (n0 := 0) (b0 := 0) (rows := []) (hp := []) rfl (Nat.zero_le _) (fun k r h => by cases h) rfl (fun k r h => by cases h) rfl rfl (Nat.le_of_ble_eq_true rfl) ?_
    conv => whnf
    repeat (refine V_step T_ok .nil rfl ?_; conv => whnf)
    repeat (any_goals (first
      | (refine V_step T_ok .nil rfl ?_; conv => whnf)
      | (refine V_drawA T_ok .nil mixed (by kernel_rfl) ?_; conv => whnf)
      | (refine bcond_split (fun hc => ?_) (fun hc => ?_) <;> (try simp only [decide_eq_true_eq, decide_eq_false_iff_not, Bool.not_eq_true', Bool.not_eq_false', Bool.and_eq_true, Bool.or_eq_true, Bool.and_eq_false_imp, Bool.or_eq_false_iff, ne_eq, Decidable.not_not] at hc) <;> conv => whnf)
      | (intro ysK hysK; have hysl := congrArg List.length hysK; (try simp only [List.length_set, List.length_append, List.length_cons, List.length_nil, List.length_take, List.length_drop, List.length_replicate] at hysl); conv => whnf)
      | (intro bK hbK; have hbl := congrArg ByteArray.size hbK; conv => whnf)
      | (intro sK hsK; conv => whnf)
      | (refine And.intro (by first | exact True.intro | (with_reducible assumption) | omega | (simp only [Rng]; omega) | exact Nat.le_of_ble_eq_true rfl | exact True.intro | exact ⟨rfl, True.intro, fun _ _ => rfl⟩ | exact Nat.le_of_ble_eq_true rfl | (refine ⟨by (try simp only [List.length_cons, List.length_nil]); omega, Int.le_trans (Int.mul_le_mul_of_nonneg_left (show (TInfo.bytes _ : Int) ≤ 64 from Int.ofNat_le.2 (Nat.le_of_ble_eq_true rfl)) (by omega)) (by (try simp only [List.length_cons, List.length_nil]); omega)⟩)) ?_; conv => whnf)))
    · exact leaf0 rfl (by rw [tolA_t hc]) rfl
    · exact leaf0 rfl (by rw [tolA_f hc]) rfl
def okF (n d : Int) : Prop := (-1000000000 ≤ n ∧ n ≤ 1000000000) ∧ 1 ≤ d ∧ d ≤ 1000000000
instance (n d : Int) : Decidable (okF n d) := by unfold okF; infer_instance
@[irreducible] def angO (n d : Int) : Ang × Int := if okF n d then tolA (ofQ n d) else ((0, 0), 2)
theorem angO_t {n d : Int} (h : okF n d) : angO n d = tolA (ofQ n d) := by unfold angO; rw [if_pos h]
theorem angO_f {n d : Int} (h : ¬ okF n d) : angO n d = ((0, 0), 2) := by unfold angO; rw [if_neg h]
def angOC : PCtr := fun _ _ _ vals k => match vals with
  | [.int .i64 n, .int .i64 d] => True ∧ ∀ q : Ang × Int, q = angO n d → k [] (.tup [aV q.1, .int .i64 q.2])
  | _ => False
abbrev GAo := (GOk.cons within_ok (GOk.cons angle_ok (GOk.cons tol_ok .nil)))
theorem angO_ok : PCtrOk Try.prog 22 angOC where
  enter := enter_ok Try.func22 (by kernel_rfl) rfl
  calls := by
    intro hg rg lr vals k h
    unfold angOC at h
    split at h
    case h_2 => exact h.elim
    rename_i n d
    obtain ⟨_, hk⟩ := h
    replace hk := hk _ rfl
    refine ⟨_, _, hk, fun A w _ _ => ?_⟩
    refine enter T_ok GAo Try.func22 rfl (K := (· < w.heap.size)) (fun _ h => h) (A := A) (n0 := 0) (b0 := 0) (rows := []) (hp := []) rfl (Nat.zero_le _) (fun k r h => by cases h) rfl (fun k r h => by cases h) rfl rfl (Nat.le_of_ble_eq_true rfl) ?_
    conv => whnf
    repeat (refine V_step T_ok GAo rfl ?_; conv => whnf)
    repeat (any_goals (first
      | (refine V_step T_ok GAo rfl ?_; conv => whnf)
      | (refine V_drawA T_ok GAo mixed (by kernel_rfl) ?_; conv => whnf)
      | (refine bcond_split (fun hc => ?_) (fun hc => ?_) <;> (try simp only [decide_eq_true_eq, decide_eq_false_iff_not, Bool.not_eq_true', Bool.not_eq_false', Bool.and_eq_true, Bool.or_eq_true, Bool.and_eq_false_imp, Bool.or_eq_false_iff, ne_eq, Decidable.not_not] at hc) <;> conv => whnf)
      | (intro ysK hysK; have hysl := congrArg List.length hysK; (try simp only [List.length_set, List.length_append, List.length_cons, List.length_nil, List.length_take, List.length_drop, List.length_replicate] at hysl); conv => whnf)
      | (intro bK hbK; have hbl := congrArg ByteArray.size hbK; conv => whnf)
      | (intro sK hsK; conv => whnf)
      | (refine And.intro (by first | (first | exact True.intro | omega) | exact True.intro | exact ⟨rfl, True.intro, fun _ _ => rfl⟩ | exact Nat.le_of_ble_eq_true rfl | (refine ⟨by (try simp only [List.length_cons, List.length_nil]); omega, Int.le_trans (Int.mul_le_mul_of_nonneg_left (show (TInfo.bytes _ : Int) ≤ 64 from Int.ofNat_le.2 (Nat.le_of_ble_eq_true rfl)) (by omega)) (by (try simp only [List.length_cons, List.length_nil]); omega)⟩)) ?_; conv => whnf)))
    · exact leaf0 rfl (by rw [angO_f fun h => hc h.1]) rfl
    · exact leaf0 rfl (by rw [angO_f fun h => hc h.2]) rfl
    · exact leaf0 rfl (by rw [angO_t ⟨by assumption, by assumption⟩, hsK]) rfl
theorem angO_part (x n : Int) (h1 : 1 ≤ n) (h2 : n ≤ 63) (hx : 0 ≤ x ∧ x < n) : angO x n = (ofQ x n, 0) := by
  rw [angO_t ⟨⟨by omega, by omega⟩, h1, by omega⟩]
  have := (ofQ_bd x n h1).2
  exact tolA_f (by omega)
theorem VC_one {E : Env} {T : TypeId → Option TInfo} {G : List (FuncId × Ctr)} (hT : TOk E.P T) (hG : GOk E.P G) {all rest : List Oper} {o : Oper} {fr : List AVal} {hp : List (Option (List AVal))} {rows : List (Option Row)} {kN : St → Prop}
    (hg : o.guard = none) (h : vcOne E T G all rest o fr hp rows kN fun σ' => VO E all rest σ' kN) : VO E all (o :: rest) ⟨fr, hp, rows⟩ kN :=
  ⟨fun Q hN A a w hs => vcOne_sound hT hG h hN (fun σ' h' A a w hs' => h'.out Q hN A a w hs') hs (by simp [Region.wanted, hg])⟩
theorem VC_end {E : Env} {all : List Oper} {σ : St} {kN : St → Prop} (h : kN σ) : VO E all [] σ kN := ⟨fun Q hN A a w hs => hN σ h A a w hs⟩
theorem VC_ops {E : Env} {id : Nat} {ops : Array Oper} {kN : St → Prop} {kE : Nat → St → Prop} {kR : St → Prop} {σ : St} (h : VO E ops.toList ops.toList σ kN) : V E (.region id ops false) kN kE kR σ :=
  ⟨fun Q h1 h2 h3 A a w hs => wp_region_list (by
    have := h.out Q h1 A a w hs
    simpa using this)⟩
theorem VC_seq {E : Env} {x y : Code} {kN : St → Prop} {kE : Nat → St → Prop} {kR : St → Prop} {σ : St} (h : V E x (fun σ' => V E y kN kE kR σ') kE kR σ) : V E (.seq x y) kN kE kR σ :=
  ⟨fun Q h1 h2 h3 A a w hs => by
    refine wp_seq (h.out _ ?_ ?_ ?_ A a w hs)
    · intro σ' h' A a w hs'
      exact h'.out Q h1 h2 h3 A a w hs'
    · intro i σ' h' A a w hs'; exact h2 i σ' h' A a w hs'
    · intro σ' h' A a w hs'; exact h3 σ' h' A a w hs'⟩
theorem VC_conv {E : Env} {all rest : List Oper} {fr : List AVal} {hp : List (Option (List AVal))} {rows : List (Option Row)} {kN : St → Prop} {d s S D ty : Nat} {pos : String} {after : Array Edge} {kq : IntKind} {n : Int} {t : ByteArray}
    (hx : nth fr s = some (.int kq n)) (hc : ∀ w, (convert S D (.int kq n)).run E.P w = .ok (.string t) w)
    (h : VO E all rest ⟨fr.set d (.str t), hp, rows⟩ kN) :
    VO E all (⟨some d, .convert S D (.tmp s), ty, pos, after, none⟩ :: rest) ⟨fr, hp, rows⟩ kN := ⟨fun Q hN A a w hs => by
  rw [nth_eq] at hx
  have hv : a.tmps.getD s undef = .int kq n := by
    rcases hs.fr s _ hx with h' | h'
    · cases h'
    · simpa [AVal.den] using h'
  unfold wpList
  rw [if_pos (by simp [Region.wanted])]
  refine .inl ?_
  unfold Oper.wp
  have hrun : (execOp a.eval ⟨some d, .convert S D (.tmp s), ty, pos, after, none⟩).run E.P w = .ok (.value (.string t)) w := by
    simp only [execOp]
    refine wrapF _ _ _ _ ?_
    have e1 : a.eval (.tmp s) = .int kq n := hv
    rw [e1]
    exact hc w
  rw [hrun]
  refine h.out Q hN A _ _ ?_
  have h1 := hs.putJ d (.string t)
  have h2 := h1.setFr d (.str t) (fun y hy => by
    have hlt : d < (fr.set d .junk).length := (List.getElem?_eq_some_iff.1 hy).1
    rw [List.length_set] at hlt
    have hsz : d < a.tmps.size := by rw [hs.size]; exact hlt
    refine ⟨.inr ?_, by simp [AVal.sc]⟩
    simp [Act.put, Array.getD_eq_getD_getElem?, hsz, AVal.den])
  simpa [List.set_set] using h2⟩
theorem conv_run (n : Int) (w : World) : (convert 5 9 (.int .u8 n)).run Try.prog w = .ok (.string (Utf8.encode n)) w := by
  have := run_convert_int_string (P := Try.prog) w 5 9 .u8 n (by rw [Try.underlying5]; rfl) Try.underlying9
  exact this
end Go.Proofs.Ytllagpbbbdekiac.Fw
