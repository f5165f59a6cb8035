/- Contracts: halves of angles, leaves that arise when a leaf is pulled back. -/
import Derived.Test.YtmbfflckgmdncaaDoorHB
import Derived.Test.YtmbfflckgmdncaaDoorGE
namespace Go.Proofs.YtmbfflckgmdncaaDoor.Fw
open Go Go.RowKit
set_option linter.unusedVariables false
set_option linter.unusedSimpArgs false
set_option maxRecDepth 100000
set_option maxHeartbeats 2000000

def halvesC : PCtr := fun _ _ _ vals k => match vals with
  | [.agg [.int .i64 n, .int .i64 d]] => Sm (n, d) ∧ k [] (.tup [aV (halfA (n, d)), aV (half2A (n, d))])
  | _ => False
def limL1C : PCtr := fun _ _ _ vals k => match vals with
  | [.agg [.int .i64 n, .int .i64 d, .int .i64 m, .int .i64 e]] => True ∧ k [] (.bool (decide (LimL ((n, d), (m, e)))))
  | _ => False
/-- The opposite, as a Bool. -/
def limAN (a : Lf) : Bool := !decide (LimL a)
def limAY (a : Lf) : Bool := decide (LimL a)
theorem limA_any (xs : List Lf) : (!xs.any limAN) = xs.all limAY := by
  induction xs with
  | nil => rfl
  | cons x l ih => simp only [List.any_cons, List.all_cons, ← ih, limAN, limAY, Bool.not_or, Bool.not_not]
def limitedC : PCtr := fun _ rg _ vals k => match vals with
  | [.row i] => rowC lT (rg i) fun xs => bcond ((xs : List Lf).all limAY) (k [] (.tup [.row i, .int .i64 0])) (k [] (.tup [.raw (.slice none 0 0), .int .i64 3]))
  | _ => False
def isEndC : PCtr := fun hg _ _ vals k => match vals with
  | [.agg [.int .i64 n, .int .i64 d], .loc j 0] => boxLf (hg j) fun l => True ∧ k [] (.bool (decide ((n, d) = l.1 ∨ (n, d) = l.2)))
  | _ => False
end Go.Proofs.YtmbfflckgmdncaaDoor.Fw

/- Contracts: pulling a leaf back past a diameter. -/
namespace Go.Proofs.YtmbfflckgmdncaaDoor.Fw
open Go Go.RowKit
set_option linter.unusedVariables false
set_option linter.unusedSimpArgs false
set_option maxRecDepth 100000
set_option maxHeartbeats 2000000

theorem Sm.half {a : Ang} (h : IsA a) : Sm (halfA a) := by
  have := ofQ_bd a.1 (2 * a.2) (by have := h.1.1; omega)
  have := h.1
  unfold Sm halfA
  omega
theorem Sm.half2 {a : Ang} (h : IsA a) : Sm (half2A a) := by
  have := ofQ_bd (a.1 + a.2) (2 * a.2) (by have := h.1.1; omega)
  have := h.1
  unfold Sm half2A
  omega
theorem leafOf_sm {a b : Ang} (ha : Sm a) (hb : Sm b) : SmL (leafOf a b) := by
  unfold leafOf; split
  · exact ⟨hb, ha⟩
  · exact ⟨ha, hb⟩
theorem two_mem {l m x : Lf} (h : x ∈ twoL l m) : x = l ∨ x = m := by
  unfold twoL at h
  split at h
  · simp at h; exact h.symm
  · simpa using h
theorem way_sm {l : Lf} (h : IsL l) : ∀ x ∈ wayL l, SmL x := fun x hx => by
  rcases two_mem hx with rfl | rfl
  · exact leafOf_sm (Sm.half h.1) (Sm.half h.2.1)
  · exact leafOf_sm (Sm.half2 h.1) (Sm.half2 h.2.1)

abbrev GW := (GOk.nil : GOk Tryd.prog [])
def PastP (l d : Lf) : Prop := sDiaL d = true ∧ ¬ (doubleA d.1 = l.1 ∨ doubleA d.1 = l.2)
instance (l d : Lf) : Decidable (PastP l d) := by unfold PastP; infer_instance
def pastO (l d : Lf) : List Lf := if IsL l ∧ IsL d then (if PastP l d then (if okHalf l.1 ∧ okHalf l.2 then sPastW l d else []) else []) else []
def pastN (l d : Lf) : Int := if IsL l ∧ IsL d then (if PastP l d then (if okHalf l.1 ∧ okHalf l.2 then 0 else 3) else 5) else 1
theorem two_isL (l d : Lf) : (if [l, d].all allLY = true then (0 : Int) else 1) = 0 ↔ IsL l ∧ IsL d := by
  simp [allLY]
theorem limA_eq (xs : List Lf) : xs.all limAY = xs.all (fun l => decide (LimL l)) := rfl
theorem PastP.ne1 {l d : Lf} (h : PastP l d) : l.1 ≠ doubleA d.1 := fun e => h.2 (.inl e.symm)
theorem PastP.ne2 {l d : Lf} (h : PastP l d) : l.2 ≠ doubleA d.1 := fun e => h.2 (.inr e.symm)
theorem past_bad {l d : Lf} (h : ¬ (IsL l ∧ IsL d)) : pastO l d = [] ∧ pastN l d = 1 := by
  unfold pastO pastN
  rw [if_neg h, if_neg h]; exact ⟨rfl, rfl⟩
theorem past_st {l d : Lf} (h : IsL l ∧ IsL d) (hp : ¬ PastP l d) : pastO l d = [] ∧ pastN l d = 5 := by
  unfold pastO pastN
  rw [if_pos h, if_pos h, if_neg hp, if_neg hp]; exact ⟨rfl, rfl⟩
theorem past_no {l d : Lf} (h : IsL l ∧ IsL d) (hp : PastP l d) (ho : ¬ (okHalf l.1 ∧ okHalf l.2)) : pastO l d = [] ∧ pastN l d = 3 := by
  unfold pastO pastN
  rw [if_pos h, if_pos h, if_pos hp, if_pos hp, if_neg ho, if_neg ho]; exact ⟨rfl, rfl⟩
theorem past_yes {l d : Lf} (h : IsL l ∧ IsL d) (hp : PastP l d) (ho : okHalf l.1 ∧ okHalf l.2) : pastO l d = sPastW l d ∧ pastN l d = 0 := by
  unfold pastO pastN
  rw [if_pos h, if_pos h, if_pos hp, if_pos hp, if_pos ho, if_pos ho]; exact ⟨rfl, rfl⟩
theorem past_of {l d : Lf} (h : IsL l ∧ IsL d) (h1 : isDiaL d = true) (h2 : ¬ (((doubleA d.1).1, (doubleA d.1).2) = l.1 ∨ ((doubleA d.1).1, (doubleA d.1).2) = l.2)) : PastP l d :=
  ⟨by rw [← dia_eq h.2]; exact h1, h2⟩
theorem past_w {l d : Lf} (h : IsL l ∧ IsL d) (hp : PastP l d) {b : Bool} (hb : (wayL l).any (crossL d) = b) : (if b = true then way2L l else wayL l) = sPastW l d := by
  rw [← past_eq h.1 h.2 hp.1 hp.ne1 hp.ne2, pastW, hb]
theorem past_k {l d : Lf} {b c : Bool} (hb : (wayL l).any (crossL d) = b) (hc : (if b = true then way2L l else wayL l).all limAY = c) : okHalf l.1 ∧ okHalf l.2 ↔ c = true := by
  rw [← past_lim l d, pastW, hb, ← hc, limA_eq]
abbrev GP := (GOk.nil : GOk Tryd.prog [])
end Go.Proofs.YtmbfflckgmdncaaDoor.Fw

/- Contracts: the reference pulls a leaf back past a diameter; the law, walked. -/
namespace Go.Proofs.YtmbfflckgmdncaaDoor.Fw
open Go Go.RowKit
set_option linter.unusedVariables false
set_option linter.unusedSimpArgs false
set_option maxRecDepth 100000
set_option maxHeartbeats 2000000

def sHalvesC : PCtr := fun _ _ _ vals k => match vals with
  | [.agg [.int .i64 n, .int .i64 d]] => Sm (n, d) ∧ k [] (.tup [aV (halfA (n, d)), aV (half2A (n, d)), .bool (decide (okHalf (n, d)))])
  | _ => False
abbrev GSP := (GOk.nil : GOk Tryd.prog [])
end Go.Proofs.YtmbfflckgmdncaaDoor.Fw

/- The law of leaves that are pulled back past a diameter, walked. -/
namespace Go.Proofs.YtmbfflckgmdncaaDoor.Fw
open Go Go.RowKit
set_option linter.unusedVariables false
set_option linter.unusedSimpArgs false
set_option maxRecDepth 100000
set_option maxHeartbeats 2000000

theorem sTwo_len (l m : Lf) : (sTwoL l m).length = 2 := by unfold sTwoL; split <;> rfl
theorem pastO_len (l d : Lf) : ((pastO l d).length : Int) ≤ 64 := by
  unfold pastO sPastW
  (repeat' split) <;> simp [sTwo_len]

def lawPC : PCtr := fun _ _ _ vals k => match vals with
  | [.agg [.int .i64 n, .int .i64 d, .int .i64 m, .int .i64 e], .agg [.int .i64 n', .int .i64 d', .int .i64 m', .int .i64 e']] => True ∧ k [] (.bool true)
  | _ => False
abbrev GLP := (GOk.nil : GOk Tryd.prog [])
end Go.Proofs.YtmbfflckgmdncaaDoor.Fw
