/- Plain laws: sets of numbers, told by the least number of each. No program. -/
import Derived.Test.YtllagpbbbdekiacS8
namespace Go.Proofs.Ytllagpbbbdekiac.Fw
set_option linter.unusedVariables false
set_option linter.unusedSimpArgs false
def lab (c : List Int) (i : Nat) : Int := c.getD i 0
structure Can (n : Nat) (c : List Int) : Prop where
  len : c.length = n
  nn : ∀ i, i < n → 0 ≤ lab c i
  le : ∀ i, i < n → lab c i ≤ i
  idem : ∀ i, i < n → lab c (lab c i).toNat = lab c i
def mrg (a b x : Int) : Int := if x = b then a else x
theorem lab_map {c : List Int} {f : Int → Int} {i : Nat} (h : i < c.length) : lab (c.map f) i = f (lab c i) := by
  unfold lab
  rw [List.getD_eq_getElem?_getD, List.getD_eq_getElem?_getD, List.getElem?_map, List.getElem?_eq_getElem h]; rfl
theorem Can.lt {n : Nat} {c : List Int} (h : Can n c) {i : Nat} (hi : i < n) : (lab c i).toNat < n := by
  have h1 := h.nn i hi
  have h2 := h.le i hi
  omega
theorem Can.merge {n : Nat} {c : List Int} (h : Can n c) {i j : Nat} (hi : i < n) (hj : j < n) (hab : lab c i ≤ lab c j) : Can n (c.map (mrg (lab c i) (lab c j))) := by
  have hm : ∀ x, x < n → lab (c.map (mrg (lab c i) (lab c j))) x = mrg (lab c i) (lab c j) (lab c x) := fun x hx => lab_map (by rw [h.len]; exact hx)
  refine ⟨by rw [List.length_map, h.len], fun x hx => ?_, fun x hx => ?_, fun x hx => ?_⟩
  · rw [hm x hx]
    unfold mrg
    split
    · exact h.nn i hi
    · exact h.nn x hx
  · rw [hm x hx]
    have := h.le x hx
    unfold mrg
    split <;> omega
  · rw [hm x hx]
    by_cases e : lab c x = lab c j
    · have e1 : mrg (lab c i) (lab c j) (lab c x) = lab c i := by unfold mrg; rw [if_pos e]
      rw [e1, hm _ (h.lt hi), h.idem i hi]
      unfold mrg
      split <;> rfl
    · have e1 : mrg (lab c i) (lab c j) (lab c x) = lab c x := by unfold mrg; rw [if_neg e]
      rw [e1, hm _ (h.lt hx), h.idem x hx, e1]
theorem merge_rel {n : Nat} {c : List Int} (h : Can n c) {i j x y : Nat} (hi : i < n) (hj : j < n) (hx : x < n) (hy : y < n) :
    lab (c.map (mrg (lab c i) (lab c j))) x = lab (c.map (mrg (lab c i) (lab c j))) y ↔ lab c x = lab c y ∨ ((lab c x = lab c i ∨ lab c x = lab c j) ∧ (lab c y = lab c i ∨ lab c y = lab c j)) := by
  rw [lab_map (by rw [h.len]; exact hx), lab_map (by rw [h.len]; exact hy)]
  unfold mrg
  split <;> split <;> omega
structure Part (n : Nat) (c0 : List Int) (E : Nat → Nat → Prop) (c : List Int) (D : Nat → Nat → Prop) : Prop where
  can : Can n c
  old : ∀ x y, x < n → y < n → lab c0 x = lab c0 y → lab c x = lab c y
  eq : ∀ x y, x < n → y < n → D x y → lab c x = lab c y
  min : ∀ S : Nat → Nat → Prop, Equivalence S → (∀ x y, x < n → y < n → lab c0 x = lab c0 y → S x y) → (∀ x y, x < n → y < n → E x y → S x y) → ∀ x y, x < n → y < n → lab c x = lab c y → S x y
theorem Part.start {n : Nat} {c0 : List Int} {E D : Nat → Nat → Prop} (h : Can n c0) (hD : ∀ x y, ¬ D x y) : Part n c0 E c0 D :=
  ⟨h, fun _ _ _ _ e => e, fun x y _ _ hd => (hD x y hd).elim, fun S _ h1 _ x y hx hy e => h1 x y hx hy e⟩
theorem Part.mono {n : Nat} {c0 c : List Int} {E D D' : Nat → Nat → Prop} (h : Part n c0 E c D) (hD : ∀ x y, x < n → y < n → D' x y → lab c x = lab c y) : Part n c0 E c D' := ⟨h.can, h.old, hD, h.min⟩
theorem Part.merge {n : Nat} {c0 c : List Int} {E D : Nat → Nat → Prop} (h : Part n c0 E c D) {i j : Nat} (hi : i < n) (hj : j < n) (hab : lab c i ≤ lab c j) (hE : E i j ∨ E j i) :
    Part n c0 E (c.map (mrg (lab c i) (lab c j))) D ∧ (∀ x y, x < n → y < n → lab c x = lab c y → lab (c.map (mrg (lab c i) (lab c j))) x = lab (c.map (mrg (lab c i) (lab c j))) y) ∧ lab (c.map (mrg (lab c i) (lab c j))) i = lab (c.map (mrg (lab c i) (lab c j))) j := by
  have grow : ∀ x y, x < n → y < n → lab c x = lab c y → lab (c.map (mrg (lab c i) (lab c j))) x = lab (c.map (mrg (lab c i) (lab c j))) y := fun x y hx hy e => (merge_rel h.can hi hj hx hy).2 (.inl e)
  refine ⟨⟨h.can.merge hi hj hab, fun x y hx hy e => grow x y hx hy (h.old x y hx hy e), fun x y hx hy e => grow x y hx hy (h.eq x y hx hy e), fun S hS h1 h2 x y hx hy e => ?_⟩, grow, (merge_rel h.can hi hj hi hj).2 (.inr ⟨.inl rfl, .inr rfl⟩)⟩
  have hij : S i j := by
    rcases hE with hE | hE
    · exact h2 i j hi hj hE
    · exact hS.symm (h2 j i hj hi hE)
  have up : ∀ x, x < n → (lab c x = lab c i ∨ lab c x = lab c j) → S x i := fun x hx hh => by
    rcases hh with hh | hh
    · exact h.min S hS h1 h2 x i hx hi hh
    · exact hS.trans (h.min S hS h1 h2 x j hx hj hh) (hS.symm hij)
  rcases (merge_rel h.can hi hj hx hy).1 e with e | ⟨e1, e2⟩
  · exact h.min S hS h1 h2 x y hx hy e
  · exact hS.trans (up x hx e1) (hS.symm (up y hy e2))
theorem part_uniq {n : Nat} {c0 c c' : List Int} {E : Nat → Nat → Prop} (h : Part n c0 E c E) (h' : Part n c0 E c' E) : c = c' := by
  have equiv : ∀ d : List Int, Equivalence (fun x y : Nat => lab d x = lab d y) := fun d => ⟨fun _ => rfl, fun e => e.symm, fun e f => e.trans f⟩
  have k1 : ∀ x y, x < n → y < n → lab c x = lab c y → lab c' x = lab c' y := h.min _ (equiv c') h'.old h'.eq
  have k2 : ∀ x y, x < n → y < n → lab c' x = lab c' y → lab c x = lab c y := h'.min _ (equiv c) h.old h.eq
  have half : ∀ (d d' : List Int), Can n d → Can n d' → (∀ x y, x < n → y < n → lab d x = lab d y → lab d' x = lab d' y) → ∀ x, x < n → lab d' x ≤ lab d x := fun d d' hd hd' hk x hx => by
    have h1 := hk _ x (hd.lt hx) hx (hd.idem x hx)
    have h2 := hd'.le _ (hd.lt hx)
    have h3 := hd.nn x hx
    omega
  refine List.ext_getElem (by rw [h.can.len, h'.can.len]) fun i hi hi' => ?_
  rw [h.can.len] at hi
  have e1 := half c c' h.can h'.can k1 i hi
  have e2 := half c' c h'.can h.can k2 i hi
  have e3 : lab c i = lab c' i := by omega
  unfold lab at e3
  rw [List.getD_eq_getElem?_getD, List.getD_eq_getElem?_getD, List.getElem?_eq_getElem (by rw [h.can.len]; exact hi), List.getElem?_eq_getElem (by rw [h'.can.len]; exact hi)] at e3
  exact e3
open Classical in
@[irreducible] noncomputable def canR (n : Nat) (c0 : List Int) (q : Nat → Sq) : List Int := if h : ∃ c, Part n c0 (fun x y => q x = q y) c (fun x y => q x = q y) then h.choose else []
theorem canR_of {n : Nat} {c0 c : List Int} {q : Nat → Sq} (h : Part n c0 (fun x y => q x = q y) c (fun x y => q x = q y)) : c = canR n c0 q := by
  unfold canR
  rw [dif_pos ⟨c, h⟩]
  exact part_uniq h (Exists.choose_spec (⟨c, h⟩ : ∃ c, Part n c0 (fun x y => q x = q y) c (fun x y => q x = q y)))
def rngI (n : Nat) : List Int := (List.range n).map fun (i : Nat) => (i : Int)
theorem rngI_len (n : Nat) : (rngI n).length = n := by unfold rngI; simp
theorem rngI_lab {n i : Nat} (h : i < n) : lab (rngI n) i = i := by
  unfold lab rngI
  rw [List.getD_eq_getElem?_getD, List.getElem?_map, List.getElem?_range h]; rfl
theorem rngI_can (n : Nat) : Can n (rngI n) :=
  ⟨rngI_len n, fun i hi => by rw [rngI_lab hi]; omega, fun i hi => by rw [rngI_lab hi]; omega, fun i hi => by rw [rngI_lab hi]; simp only [Int.toNat_natCast]; rw [rngI_lab hi]⟩
structure MapI (q : Nat → Sq) (k : Nat) (es : List ((ByteArray × ByteArray) × Int)) : Prop where
  old : ∀ e ∈ es, ∃ l : Nat, l < k ∧ e.2 = l ∧ q l = e.1
  all : ∀ l, l < k → ∃ e ∈ es, e.1 = q l
theorem entB_eq (s : Sq) (e : (ByteArray × ByteArray) × Int) : entB s.1 s.2 e = true ↔ e.1 = s := by
  unfold entB
  rw [Bool.and_eq_true, decide_eq_true_iff, decide_eq_true_iff]
  exact ⟨fun h => Prod.ext h.1.symm h.2.symm, fun h => by rw [h]; exact ⟨rfl, rfl⟩⟩
theorem MapI.some {q : Nat → Sq} {k : Nat} {es : List ((ByteArray × ByteArray) × Int)} (h : MapI q k es) (hs : hasM es (q k).1 (q k).2 = true) : ∃ l : Nat, l < k ∧ valM es (q k).1 (q k).2 = l ∧ q l = q k := by
  unfold hasM at hs
  unfold valM
  cases hf : es.find? (entB (q k).1 (q k).2) with
  | none => rw [hf] at hs; cases hs
  | some e =>
    have h1 := List.find?_some hf
    have h2 := List.mem_of_find?_eq_some hf
    obtain ⟨l, h3, h4, h5⟩ := h.old e h2
    exact ⟨l, h3, h4, h5.trans ((entB_eq _ _).1 h1)⟩
theorem MapI.none {q : Nat → Sq} {k : Nat} {es : List ((ByteArray × ByteArray) × Int)} (h : MapI q k es) (hs : hasM es (q k).1 (q k).2 = false) : ∀ l, l < k → q l ≠ q k := fun l hl e => by
  obtain ⟨f, hf, h1⟩ := h.all l hl
  unfold hasM at hs
  rw [Option.isSome_eq_false_iff, Option.isNone_iff_eq_none, List.find?_eq_none] at hs
  exact hs f hf ((entB_eq _ _).2 (h1.trans e))
theorem MapI.push {q : Nat → Sq} {k : Nat} {es : List ((ByteArray × ByteArray) × Int)} (h : MapI q k es) : MapI q (k + 1) (es ++ [(q k, (k : Int))]) := by
  refine ⟨fun e he => ?_, fun l hl => ?_⟩
  · rcases List.mem_append.1 he with he | he
    · obtain ⟨l, h1, h2⟩ := h.old e he
      exact ⟨l, by omega, h2⟩
    · rw [List.mem_singleton] at he
      subst he
      exact ⟨k, by omega, rfl, rfl⟩
  · rcases Nat.lt_or_ge l k with h' | h'
    · obtain ⟨e, h1, h2⟩ := h.all l h'
      exact ⟨e, List.mem_append_left _ h1, h2⟩
    · obtain rfl : l = k := by omega
      exact ⟨_, List.mem_append_right _ (List.mem_singleton.2 rfl), rfl⟩
theorem MapI.keep {q : Nat → Sq} {k l : Nat} {es : List ((ByteArray × ByteArray) × Int)} (h : MapI q k es) (hl : l < k) (e : q l = q k) : MapI q (k + 1) es := by
  refine ⟨fun f hf => ?_, fun m hm => ?_⟩
  · obtain ⟨l, h1, h2⟩ := h.old f hf
    exact ⟨l, by omega, h2⟩
  · rcases Nat.lt_or_ge m k with h' | h'
    · exact h.all m h'
    · obtain rfl : m = k := by omega
      obtain ⟨f, h1, h2⟩ := h.all l hl
      exact ⟨f, h1, h2.trans e⟩
abbrev StP (n : Nat) (c0 : List Int) (q : Nat → Sq) (k : Nat) (c : List Int) : Prop := Part n c0 (fun x y => q x = q y) c (fun x y => x < k ∧ y < k ∧ q x = q y)
theorem StP.start {n : Nat} {c0 : List Int} (q : Nat → Sq) (h : Can n c0) : StP n c0 q 0 c0 := Part.start h fun x y hd => absurd hd.1 (Nat.not_lt_zero _)
theorem StP.new {n : Nat} {c0 c : List Int} {q : Nat → Sq} {k : Nat} (h : StP n c0 q k c) (hn : ∀ l, l < k → q l ≠ q k) : StP n c0 q (k + 1) c :=
  h.mono fun x y hx hy ⟨h1, h2, h3⟩ => by
    rcases Nat.lt_or_ge x k with hxk | hxk <;> rcases Nat.lt_or_ge y k with hyk | hyk
    · exact h.eq x y hx hy ⟨hxk, hyk, h3⟩
    · obtain rfl : y = k := by omega
      exact absurd h3 (hn x hxk)
    · obtain rfl : x = k := by omega
      exact absurd h3.symm (hn y hyk)
    · obtain rfl : x = k := by omega
      obtain rfl : y = x := by omega
      rfl
theorem StP.known {n : Nat} {c0 c : List Int} {q : Nat → Sq} {k l : Nat} (h : StP n c0 q k c) (hk : k < n) (hl : l < k) (e : q l = q k) :
    StP n c0 q (k + 1) (c.map (mrg (min (lab c k) (lab c l)) (max (lab c k) (lab c l)))) := by
  have fin : ∀ c', Part n c0 (fun x y => q x = q y) c' (fun x y => x < k ∧ y < k ∧ q x = q y) → lab c' k = lab c' l → StP n c0 q (k + 1) c' := fun c' h' hkl =>
    h'.mono fun x y hx hy ⟨h1, h2, h3⟩ => by
      have tok : ∀ z, z < k → q z = q k → lab c' z = lab c' k := fun z hz hq => by rw [hkl]; exact h'.eq z l (by omega) (by omega) ⟨hz, hl, hq.trans e.symm⟩
      rcases Nat.lt_or_ge x k with hxk | hxk <;> rcases Nat.lt_or_ge y k with hyk | hyk
      · exact h'.eq x y hx hy ⟨hxk, hyk, h3⟩
      · obtain rfl : y = k := by omega
        exact tok x hxk h3
      · obtain rfl : x = k := by omega
        exact (tok y hyk h3.symm).symm
      · obtain rfl : x = k := by omega
        obtain rfl : y = x := by omega
        rfl
  rcases Int.le_total (lab c k) (lab c l) with hle | hle
  · rw [Int.min_eq_left hle, Int.max_eq_right hle]
    obtain ⟨h1, _, h3⟩ := h.merge hk (by omega) hle (.inl e.symm)
    exact fin _ h1 h3
  · rw [Int.min_eq_right hle, Int.max_eq_left hle]
    obtain ⟨h1, _, h3⟩ := h.merge (by omega) hk hle (.inl e)
    exact fin _ h1 h3.symm
theorem StP.done {n : Nat} {c0 c : List Int} {q : Nat → Sq} (h : StP n c0 q n c) : c = canR n c0 q :=
  canR_of (h.mono fun x y hx hy e => h.eq x y hx hy ⟨hx, hy, e⟩)
abbrev StS (n : Nat) (c0 : List Int) (q : Nat → Sq) (k l : Nat) (c : List Int) : Prop := Part n c0 (fun x y => q x = q y) c (fun x y => q x = q y ∧ x < y ∧ (x < k ∨ (x = k ∧ y < l)))
theorem StS.start {n : Nat} {c0 : List Int} (q : Nat → Sq) (h : Can n c0) : StS n c0 q 0 1 c0 := Part.start h fun x y ⟨_, h1, h2⟩ => by omega
theorem StS.next {n : Nat} {c0 c : List Int} {q : Nat → Sq} {k : Nat} (h : StS n c0 q k n c) : StS n c0 q (k + 1) (k + 2) c :=
  h.mono fun x y hx hy ⟨h1, h2, h3⟩ => h.eq x y hx hy ⟨h1, h2, by omega⟩
theorem StS.skip {n : Nat} {c0 c : List Int} {q : Nat → Sq} {k l : Nat} (h : StS n c0 q k l c) (hn : q k ≠ q l ∨ lab c k = lab c l) : StS n c0 q k (l + 1) c :=
  h.mono fun x y hx hy ⟨h1, h2, h3⟩ => by
    by_cases e : x = k ∧ y = l
    · obtain ⟨rfl, rfl⟩ := e
      rcases hn with hn | hn
      · exact absurd h1 hn
      · exact hn
    · exact h.eq x y hx hy ⟨h1, h2, by omega⟩
theorem StS.join {n : Nat} {c0 c : List Int} {q : Nat → Sq} {k l : Nat} (h : StS n c0 q k l c) (hk : k < n) (hl : l < n) (e : q k = q l) :
    StS n c0 q k (l + 1) (c.map (mrg (min (lab c k) (lab c l)) (max (lab c k) (lab c l)))) := by
  have fin : ∀ c', Part n c0 (fun x y => q x = q y) c' (fun x y => q x = q y ∧ x < y ∧ (x < k ∨ (x = k ∧ y < l))) → lab c' k = lab c' l → StS n c0 q k (l + 1) c' := fun c' h' hkl =>
    h'.mono fun x y hx hy ⟨h1, h2, h3⟩ => by
      by_cases e : x = k ∧ y = l
      · obtain ⟨rfl, rfl⟩ := e
        exact hkl
      · exact h'.eq x y hx hy ⟨h1, h2, by omega⟩
  rcases Int.le_total (lab c k) (lab c l) with hle | hle
  · rw [Int.min_eq_left hle, Int.max_eq_right hle]
    obtain ⟨h1, _, h3⟩ := h.merge hk hl hle (.inl e)
    exact fin _ h1 h3
  · rw [Int.min_eq_right hle, Int.max_eq_left hle]
    obtain ⟨h1, _, h3⟩ := h.merge hl hk hle (.inl e.symm)
    exact fin _ h1 h3.symm
theorem StS.done {n m : Nat} {c0 c : List Int} {q : Nat → Sq} (h : StS n c0 q n m c) : c = canR n c0 q :=
  canR_of (h.mono fun x y hx hy e => by
    rcases Nat.lt_trichotomy x y with hlt | rfl | hgt
    · exact h.eq x y hx hy ⟨e, hlt, .inl hx⟩
    · rfl
    · exact (h.eq y x hy hx ⟨e.symm, hgt, .inl hy⟩).symm)
theorem canR_can {n : Nat} {c0 c : List Int} {q : Nat → Sq} (h : StP n c0 q n c) : Can n (canR n c0 q) := by rw [← h.done]; exact h.can
def ownL (c : List Int) (g h : Nat) : List Int := ((List.range h).filter fun l => decide (lab c l = (g : Int))).map fun (l : Nat) => (l : Int)
def clsG (n : Nat) (c : List Int) (g : Nat) : List (List Int) := ((List.range g).filter fun k => decide (lab c k = (k : Int))).map fun k => ownL c k n
def clsL (n : Nat) (c : List Int) : List (List Int) := clsG n c n
theorem ownL_next (c : List Int) (g h : Nat) : ownL c g (h + 1) = if lab c h = (g : Int) then ownL c g h ++ [(h : Int)] else ownL c g h := by
  unfold ownL
  rw [List.range_succ, List.filter_append, List.map_append]
  split
  · rename_i e; simp [e]
  · rename_i e; simp [e]
theorem clsG_next (n : Nat) (c : List Int) (g : Nat) : clsG n c (g + 1) = if lab c g = (g : Int) then clsG n c g ++ [ownL c g n] else clsG n c g := by
  unfold clsG
  rw [List.range_succ, List.filter_append, List.map_append]
  split
  · rename_i e; simp [e]
  · rename_i e; simp [e]
theorem ownL_ne {n : Nat} {c : List Int} (h : Can n c) {g : Nat} (hg : g < n) : ownL c g n ≠ [] ↔ lab c g = (g : Int) := by
  unfold ownL
  rw [ne_eq, List.map_eq_nil_iff, List.filter_eq_nil_iff]
  constructor
  · intro hh
    refine Classical.byContradiction fun hne => hh fun x hx => ?_
    rw [List.mem_range] at hx
    intro e
    have e := of_decide_eq_true e
    have := h.idem x hx
    rw [e] at this
    simp only [Int.toNat_natCast] at this
    exact hne this
  · intro e hh
    exact hh g (List.mem_range.2 hg) (decide_eq_true e)
theorem ownL_low {n : Nat} {c : List Int} (h : Can n c) {g : Nat} : ∀ m, m ≤ g → m ≤ n → ownL c g m = [] := fun m hm hn => by
  unfold ownL
  rw [List.map_eq_nil_iff, List.filter_eq_nil_iff]
  intro x hx e
  rw [List.mem_range] at hx
  have e := of_decide_eq_true e
  have := h.le x (by omega)
  omega
end Go.Proofs.Ytllagpbbbdekiac.Fw
