/- Plain law: a matrix is a zero of its polynomial, whose numbers follow from traces (with whole numbers all the way). -/
import Derived.Test.YtadlnnjgocknhaaK2
namespace Go.Proofs.Ytadlnnjgocknhaa.Fw
set_option linter.unusedVariables false
set_option linter.unusedSimpArgs false
/-! ### sums -/
theorem sumN_add (f g : Nat → Int) : ∀ n, sumN (fun i => f i + g i) n = sumN f n + sumN g n
  | 0 => by simp [sumN]
  | n + 1 => by simp only [sumN, sumN_add f g n]; omega
theorem sumN_sub (f g : Nat → Int) : ∀ n, sumN (fun i => f i - g i) n = sumN f n - sumN g n
  | 0 => by simp [sumN]
  | n + 1 => by simp only [sumN, sumN_sub f g n]; omega
theorem sumN_mul (c : Int) (f : Nat → Int) : ∀ n, sumN (fun i => c * f i) n = c * sumN f n
  | 0 => by simp [sumN]
  | n + 1 => by simp only [sumN, sumN_mul c f n, Int.mul_add]
theorem sumN_zero : ∀ n, sumN (fun _ => 0) n = 0
  | 0 => rfl
  | n + 1 => by simp only [sumN, sumN_zero n]; rfl
theorem sumN_swap (f : Nat → Nat → Int) (m : Nat) : ∀ n, sumN (fun i => sumN (fun j => f i j) m) n = sumN (fun j => sumN (fun i => f i j) n) m
  | 0 => by simp only [sumN]; exact (sumN_zero m).symm
  | n + 1 => by simp only [sumN, sumN_swap f m n]; rw [← sumN_add]
def dl (p c : Nat) : Int := if c = p then 1 else 0
theorem sumN_dl (f : Nat → Int) (p : Nat) : ∀ n, sumN (fun i => dl p i * f i) n = if p < n then f p else 0
  | 0 => by simp [sumN]
  | n + 1 => by
    have ih := sumN_dl f p n
    rw [sumN, ih]
    unfold dl
    by_cases h : n = p
    · subst h; rw [if_neg (Nat.lt_irrefl _), if_pos rfl, if_pos (by omega)]; omega
    · rw [if_neg h]
      by_cases h2 : p < n
      · rw [if_pos h2, if_pos (by omega)]; omega
      · rw [if_neg h2, if_neg (by omega)]; omega
theorem dl_comm (p q : Nat) : dl p q = dl q p := by
  unfold dl
  by_cases h : q = p
  · rw [if_pos h, if_pos h.symm]
  · rw [if_neg h, if_neg fun e => h e.symm]
/-! ### forms -/
/-- a row before a form -/
def wd (r : Nat → Int) : List Nat → (List Nat → Int) → Int
  | [], _ => 0
  | c :: cs, f => r c * f cs - wd r cs (fun l => f (c :: l))
theorem wd_add (r : Nat → Int) : ∀ (l : List Nat) (f g : List Nat → Int), wd r l (fun x => f x + g x) = wd r l f + wd r l g
  | [], _, _ => by simp [wd]
  | c :: l, f, g => by simp only [wd, wd_add r l (fun x => f (c :: x)) (fun x => g (c :: x)), Int.mul_add]; omega
theorem wd_smul (r : Nat → Int) (k : Int) : ∀ (l : List Nat) (f : List Nat → Int), wd r l (fun x => k * f x) = k * wd r l f
  | [], _ => by simp [wd]
  | c :: l, f => by simp only [wd, wd_smul r k l (fun x => f (c :: x)), Int.mul_sub]; rw [Int.mul_left_comm]
theorem wd_neg (r : Nat → Int) (l : List Nat) (f : List Nat → Int) : wd r l (fun x => - f x) = - wd r l f := by
  have := wd_smul r (-1) l f
  have e : (fun x => - f x) = (fun x => (-1) * f x) := funext fun x => by omega
  rw [e, this]; omega
theorem wd_sub (r : Nat → Int) (l : List Nat) (f g : List Nat → Int) : wd r l (fun x => f x - g x) = wd r l f - wd r l g := by
  have e : (fun x => f x - g x) = (fun x => f x + (- g x)) := funext fun x => by omega
  rw [e, wd_add, wd_neg]; omega
theorem wd_swap (r s : Nat → Int) : ∀ (l : List Nat) (f : List Nat → Int), wd r l (fun x => wd s x f) = - wd s l (fun x => wd r x f)
  | [], _ => by simp [wd]
  | c :: l, f => by
    have ih := wd_swap r s l (fun x => f (c :: x))
    simp only [wd, wd_sub, wd_smul]
    omega
def Alt (f : List Nat → Int) : Prop := ∀ u a b v, f (u ++ a :: b :: v) = - f (u ++ b :: a :: v)
theorem Alt.cons {f : List Nat → Int} (h : Alt f) (c : Nat) : Alt fun l => f (c :: l) := fun u a b v => h (c :: u) a b v
theorem wd_alt (r : Nat → Int) : ∀ (f : List Nat → Int), Alt f → ∀ (u : List Nat) a b v, wd r (u ++ a :: b :: v) f = - wd r (u ++ b :: a :: v) f
  | f, h, [], a, b, v => by
    have e : (fun l => f (a :: b :: l)) = fun l => - f (b :: a :: l) := funext fun l => h [] a b l
    have e2 := wd_neg r v (fun l => f (b :: a :: l))
    simp only [List.nil_append, wd]
    rw [e, e2]; omega
  | f, h, c :: u, a, b, v => by
    have e := h u a b v
    have ih := wd_alt r (fun l => f (c :: l)) (h.cons c) u a b v
    simp only [List.cons_append, wd]
    rw [e, ih, Int.mul_neg]; omega
/-- the determinant of some rows at some columns -/
def dt : List (Nat → Int) → List Nat → Int
  | [], l => if l = [] then 1 else 0
  | r :: rs, l => wd r l (dt rs)
theorem dt_alt : ∀ rs, Alt (dt rs)
  | [], u, a, b, v => by simp [dt]
  | r :: rs, u, a, b, v => wd_alt r (dt rs) (dt_alt rs) u a b v
theorem dt_rows : ∀ (us : List (Nat → Int)) (r s : Nat → Int) (vs : List (Nat → Int)) (l : List Nat), dt (us ++ r :: s :: vs) l = - dt (us ++ s :: r :: vs) l
  | [], r, s, vs, l => wd_swap r s l (dt vs)
  | t :: us, r, s, vs, l => by
    have e : dt (us ++ r :: s :: vs) = fun x => - dt (us ++ s :: r :: vs) x := funext fun x => dt_rows us r s vs x
    show wd t l (dt (us ++ r :: s :: vs)) = - wd t l (dt (us ++ s :: r :: vs))
    rw [e, wd_neg]
theorem Alt.two {f : List Nat → Int} (h : Alt f) (u : List Nat) (a : Nat) (v : List Nat) : f (u ++ a :: a :: v) = 0 := by
  have := h u a a v; omega
theorem Alt.dup {f : List Nat → Int} (h : Alt f) : ∀ (w u : List Nat) (a : Nat) (v : List Nat), f (u ++ a :: (w ++ a :: v)) = 0
  | [], u, a, v => h.two u a v
  | c :: w, u, a, v => by
    have e1 := h u a c (w ++ a :: v)
    have e2 := Alt.dup h w (u ++ [c]) a v
    simp only [List.append_assoc, List.cons_append, List.nil_append] at e1 e2 ⊢
    omega
theorem Alt.zero : ∀ (l : List Nat) (f : List Nat → Int), Alt f → ¬ l.Nodup → f l = 0
  | [], _, _, h => absurd List.nodup_nil h
  | c :: l, f, hf, h => by
    by_cases hc : c ∈ l
    · obtain ⟨w, v, rfl⟩ := List.append_of_mem hc
      exact hf.dup w [] c v
    · exact Alt.zero l (fun x => f (c :: x)) (hf.cons c) fun hl => h (List.nodup_cons.2 ⟨hc, hl⟩)
theorem nodup_len : ∀ (n : Nat) (l : List Nat), l.Nodup → (∀ x ∈ l, x < n) → l.length ≤ n
  | 0, l, _, h => by
    cases l with
    | nil => exact Nat.le_refl _
    | cons x l => exact absurd (h x (by simp)) (Nat.not_lt_zero _)
  | n + 1, l, hd, h => by
    have h1 := nodup_len n (l.erase n) (hd.erase n) fun x hx => by
      have := (List.Nodup.mem_erase_iff hd).1 hx
      have := h x this.2
      omega
    have h2 : l.length ≤ (l.erase n).length + 1 := by
      rw [List.length_erase]; split <;> omega
    omega
theorem wd_row (n : Nat) (r : Nat → Int) : ∀ (l : List Nat) (f : List Nat → Int), (∀ x ∈ l, x < n) → wd r l f = sumN (fun s => r s * wd (dl s) l f) n
  | [], f, _ => by simp only [wd, Int.mul_zero]; exact (sumN_zero n).symm
  | c :: l, f, h => by
    have ih := wd_row n r l (fun x => f (c :: x)) fun x hx => h x (by simp [hx])
    have e : (fun s => r s * wd (dl s) (c :: l) f) = fun s => dl c s * (r s * f l) - r s * wd (dl s) l (fun x => f (c :: x)) := funext fun s => by
      simp only [wd, Int.mul_sub]
      rw [dl_comm s c, Int.mul_left_comm]
    rw [e, sumN_sub, sumN_dl, if_pos (h c (by simp)), ← ih]; rfl
/-! ### sums over lists of k numbers below n -/
def smL (n : Nat) : Nat → (List Nat → Int) → Int
  | 0, F => F []
  | k + 1, F => sumN (fun i => smL n k (fun t => F (i :: t))) n
theorem smL_congr (n : Nat) : ∀ (k : Nat) {F G : List Nat → Int}, (∀ t : List Nat, t.length = k → (∀ x ∈ t, x < n) → F t = G t) → smL n k F = smL n k G
  | 0, F, G, h => h [] rfl (by simp)
  | k + 1, F, G, h => sumN_congr fun i hi => smL_congr n k fun t ht hx => h (i :: t) (by simp [ht]) (by intro x hx2; rcases List.mem_cons.1 hx2 with rfl | hx2; exact hi; exact hx x hx2)
theorem smL_add (n : Nat) : ∀ (k : Nat) (F G : List Nat → Int), smL n k (fun t => F t + G t) = smL n k F + smL n k G
  | 0, _, _ => rfl
  | k + 1, F, G => by simp only [smL, smL_add n k (fun t => F (_ :: t)) (fun t => G (_ :: t)), sumN_add]
theorem smL_mul (n : Nat) (c : Int) : ∀ (k : Nat) (F : List Nat → Int), smL n k (fun t => c * F t) = c * smL n k F
  | 0, _ => rfl
  | k + 1, F => by simp only [smL, smL_mul n c k (fun t => F (_ :: t)), sumN_mul]
theorem smL_neg (n k : Nat) (F : List Nat → Int) : smL n k (fun t => - F t) = - smL n k F := by
  have e : (fun t => - F t) = fun t => (-1) * F t := funext fun t => by omega
  rw [e, smL_mul]; omega
theorem smL_sub (n k : Nat) (F G : List Nat → Int) : smL n k (fun t => F t - G t) = smL n k F - smL n k G := by
  have e : (fun t => F t - G t) = fun t => F t + (- G t) := funext fun t => by omega
  rw [e, smL_add, smL_neg]; omega
theorem smL_zero (n k : Nat) : smL n k (fun _ => 0) = 0 := by
  have := smL_mul n 0 k (fun _ => 0)
  simpa using this
theorem smL_sum (n k : Nat) (F : Nat → List Nat → Int) : ∀ m, smL n k (fun t => sumN (fun s => F s t) m) = sumN (fun s => smL n k (F s)) m
  | 0 => by simp only [sumN]; exact smL_zero n k
  | m + 1 => by simp only [sumN, smL_add, smL_sum n k F m]
/-- a column that is led to a place of the list -/
theorem smL_lead (n p : Nat) (hp : p < n) : ∀ (k : Nat) (G : List Nat → List Nat → Int), (∀ u a b v l, G (u ++ a :: b :: v) l = - G (u ++ b :: a :: v) l) →
    smL n (k + 1) (fun t => wd (dl p) t (G t)) = ((k + 1 : Nat) : Int) * smL n k (fun t => G (p :: t) t)
  | 0, G, hG => by
    have e : (fun i => smL n 0 (fun t => wd (dl p) (i :: t) (G (i :: t)))) = fun i => dl p i * G [i] [] := funext fun i => by simp only [smL, wd]; omega
    show sumN (fun i => smL n 0 (fun t => wd (dl p) (i :: t) (G (i :: t)))) n = _
    rw [e, sumN_dl, if_pos hp]; simp only [smL]; omega
  | k + 1, G, hG => by
    have ih := fun i => smL_lead n p hp k (fun t l => G (i :: t) (i :: l)) fun u a b v l => hG (i :: u) a b v (i :: l)
    have e : (fun i => smL n (k + 1) (fun t => wd (dl p) (i :: t) (G (i :: t)))) = fun i => dl p i * smL n (k + 1) (fun t => G (i :: t) t) - ((k + 1 : Nat) : Int) * smL n k (fun t => G (i :: p :: t) (i :: t)) := funext fun i => by
      have e1 : (fun t => wd (dl p) (i :: t) (G (i :: t))) = fun t => dl p i * G (i :: t) t - wd (dl p) t (fun l => G (i :: t) (i :: l)) := funext fun t => rfl
      rw [e1, smL_sub, smL_mul, ih i]
    show sumN (fun i => smL n (k + 1) (fun t => wd (dl p) (i :: t) (G (i :: t)))) n = _
    rw [e, sumN_sub, sumN_dl, if_pos hp, sumN_mul]
    have e2 : sumN (fun i => smL n k (fun t => G (i :: p :: t) (i :: t))) n = - smL n (k + 1) (fun t => G (p :: t) t) := by
      have e3 : (fun i => smL n k (fun t => G (i :: p :: t) (i :: t))) = fun i => (-1) * smL n k (fun t => G (p :: i :: t) (i :: t)) := funext fun i => by
        rw [← smL_mul]
        exact congrArg (smL n k) (funext fun t => by have := hG [] i p t (i :: t); simp only [List.nil_append] at this; omega)
      rw [e3, sumN_mul]
      show (-1) * smL n (k + 1) (fun t => G (p :: t) t) = _
      omega
    rw [e2, Int.mul_neg]
    have e4 : ((k + 1 + 1 : Nat) : Int) = ((k + 1 : Nat) : Int) + 1 := by omega
    rw [e4, Int.add_mul]; omega
/-! ### the traces of the minors -/
section
variable (n : Nat) (A : Nat → Nat → Int)
def tT (k p q : Nat) : Int := smL n k fun t => dt (dl p :: t.map A) (q :: t)
def tE (k : Nat) : Int := smL n k fun t => dt (t.map A) t
theorem tT_row (k p q : Nat) (hq : q < n) : smL n k (fun t => dt (A p :: t.map A) (q :: t)) = sumN (fun s => A p s * tT n A k s q) n := by
  have e : smL n k (fun t => dt (A p :: t.map A) (q :: t)) = smL n k (fun t => sumN (fun s => A p s * dt (dl s :: t.map A) (q :: t)) n) := smL_congr n k fun t _ hx => by
    refine wd_row n (A p) (q :: t) (dt (t.map A)) fun x h => ?_
    rcases List.mem_cons.1 h with rfl | h
    · exact hq
    · exact hx x h
  rw [e, smL_sum]
  exact sumN_congr fun s _ => smL_mul n (A p s) k _
theorem tE_succ (k : Nat) : tE n A (k + 1) = sumN (fun i => sumN (fun s => A i s * tT n A k s i) n) n := sumN_congr fun i hi => tT_row n A k i i hi
theorem tT_zero (p q : Nat) : tT n A 0 p q = dl p q := by simp [tT, smL, dt, wd]
theorem tT_succ (k p q : Nat) (hp : p < n) (hq : q < n) : tT n A (k + 1) p q = dl p q * tE n A (k + 1) - ((k + 1 : Nat) : Int) * sumN (fun s => A p s * tT n A k s q) n := by
  have e : (fun t => dt (dl p :: List.map A t) (q :: t)) = fun t => dl p q * dt (t.map A) t - wd (dl p) t ((fun t l => dt (t.map A) (q :: l)) t) := funext fun t => rfl
  unfold tT
  rw [e, smL_sub, smL_mul, smL_lead n p hp k (fun t l => dt (t.map A) (q :: l)) fun u a b v l => by
    simp only [List.map_append, List.map_cons]; exact dt_rows _ _ _ _ _]
  have := tT_row n A k p q hq
  simp only [List.map_cons]
  rw [this]; rfl
theorem tT_last (p q : Nat) (hq : q < n) : tT n A n p q = 0 := by
  unfold tT
  rw [← smL_zero n n]
  refine smL_congr n n fun t ht hx => ?_
  refine Alt.zero (q :: t) _ (dt_alt _) fun hd => ?_
  have := nodup_len n (q :: t) hd fun x h => by
    rcases List.mem_cons.1 h with rfl | h
    · exact hq
    · exact hx x h
  simp at this; omega
end
def fcI : Nat → Int
  | 0 => 1
  | k + 1 => ((k + 1 : Nat) : Int) * fcI k
theorem fcI_ne : ∀ k, fcI k ≠ 0
  | 0 => by decide
  | k + 1 => Int.mul_ne_zero (by omega) (fcI_ne k)
structure Sym (F : List Nat → Int) : Prop where
  swap : ∀ u a b v, F (u ++ a :: b :: v) = F (u ++ b :: a :: v)
  two : ∀ u a v, F (u ++ a :: a :: v) = 0
theorem Sym.cons {F : List Nat → Int} (h : Sym F) (c : Nat) : Sym fun l => F (c :: l) := ⟨fun u a b v => h.swap (c :: u) a b v, fun u a v => h.two (c :: u) a v⟩
theorem smL_more (n : Nat) : ∀ (k : Nat) (F : List Nat → Int), Sym F → smL (n + 1) (k + 1) F = smL n (k + 1) F + ((k + 1 : Nat) : Int) * smL n k (fun t => F (n :: t))
  | 0, F, h => by simp only [smL, sumN]; omega
  | k + 1, F, h => by
    have e1 : smL (n + 1) (k + 1 + 1) F = sumN (fun i => smL (n + 1) (k + 1) (fun t => F (i :: t))) n + smL (n + 1) (k + 1) (fun t => F (n :: t)) := rfl
    have e2 : sumN (fun i => smL (n + 1) (k + 1) (fun t => F (i :: t))) n = sumN (fun i => smL n (k + 1) (fun t => F (i :: t)) + ((k + 1 : Nat) : Int) * smL n k (fun t => F (n :: i :: t))) n := sumN_congr fun i _ => by
      rw [smL_more n k _ (h.cons i)]
      have : (fun t => F (i :: n :: t)) = fun t => F (n :: i :: t) := funext fun t => h.swap [] i n t
      rw [this]
    have e3 := smL_more n k _ (h.cons n)
    have e4 : smL n k (fun t => F (n :: n :: t)) = 0 := by
      have : (fun t => F (n :: n :: t)) = fun _ => 0 := funext fun t => h.two [] n t
      rw [this]; exact smL_zero n k
    have e5 : sumN (fun i => smL n k (fun t => F (n :: i :: t))) n = smL n (k + 1) (fun t => F (n :: t)) := rfl
    have e6 : sumN (fun i => smL n (k + 1) (fun t => F (i :: t))) n = smL n (k + 1 + 1) F := rfl
    have e7 : ((k + 1 + 1 : Nat) : Int) = ((k + 1 : Nat) : Int) + 1 := by omega
    rw [e1, e2, sumN_add, sumN_mul, e3, e4, e5, e6, e7, Int.add_mul]; omega
theorem smL_fc : ∀ (n k : Nat) (F : List Nat → Int), Sym F → ∃ e, smL n k F = fcI k * e
  | n, 0, F, _ => ⟨F [], by simp [smL, fcI]⟩
  | 0, k + 1, F, _ => ⟨0, by simp [smL, sumN]⟩
  | n + 1, k + 1, F, h => by
    obtain ⟨e1, h1⟩ := smL_fc n (k + 1) F h
    obtain ⟨e2, h2⟩ := smL_fc n k _ (h.cons n)
    refine ⟨e1 + e2, ?_⟩
    rw [smL_more n k F h, h1, h2, Int.mul_add]
    show _ + _ * (fcI k * e2) = _ + (_ * fcI k) * e2
    rw [Int.mul_assoc]
theorem tE_sym (A : Nat → Nat → Int) : Sym fun t => dt (t.map A) t := ⟨fun u a b v => by
    simp only [List.map_append, List.map_cons]
    rw [dt_rows, dt_alt _ u a b v]; omega, fun u a v => (dt_alt _).two u a v⟩
theorem tE_fc (n : Nat) (A : Nat → Nat → Int) (k : Nat) : ∃ e, tE n A k = fcI k * e := smL_fc n k _ (tE_sym A)
/-! ### the matrices and the numbers that follow from traces -/
def sgI : Nat → Int
  | 0 => 1
  | k + 1 => - sgI k
theorem sgI_sq : ∀ k, sgI k * sgI k = 1
  | 0 => rfl
  | k + 1 => by rw [sgI, Int.neg_mul_neg, sgI_sq k]
section
variable (n : Nat) (A : Nat → Nat → Int)
def mA (M : Nat → Nat → Int) (p q : Nat) : Int := sumN (fun s => A p s * M s q) n
def trA (M : Nat → Nat → Int) : Int := sumN (fun i => mA n A M i i) n
/-- the matrices: each is the product with the one before, and a number at the diagonal -/
def fM : Nat → Nat → Nat → Int
  | 0, p, q => dl p q
  | k + 1, p, q => mA n A (fM k) p q + (- trA n A (fM k)).tdiv ((k + 1 : Nat) : Int) * dl p q
def fC : Nat → Int
  | 0 => 1
  | k + 1 => (- trA n A (fM n A k)).tdiv ((k + 1 : Nat) : Int)
theorem fM_tT : ∀ k p q, p < n → q < n → tT n A k p q = sgI k * (fcI k * fM n A k p q)
  | 0, p, q, hp, hq => by rw [tT_zero]; simp [sgI, fcI, fM]
  | k + 1, p, q, hp, hq => by
    have ih := fM_tT k
    have e1 : ∀ i j, i < n → j < n → sumN (fun s => A i s * tT n A k s j) n = sgI k * (fcI k * mA n A (fM n A k) i j) := fun i j hi hj => by
      unfold mA
      rw [← sumN_mul, ← sumN_mul]
      exact sumN_congr fun s hs => by rw [ih s j hs hj, Int.mul_left_comm (A i s), Int.mul_left_comm (A i s)]
    have e2 : tE n A (k + 1) = sgI k * (fcI k * trA n A (fM n A k)) := by
      rw [tE_succ]
      unfold trA
      rw [← sumN_mul, ← sumN_mul]
      exact sumN_congr fun i hi => e1 i i hi hi
    obtain ⟨e, he⟩ := tE_fc n A (k + 1)
    have e3 : trA n A (fM n A k) = ((k + 1 : Nat) : Int) * (sgI k * e) := by
      have h1 : fcI k * (sgI k * trA n A (fM n A k)) = fcI k * (((k + 1 : Nat) : Int) * e) := by
        rw [Int.mul_left_comm, ← e2, he, fcI, Int.mul_left_comm, Int.mul_assoc]
      have h2 := Int.eq_of_mul_eq_mul_left (fcI_ne k) h1
      have h3 : sgI k * (sgI k * trA n A (fM n A k)) = sgI k * (((k + 1 : Nat) : Int) * e) := by rw [h2]
      rw [← Int.mul_assoc, sgI_sq, Int.one_mul] at h3
      rw [h3, Int.mul_left_comm]
    have e4 : (- trA n A (fM n A k)).tdiv ((k + 1 : Nat) : Int) = - (sgI k * e) := by
      rw [e3, ← Int.mul_neg]
      exact Int.mul_tdiv_cancel_left _ (by omega)
    rw [tT_succ n A k p q hp hq, e1 p q hp hq, fM, e4, he]
    show dl p q * ((((k + 1 : Nat) : Int) * fcI k) * e) - _ = - sgI k * (((((k + 1 : Nat) : Int)) * fcI k) * _)
    generalize mA n A (fM n A k) p q = m
    generalize ((k + 1 : Nat) : Int) = c
    generalize fcI k = f
    generalize dl p q = d
    have hs := sgI_sq k
    generalize sgI k = s at hs
    grind
theorem fM_last (p q : Nat) (hp : p < n) (hq : q < n) : fM n A n p q = 0 := by
  have h := fM_tT n A n p q hp hq
  rw [tT_last n A p q hq] at h
  have h1 : sgI n * (sgI n * (fcI n * fM n A n p q)) = 0 := by rw [← h]; exact Int.mul_zero _
  rw [← Int.mul_assoc, sgI_sq, Int.one_mul] at h1
  rcases Int.mul_eq_zero.1 h1 with h2 | h2
  · exact absurd h2 (fcI_ne n)
  · exact h2
/-! ### powers -/
def pW : Nat → Nat → Nat → Int
  | 0, p, q => dl p q
  | k + 1, p, q => sumN (fun s => pW k p s * A s q) n
theorem pW_comm : ∀ k p q, p < n → q < n → mA n A (pW n A k) p q = pW n A (k + 1) p q
  | 0, p, q, hp, hq => by
    have e1 : (fun s => A p s * pW n A 0 s q) = fun s => dl q s * A p s := funext fun s => by show A p s * dl s q = _; rw [dl_comm, Int.mul_comm]
    have e2 : (fun s => pW n A 0 p s * A s q) = fun s => dl p s * A s q := rfl
    show sumN (fun s => A p s * pW n A 0 s q) n = sumN (fun s => pW n A 0 p s * A s q) n
    rw [e1, e2, sumN_dl, sumN_dl, if_pos hp, if_pos hq]
  | k + 1, p, q, hp, hq => by
    have ih := pW_comm k
    have e1 : mA n A (pW n A (k + 1)) p q = sumN (fun s => sumN (fun t => A p s * (pW n A k s t * A t q)) n) n := sumN_congr fun s _ => by
      show A p s * sumN (fun t => pW n A k s t * A t q) n = _
      rw [← sumN_mul]
    have e2 : pW n A (k + 1 + 1) p q = sumN (fun t => sumN (fun s => A p s * (pW n A k s t * A t q)) n) n := sumN_congr fun t ht => by
      rw [← ih p t hp ht]
      show sumN (fun s => A p s * pW n A k s t) n * A t q = _
      rw [Int.mul_comm, ← sumN_mul]
      exact sumN_congr fun s _ => by rw [Int.mul_comm (A t q), Int.mul_assoc]
    rw [e1, e2, sumN_swap]
theorem fM_sum : ∀ k p q, p < n → q < n → fM n A k p q = sumN (fun j => fC n A (k - j) * pW n A j p q) (k + 1)
  | 0, p, q, hp, hq => by simp [fM, sumN, fC, pW]
  | k + 1, p, q, hp, hq => by
    have ih := fM_sum k
    have e1 : mA n A (fM n A k) p q = sumN (fun j => fC n A (k - j) * pW n A (j + 1) p q) (k + 1) := by
      have : mA n A (fM n A k) p q = sumN (fun s => sumN (fun j => A p s * (fC n A (k - j) * pW n A j s q)) (k + 1)) n := sumN_congr fun s hs => by
        rw [ih s q hs hq, ← sumN_mul]
      rw [this, sumN_swap]
      refine sumN_congr fun j _ => ?_
      rw [← pW_comm n A j p q hp hq]
      unfold mA
      rw [← sumN_mul]
      exact sumN_congr fun s _ => Int.mul_left_comm _ _ _
    have e2 : ∀ (f : Nat → Int) m, sumN f (m + 1) = f 0 + sumN (fun j => f (j + 1)) m := fun f m => by
      induction m with
      | zero => simp [sumN]
      | succ m ih => rw [sumN, ih, sumN]; omega
    rw [e2 _ (k + 1)]
    show mA n A (fM n A k) p q + fC n A (k + 1) * dl p q = fC n A (k + 1) * dl p q + _
    rw [e1]
    have e3 : (fun j => fC n A (k + 1 - (j + 1)) * pW n A (j + 1) p q) = fun j => fC n A (k - j) * pW n A (j + 1) p q := funext fun j => by rw [Nat.add_sub_add_right]
    rw [e3]; omega
/-- A matrix is a zero of its polynomial. -/
theorem zero_of (p q : Nat) (hp : p < n) (hq : q < n) : sumN (fun j => fC n A (n - j) * pW n A j p q) (n + 1) = 0 := by
  rw [← fM_sum n A n p q hp hq]; exact fM_last n A p q hp hq
end
end Go.Proofs.Ytadlnnjgocknhaa.Fw
