/- Contracts: slices.SortFunc over ray pairs. -/
import Derived.Test.YtlplngafncobkabP3
import Derived.Shelf.SlSortCmp.NoneTotal
import Derived.Shelf.SlGeneric
import Derived.Ground.SlsfProg
import Derived.Lib.QuietBelow
namespace Go.Proofs.Ytlplngafncobkab.Fw
open Go Go.RowKit Go.Sort Go.Shelf Go.Lib
set_option linter.unusedVariables false
set_option linter.unusedSimpArgs false
set_option maxRecDepth 100000
set_option maxHeartbeats 2000000

/-! ### the kit's contract of the sort, at this program (this part was written by the kit's lay-plain) -/
def sortP_ren : Go.Shelf.Ren := ⟨fun | 6 => 94 | 15 => 124 | 14 => 123 | 28 => 138 | 29 => 139 | 20 => 130 | 21 => 131 | 22 => 132 | 23 => 133 | 24 => 134 | 25 => 135 | 26 => 136 | 27 => 137 | 46 => 141 | 47 => 142 | 48 => 143 | 49 => 144 | 50 => 145 | 57 => 146 | n => n, fun | 22 => 24 | 24 => 36 | 25 => 87 | 3 => 3 | 39 => 95 | 0 => 0 | 53 => 124 | 55 => 71 | 4 => 4 | 46 => 117 | 45 => 116 | 50 => 121 | 5 => 5 | 9 => 9 | 66 => 126 | 70 => 130 | 76 => 132 | 77 => 133 | n => n, fun | n => n⟩
theorem sortP : Go.Proofs.SlLaysF0.n6 Try.prog sortP_ren := {
  mixed := by kernel_rfl
  f6 := ⟨Try.f94.name, by decide, Try.func94.trans (congrArg some (by kernel_rfl))⟩
  f14 := ⟨Try.f123.name, by decide, Try.func123.trans (congrArg some (by kernel_rfl))⟩
  f15 := Try.func124.trans (congrArg some (by kernel_rfl))
  f20 := ⟨Try.f130.name, by decide, Try.func130.trans (congrArg some (by kernel_rfl))⟩
  f21 := ⟨Try.f131.name, by decide, Try.func131.trans (congrArg some (by kernel_rfl))⟩
  f22 := ⟨Try.f132.name, by decide, Try.func132.trans (congrArg some (by kernel_rfl))⟩
  f23 := ⟨Try.f133.name, by decide, Try.func133.trans (congrArg some (by kernel_rfl))⟩
  f24 := ⟨Try.f134.name, by decide, Try.func134.trans (congrArg some (by kernel_rfl))⟩
  f25 := ⟨Try.f135.name, by decide, Try.func135.trans (congrArg some (by kernel_rfl))⟩
  f26 := ⟨Try.f136.name, by decide, Try.func136.trans (congrArg some (by kernel_rfl))⟩
  f27 := ⟨Try.f137.name, by decide, Try.func137.trans (congrArg some (by kernel_rfl))⟩
  f28 := Try.func138.trans (congrArg some (by kernel_rfl))
  f29 := Try.func139.trans (congrArg some (by kernel_rfl))
  f46 := ⟨Try.f141.name, by decide, Try.func141.trans (congrArg some (by kernel_rfl))⟩
  f47 := Try.func142.trans (congrArg some (by kernel_rfl))
  f48 := Try.func143.trans (congrArg some (by kernel_rfl))
  f49 := ⟨Try.f144.name, by decide, Try.func144.trans (congrArg some (by kernel_rfl))⟩
  f50 := ⟨Try.f145.name, by decide, Try.func145.trans (congrArg some (by kernel_rfl))⟩
  f57 := ⟨Try.f146.name, by decide, Try.func146.trans (congrArg some (by kernel_rfl))⟩
  t0 := Try.underlying0
  a0 := Try.isAgg0
  z0 := Try.sizeOf0
  v0 := Try.zeroValue0
  t3 := Try.underlying3
  a3 := Try.isAgg3
  z3 := Try.sizeOf3
  v3 := Try.zeroValue3
  t4 := Try.underlying4
  a4 := Try.isAgg4
  z4 := Try.sizeOf4
  v4 := Try.zeroValue4
  t5 := Try.underlying5
  a5 := Try.isAgg5
  z5 := Try.sizeOf5
  v5 := Try.zeroValue5
  t9 := Try.underlying9
  a9 := Try.isAgg9
  z9 := Try.sizeOf9
  v9 := Try.zeroValue9
  t22 := Try.underlying24
  a22 := Try.isAgg24
  z22 := Try.sizeOf24
  v22 := Try.zeroValue24
  t25 := Try.underlying87
  a25 := Try.isAgg87
  z25 := Try.sizeOf87
  v25 := Try.zeroValue87
  t39 := Try.underlying95
  a39 := Try.isAgg95
  z39 := Try.sizeOf95
  v39 := Try.zeroValue95
  t45 := Try.underlying116
  a45 := Try.isAgg116
  z45 := Try.sizeOf116
  v45 := Try.zeroValue116
  t46 := Try.underlying117
  a46 := Try.isAgg117
  z46 := Try.sizeOf117
  v46 := Try.zeroValue117
  t50 := Try.underlying121
  a50 := Try.isAgg121
  z50 := Try.sizeOf121
  v50 := Try.zeroValue121
  t53 := Try.underlying124
  a53 := Try.isAgg124
  z53 := Try.sizeOf124
  v53 := Try.zeroValue124
  t55 := Try.underlying71
  a55 := Try.isAgg71
  z55 := Try.sizeOf71
  v55 := Try.zeroValue71
  t66 := Try.underlying126
  a66 := Try.isAgg126
  z66 := Try.sizeOf126
  v66 := Try.zeroValue126
  t70 := Try.underlying130
  a70 := Try.isAgg130
  z70 := Try.sizeOf130
  v70 := Try.zeroValue130
  t76 := Try.underlying132
  a76 := Try.isAgg132
  z76 := Try.sizeOf132
  v76 := Try.zeroValue132
  t77 := Try.underlying133
  a77 := Try.isAgg133
  z77 := Try.sizeOf133
  v77 := Try.zeroValue133 }


theorem grown_of_blw {w w' : World} (h : Blw w.heap.size w w') : ∃ q os', w' = grow (w.drewN q) os' := by
  obtain ⟨p, hp⟩ := regrown_of_below h.toBelow
  have hd : w'.drawn = p.d := by rw [hp]; rfl
  have h2 := h.drawn
  refine ⟨p.d - w.drawn, p.os, ?_⟩
  rw [hp]
  have : redrawn w p.d = w.drewN (p.d - w.drawn) := by
    unfold redrawn World.drewN
    congr 1
    omega
  rw [this]

abbrev PL : Type := {p : Lf // IsL p}
instance : Inhabited PL := ⟨⟨((0, 1), (1, 2)), by decide⟩⟩
def encP (p : PL) : List Value := [.int .i64 p.1.1.1, .int .i64 p.1.1.2, .int .i64 p.1.2.1, .int .i64 p.1.2.2]
/-- What is asked of the comparing function. -/
def cmpPC (cf : Lf → Lf → Int) : PCtr := fun _ _ _ vals k => match vals with
  | [.agg [.int .i64 n, .int .i64 d, .int .i64 m, .int .i64 e], .agg [.int .i64 n', .int .i64 d', .int .i64 m', .int .i64 e']] =>
    (IsL ((n, d), (m, e)) ∧ IsL ((n', d'), (m', e'))) ∧ k [] (.int .i64 (cf ((n, d), (m, e)) ((n', d'), (m', e'))))
  | _ => False
def sortC (g : FuncId) (cf : Lf → Lf → Int) : MCtr := fun hg rg _ vals k => match vals with
  | [.row i, .fn f [] []] => isF f g (rowO lT (rg i) fun e xs => ((∀ x ∈ (xs : List Lf), IsL x) ∧ (List.length (α := Lf) xs : Int) ≤ 1000000) ∧
    ∃ ys : List Lf, ((xs : List Lf).Perm ys ∧ ys.Pairwise fun x y => cf x y < 0) ∧ k [(i, some ⟨lT, e, true, ys⟩)] [] (.raw (.tuple #[])))
  | _ => False
theorem swo_of {α : Type} {lt : α → α → Bool} (f : α → Rat) (h : ∀ x y, lt x y = decide (f x < f y)) : SWO lt where
  irrefl x := by rw [h]; simp [Rat.lt_irrefl]
  trans x y z h1 h2 := by rw [h] at *; simp only [decide_eq_true_iff] at *; grind
  ntrans x y z h1 h2 := by rw [h] at *; simp only [decide_eq_false_iff_not] at *; grind

/-- A permutation that is sorted is the strictly sorted list. -/
theorem sorted_eq {cf : Lf → Lf → Int} (hirr : ∀ x y, cf x y < 0 → ¬ cf y x < 0) {l l' : List Lf} (hp : l.Perm l') (hs : l'.Pairwise fun x y => cf x y < 0) (hl : l.Pairwise fun x y => ¬ cf y x < 0) : l = l' := by
  have htot : ∀ x ∈ l', ∀ y ∈ l', x = y ∨ cf x y < 0 ∨ cf y x < 0 := by
    intro x hx y hy
    obtain ⟨i, hi, rfl⟩ := List.mem_iff_getElem.1 hx
    obtain ⟨j, hj, rfl⟩ := List.mem_iff_getElem.1 hy
    rcases Nat.lt_trichotomy i j with h | h | h
    · exact .inr (.inl (List.pairwise_iff_getElem.1 hs i j hi hj h))
    · subst h; exact .inl rfl
    · exact .inr (.inr (List.pairwise_iff_getElem.1 hs j i hj hi h))
  have hnd : l.Nodup := by
    refine (hp.nodup_iff).2 (hs.imp fun h e => ?_)
    subst e
    exact hirr _ _ h h
  refine perm_eq (r := fun x y => cf x y < 0) hirr hp ?_ hs
  refine (hl.and hnd).imp_of_mem fun {a b} ha hb ⟨h1, h2⟩ => ?_
  rcases htot a (hp.mem_iff.1 ha) b (hp.mem_iff.1 hb) with h | h | h
  · exact absurd h h2
  · exact h
  · exact absurd h h1

theorem flatK_list (d : Array PL) : (flatK encP 4 d).toList = (d.toList.map Subtype.val).flatMap (fun x : Lf => dens A0 (lT.enc x)) := by
  have hl : ((d.toList.map Subtype.val).flatMap (fun x : Lf => dens A0 (lT.enc x))).length = d.size * 4 := by
    rw [flatMap_length _ 4 (fun x => rfl)]; simp
  apply List.ext_getElem?
  intro t
  by_cases ht : t < d.size * 4
  · have h1 : (flatK encP 4 d)[t]! = (encP d[t / 4]!)[t % 4]! := get_flatK encP 4 d t ht
    have hq : t / 4 < d.size := by omega
    have hm : t % 4 < 4 := Nat.mod_lt _ (by omega)
    have e0 : (flatK encP 4 d).toList[t]? = some ((flatK encP 4 d)[t]!) := by
      rw [getElem!_pos _ t (by simpa using ht)]; simp [ht]
    rw [e0, h1]
    have h3 := flatMap_get (fun x : Lf => dens A0 (lT.enc x)) 4 (fun x => rfl) (d.toList.map Subtype.val) (t / 4) (t % 4) (d[t / 4]!).1 ((encP d[t / 4]!)[t % 4]!) (by
      rw [List.getElem?_map, getElem!_pos d (t / 4) hq]
      simp [hq]) (by
      have hE : dens A0 (lT.enc (d[t / 4]!).1) = encP d[t / 4]! := rfl
      rw [hE]
      have hl4 : (encP d[t / 4]!).length = 4 := rfl
      rw [List.getElem?_eq_getElem (by omega), getElem!_pos (encP d[t / 4]!) (t % 4) (by omega)])
    rw [show t / 4 * 4 + t % 4 = t by omega] at h3
    rw [h3]
  · rw [List.getElem?_eq_none (by simp; omega), List.getElem?_eq_none (by omega)]

theorem sort_ok {g : FuncId} {cf : Lf → Lf → Int} (hc : PCtrOk Try.prog g (cmpPC cf)) (f : PL → Rat) (hf : ∀ x y : PL, cf x.1 y.1 < 0 ↔ f x < f y) (hirr : ∀ x y, cf x y < 0 → ¬ cf y x < 0) : MCtrOk Try.prog 94 (sortC g cf) where
  enter := enter_ok Try.func94 (by kernel_rfl) rfl
  calls := by
    intro hg rg lr vals k h
    unfold sortC at h
    split at h
    case h_2 => exact h.elim
    rename_i i g'
    have hF := isF_inv h
    clear h
    obtain ⟨rfl, h⟩ := hF
    obtain ⟨e, xs, hi, h⟩ : ∃ e, ∃ (xs : List Lf), _ := rowO_inv h
    obtain ⟨⟨hx, hlen⟩, ys, ⟨hperm, hys⟩, hk⟩ := h
    refine ⟨_, _, _, hk, (ups_one hi rfl (fun r' hr' => by cases hr'; exact ⟨rfl, rfl, rfl⟩)), fun A w hM => ?_⟩
    have hro := ((hM.row i _ hi).2 rfl).flat rfl
    have hargs : (dens A [AVal.row i, .fn g' [] []]).toArray = #[(A.rw i).val, .func (.func g') #[] #[]] := rfl
    rw [hargs]
    rcases hro.2 with ⟨hv, hn⟩ | ⟨b0, cap, cur, hv, _, hg0, hle, hm, hcs, htk⟩
    · have hn : xs.length = 0 := hn
      have hx0 : xs = [] := List.eq_nil_of_length_eq_zero hn
      subst hx0
      have hy0 : ys = [] := List.nil_perm.1 hperm
      subst hy0
      rw [hv]
      have hcon := AnyF.slices_SortFunc_none { sortP with } none 0 (.func (.func g') #[] #[]) w
      refine Calls.mono hcon ?_
      rintro e' w' ⟨rfl, rfl⟩
      refine ⟨[], rfl, Kept.refl _ _, fun j r' hj => ?_, newRows_nil⟩
      simp only [List.mem_singleton, Prod.mk.injEq, Option.some.injEq] at hj
      obtain ⟨rfl, rfl⟩ := hj
      exact hro
    · have hle : xs.length ≤ cap := hle
      have hcs : cur.size = cap * 4 := hcs
      have htk : cur.toList.take (xs.length * 4) = xs.flatMap fun x : Lf => dens A0 (lT.enc x) := htk
      have hv : (A.rw i).val = .slice (some ⟨b0, 0, none⟩) xs.length cap := hv
      have hv' := hv
      simp only [Hdr.val, Value.slice.injEq] at hv'
      obtain ⟨hva, hvl, hvc⟩ := hv'
      let d : Array PL := (xs.attachWith IsL hx).toArray
      have hds : d.size = xs.length := by simp [d]
      have hdv : d.toList.map Subtype.val = xs := by simp [d]; exact List.attach_map_subtype_val xs
      have hfl := flatK_list d
      rw [hdv] at hfl
      have hget : ∀ t, t < xs.length * 4 → cur[t]? = some ((flatK encP 4 d)[t]!) := fun t ht => by
        have h1 : (cur.toList.take (xs.length * 4))[t]? = (flatK encP 4 d).toList[t]? := by rw [htk, hfl]
        rw [List.getElem?_take, if_pos ht] at h1
        rw [Array.getElem?_toList] at h1
        rw [h1, getElem!_pos _ t (by simp [hds, ht])]
        simp [hds, ht]
      have hH : HoldsK encP 4 w b0 0 d := fun t ht => by
        have ht : t < xs.length * 4 := by simpa [hds] using ht
        constructor
        · simp only [World.cell?, hg0, Nat.zero_add, id]
          exact hget t ht
        · simp [World.frozen?, hg0]
      have hblk : b0 < w.heap.size := lt_of_heap hg0
      have hcmp : CmpLays Try.prog g' #[] encP 4 (fun x y : PL => cf x.1 y.1) b0 0 d.size w := fun m os dk _ x y => by
        obtain ⟨rows, v, ⟨rfl, rfl⟩, hcl⟩ := hc.calls (fun _ => none) (fun _ => none) 0 [.agg [.int .i64 x.1.1.1, .int .i64 x.1.1.2, .int .i64 x.1.2.1, .int .i64 x.1.2.2], .agg [.int .i64 y.1.1.1, .int .i64 y.1.1.2, .int .i64 y.1.2.1, .int .i64 y.1.2.2]]
          (fun rows v => rows = [] ∧ v = .int .i64 (cf x.1 y.1)) ⟨⟨x.2, y.2⟩, rfl, rfl⟩
        refine Calls.mono (hcl A0 _ (fun i cs h => by cases h) (fun i r h => by cases h)) ?_
        rintro e' w' ⟨hs, he, hb, _⟩
        exact ⟨by rw [he]; rfl, grown_of_blw hb⟩
      have hO : SWO (ltOf fun x y : PL => cf x.1 y.1) := swo_of f fun x y => by unfold ltOf; rw [decide_eq_decide]; exact hf x y
      have hcon := AnyQ.slices_SortFunc sortP 4 Try.isAgg36 Try.sizeOf36 encP (fun _ => rfl) (fun x v hv => by simp [encP] at hv; rcases hv with rfl | rfl | rfl | rfl <;> rfl) (fun x y : PL => cf x.1 y.1) hO g' #[] b0 0 cap d w hc.enter hcmp hH hblk (by omega)
      rw [hv, ← hds]
      refine Calls.mono hcon ?_
      rintro e' w' ⟨rfl, d', n, os, hpm, hso, hw⟩
      have hd's : d'.size = d.size := hpm.1
      have hpl : d'.toList.Perm d.toList := by
        have := hpm.2.2
        rw [show d.size = d'.size from hd's.symm] at this
        have e1 : d'.toList.take d'.size = d'.toList := List.take_of_length_le (by simp)
        have e2 : d.toList.take d'.size = d.toList := List.take_of_length_le (by simp [hd's])
        simpa [e1, e2] using this
      have hyd : d'.toList.map Subtype.val = ys := by
        refine sorted_eq (cf := cf) hirr (((hpl.map Subtype.val).trans (by rw [hdv])).trans hperm) hys ?_
        rw [List.pairwise_map, List.pairwise_iff_getElem]
        intro p q hp hq hpq
        have := hso p q (Nat.zero_le _) hpq (by simpa [hd's] using hq)
        unfold ltOf at this
        rw [decide_eq_false_iff_not, getElem!_pos d' q (by simpa using hq), getElem!_pos d' p (by simpa using hp)] at this
        simpa using this
      subst hw
      have hfl2 := flatK_list d'
      rw [hyd] at hfl2
      let cur' : Array Value := putCells id 0 (flatK encP 4 d') cur
      have hheap : (sortWorldK encP 4 w b0 0 n d' os).heap = (w.heap.modify b0 (onCells (putCells id 0 (flatK encP 4 d')))) ++ os := rfl
      have hb0 : (sortWorldK encP 4 w b0 0 n d' os).heap[b0]? = some (.cells cur' e (0, 0)) := by
        rw [hheap, Array.getElem?_append_left (by simpa using hblk), Array.getElem?_modify, if_pos rfl, hg0]
        rfl
      have hyl : ys.length = xs.length := hperm.length_eq.symm
      refine ⟨[], rfl, ⟨rfl, rfl, rfl, by rw [hheap]; simp, fun b hb => ?_, Nat.le_add_right _ _⟩, fun j r' hj => ?_, newRows_nil⟩
      · have hne : b0 ≠ b := fun e2 => hb.2 ⟨i, _, _, List.mem_singleton.2 rfl, hi, by subst e2; exact Foot.feet ⟨.inl rfl, _, hva, rfl⟩ rfl⟩
        rw [hheap, Array.getElem?_append_left (by simpa using hb.1), Array.getElem?_modify, if_neg hne]
      · simp only [List.mem_singleton, Prod.mk.injEq, Option.some.injEq] at hj
        obtain ⟨rfl, rfl⟩ := hj
        refine ⟨by rw [Row.cells_length], .inr ⟨b0, cap, cur', by rw [hv]; simp only [hyl], Nat.zero_le _, hb0, by show ys.length ≤ cap; omega, hm, by simp [cur', putCells, hcs]; rfl, ?_⟩⟩
        show cur'.toList.take (ys.length * 4) = ys.flatMap fun x : Lf => dens A0 (lT.enc x)
        rw [← hfl2]
        apply List.ext_getElem?
        intro t
        rw [List.getElem?_take]
        by_cases ht : t < ys.length * 4
        · rw [if_pos ht]
          have hts : t < (flatK encP 4 d').size := by simp [hd's, hds, ← hyl, ht]
          have htc : t < cur.size := by rw [hcs]; have := Nat.mul_le_mul_right 4 hle; omega
          rw [Array.getElem?_toList, Array.getElem?_toList]
          simp only [cur', putCells, Array.getElem?_mapIdx]
          rw [Array.getElem?_eq_getElem htc]
          simp only [Option.map_some, Nat.zero_le, Nat.zero_add, true_and, Nat.sub_zero, id]
          rw [if_pos hts, getElem!_pos _ t hts, Array.getElem?_eq_getElem hts]
        · rw [if_neg ht, List.getElem?_eq_none (by simp [hd's, hds, ← hyl]; omega)]

end Go.Proofs.Ytlplngafncobkab.Fw
