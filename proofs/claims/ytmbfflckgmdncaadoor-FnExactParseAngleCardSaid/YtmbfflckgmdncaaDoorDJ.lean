/- impl.number and impl.ParseAngle (by hand: strconv.ParseInt reads variables). -/
import Derived.Test.YtmbfflckgmdncaaDoorDD
import Derived.Test.YtmbfflckgmdncaaDoorDI
import Derived.Test.YtmbfflckgmdncaaDoorLyU
import Derived.Shelf.Strconv.ParseIntPublic10
import Derived.Lib.ParseIntBTie
import Derived.Lib.AtoiErrMem
namespace Go.Proofs.YtmbfflckgmdncaaDoor.Fw
open Go Go.RowKit Go.Sort Go.Shelf
set_option linter.unusedVariables false
set_option linter.unusedSimpArgs false
set_option maxRecDepth 100000
set_option maxHeartbeats 2000000

/-- The two errors of strconv are laid. -/
def ErrAt (w : World) (g : Nat) : Prop := ∃ ev, w.cell? ⟨g, 0, none⟩ = some ev ∧ (ev = .nilIface ∨ ∃ te pe, ev = .iface te pe)
def ErrW (w : World) : Prop := ErrAt w (Tryd.pintL_ren.g 15) ∧ ErrAt w (Tryd.pintL_ren.g 16)
theorem ErrAt.below {w w' : World} {g : Nat} (h : ErrAt w g) (hb : Below w.heap.size w w') : ErrAt w' g := by
  obtain ⟨ev, h1, h2⟩ := h
  exact ⟨ev, (hb.cell (p := ⟨g, 0, none⟩) (lt_of_cell h1)).trans h1, h2⟩
theorem ErrW.below {w w' : World} (h : ErrW w) (hb : Below w.heap.size w w') : ErrW w' := ⟨h.1.below hb, h.2.below hb⟩
def StopP (P : Prop) : Prop := P
theorem stopHere {P : Prop} (h : StopP P) : P := h

theorem decW_in (n : Int) (h0 : 0 ≤ n) (h1 : n ≤ 9223372036854775807) (w : World) (ht : TabW w) : Calls Tryd.prog 23 #[.int .i64 n] w fun e w' => e = .returned (.string (dcB n.toNat)) ∧ Below w.heap.size w w' := by
  have hf := Any.strconv_FormatInt_10 Go.Proofs.Tryd.fmtL n (by omega) (by omega) w ht
  have hi : (⟨(Lib.itoa n).toArray⟩ : ByteArray) = dcB n.toNat := by unfold dcB Lib.itoa; rw [if_neg (by omega)]
  rw [hi] at hf
  change Calls Tryd.prog 32 _ _ _ at hf
  go_enter Tryd.func23, Tryd.ntmps23
  go_wp2_with (go_at_call 32; refine hf.mono ?_; rintro e w' ⟨rfl, q, os', rfl⟩)
  go_ret
  exact ⟨rfl, grow_below w q os'⟩

theorem bytes_ne {a b : ByteArray} (h : ¬ a = b) : (a.toList == b.toList) = false := by
  rw [Lib.toList_data, Lib.toList_data, beq_eq_false_iff_ne]
  exact fun e => h (bl_inj e)
theorem num_of {s : ByteArray} {n : Nat} (hn : n ≤ 100000) (h : dcB n = s) : Lib.parseIntB 64 s.data.toList = .ok (n : Int) := by
  have : s.data.toList = Lib.decDigits n := by rw [← h]; exact bl_dcB n
  rw [this]; exact parseI n hn

theorem numQ_in (s : ByteArray) (hs : s.size ≤ 1048576) (w : World) (ht : TabW w) (he : ErrW w) : Calls Tryd.prog 17 #[.string s] w fun e w' =>
    ∃ m : Int, e = .returned (.int .i64 m) ∧ (∀ n : Nat, n ≤ 100000 → dcB n = s → m = n) ∧ Below w.heap.size w w' := by
  cases hp : Lib.parseIntB 64 s.data.toList with
  | ok v =>
    have hI := Any.strconv_ParseInt_10_at64_ok Go.Proofs.Tryd.pintL s (by omega) v hp w
    change Calls Tryd.prog 27 _ _ _ at hI
    have hI : Calls Tryd.prog 27 #[.string s, .int .i64 10, .int .i64 64] w fun e w' => e = .returned (.tuple #[.int .i64 v, .nilIface]) ∧ Below w.heap.size w w' := hI.mono fun e w' ⟨h1, h2⟩ => ⟨h1, by
      rcases h2 with rfl | ⟨t, rfl⟩
      · exact Below.refl _ _
      · exact Lib.bytesWorld_below _ _ _⟩
    have hb := Lib.parseIntB_bounds hp
    have e63 : ((2 ^ (64 - 1) : Nat) : Int) = 9223372036854775808 := by decide
    rw [e63] at hb
    by_cases h0 : v < 0
    · go_enter Tryd.func17, Tryd.ntmps17
      go_wp2_with (go_at_call 27; refine hI.mono ?_; clear hI; rintro e w1 ⟨rfl, hB1⟩)
      go_ret
      refine ⟨-1, rfl, fun n hn h => ?_, hB1⟩
      have := num_of hn h
      rw [hp] at this
      injection this with this
      omega
    · have hd := fun W hW => decW_in v (by omega) (by omega) W hW
      have key : ∀ n : Nat, n ≤ 100000 → dcB n = s → v = n := fun n hn h => by
        have := num_of hn h
        rw [hp] at this
        injection this with this
      have key2 : ∀ n : Nat, n ≤ 100000 → dcB n = s → dcB v.toNat = s := fun n hn h => by
        have := key n hn h
        rw [show v.toNat = n by omega, h]
      generalize dcB v.toNat = sd at hd key2
      by_cases hv : sd = s
      · go_enter Tryd.func17, Tryd.ntmps17
        go_wp2_with (first
          | (go_at_call 27; refine hI.mono ?_; clear hI; rintro e w1 ⟨rfl, hB1⟩; have hd1 := hd w1 (ht.below hB1))
          | (go_at_call 23; refine hd1.mono ?_; clear hd1; rintro e w2 ⟨rfl, hB2⟩))
        go_ret
        exact ⟨v, rfl, key, hB1.trans (hB2.mono hB1.size)⟩
      · have hbe : (sd.toList == s.toList) = false := bytes_ne hv
        go_enter Tryd.func17, Tryd.ntmps17
        go_wp2_with (first
          | (go_at_call 27; refine hI.mono ?_; clear hI; rintro e w1 ⟨rfl, hB1⟩; have hd1 := hd w1 (ht.below hB1))
          | (go_at_call 23; refine hd1.mono ?_; clear hd1; rintro e w2 ⟨rfl, hB2⟩))
        go_ret
        exact ⟨-1, rfl, fun n hn h => absurd (key2 n hn h) hv, hB1.trans (hB2.mono hB1.size)⟩
  | range =>
    obtain ⟨_, ⟨ev, hc, hev⟩⟩ := he
    have hI := Any.strconv_ParseInt_10_at64_range Go.Proofs.Tryd.pintL s (by omega) hp ev w hc hev
    change Calls Tryd.prog 27 _ _ _ at hI
    generalize Lib.intSat 64 s.data.toList = sat at hI
    go_enter Tryd.func17, Tryd.ntmps17
    go_wp2_with (go_at_call 27; refine hI.mono ?_; clear hI; rintro e w1 ⟨N, rfl, _, _, hB1⟩)
    go_ret
    refine ⟨-1, rfl, fun n hn h => ?_, hB1⟩
    have := num_of hn h
    rw [hp] at this
    cases this
  | _ =>
    obtain ⟨⟨ev, hc, hev⟩, _⟩ := he
    have hI := Any.strconv_ParseInt_10_at64_syntax Go.Proofs.Tryd.pintL s (by omega) hp ev w hc hev
    change Calls Tryd.prog 27 _ _ _ at hI
    go_enter Tryd.func17, Tryd.ntmps17
    go_wp2_with (go_at_call 27; refine hI.mono ?_; clear hI; rintro e w1 ⟨N, rfl, _, _, hB1⟩)
    go_ret
    refine ⟨-1, rfl, fun n hn h => ?_, hB1⟩
    have := num_of hn h
    rw [hp] at this
    cases this
end Go.Proofs.YtmbfflckgmdncaaDoor.Fw
