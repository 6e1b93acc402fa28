/- Contracts: ReducedForms, ClassNumber, AmbiguousClasses, TwoRank of the program; ClassNumber of the reference. -/
import Derived.Test.YtkkamlhpappebaaK7
import Derived.Test.YtkkamlhpappebaaR1
namespace Go.Proofs.Ytkkamlhpappebaa
open Go.RowKit

/-- What ReducedForms gives. -/
def ClsR (d : Int) (L : List Fm) (ok : Bool) : Prop := (isDisc d = false ∧ L = [] ∧ ok = false) ∨ (isDisc d = true ∧ L = clsL d ∧ ok = true)
theorem clsR_ex (d : Int) : ∃ L ok, ClsR d L ok ∧ L.length ≤ 100000 := by
  cases hc : isDisc d with
  | false => exact ⟨_, _, .inl ⟨hc, rfl, rfl⟩, by simp⟩
  | true => exact ⟨_, _, .inr ⟨hc, rfl, rfl⟩, Nat.le_trans (clsL_len _) (by decide)⟩
/-- What AmbiguousClasses gives. -/
def AmbR (d : Int) (L : List Fm) (ok : Bool) : Prop := (isDisc d = false ∧ L = [] ∧ ok = false) ∨ (isDisc d = true ∧ L = (clsL d).filter ambB ∧ ok = true)
set_option maxHeartbeats 800000 in
theorem implRF_any (d : Int) (L : List Fm) (ok : Bool) (w : World) (h : ClsR d L ok) :
    Calls Try.prog 14 #[.int .i64 d] w (RetFb L ok w) := by
  rcases h with ⟨hc, rfl, rfl⟩ | ⟨hc, rfl, rfl⟩
  · go_enter Try.func14, Try.ntmps14
    go_wp2_with (go_at_call 76; (with_reducible refine (negDisc_eq d false _ hc).mono ?_); rintro e v ⟨rfl, rfl⟩)
    go_ret2
    exact ⟨_, rfl, own_empty (by omega), (by repeat (first | with_reducible exact Below.refl _ _ | with_reducible assumption | with_reducible apply Below.drew | with_reducible apply below_drewN | (with_reducible apply below_setp; (first | omega | (simp <;> omega))) | (with_reducible apply below_allocp; (first | omega | (simp <;> omega))) | (with_reducible refine below_viap (by assumption) ?_ ?_; (first | omega | (simp <;> omega)))))⟩
  · have D := dsc_of hc
    have HG := Lib.hid (fun w => reducedForms_any d w D.lo D.hi)
    generalize clsL d = L at *
    go_enter Try.func14, Try.ntmps14
    go_wp2_with (first
      | (go_at_call 76; (with_reducible refine (negDisc_eq d true _ hc).mono ?_); rintro e v ⟨rfl, rfl⟩)
      | (go_at_call 77; refine (HG.out _).mono ?_; rintro e v5 ⟨vl, rfl, hN, hB5⟩; have hZ5 := hB5.size))
    go_ret2
    exact ⟨_, rfl, hN, (by repeat (first | with_reducible exact Below.refl _ _ | with_reducible assumption | with_reducible apply Below.drew | with_reducible apply below_drewN | (with_reducible apply below_setp; (first | omega | (simp <;> omega))) | (with_reducible apply below_allocp; (first | omega | (simp <;> omega))) | (with_reducible refine below_viap (by assumption) ?_ ?_; (first | omega | (simp <;> omega)))))⟩
/-- What ClassNumber gives. -/
def ClsN (d n : Int) (ok : Bool) : Prop := (isDisc d = false ∧ n = 0 ∧ ok = false) ∨ (isDisc d = true ∧ n = (clsL d).length ∧ ok = true)
theorem clsN_ex (d : Int) : ∃ n ok, ClsN d n ok := by
  cases hc : isDisc d with
  | false => exact ⟨_, _, .inl ⟨hc, rfl, rfl⟩⟩
  | true => exact ⟨_, _, .inr ⟨hc, rfl, rfl⟩⟩
theorem clsN_R {d n : Int} {ok : Bool} (h : ClsN d n ok) : ∃ L, ClsR d L ok ∧ n = (L.length : Int) := by
  rcases h with ⟨hc, rfl, rfl⟩ | ⟨hc, rfl, rfl⟩
  · exact ⟨[], .inl ⟨hc, rfl, rfl⟩, rfl⟩
  · exact ⟨_, .inr ⟨hc, rfl, rfl⟩, rfl⟩
set_option maxHeartbeats 800000 in
theorem implCN_any (d n : Int) (ok : Bool) (w : World) (h : ClsN d n ok) :
    Calls Try.prog 12 #[.int .i64 d] w fun e w' => e = .returned (.tuple #[.int .i64 n, .bool ok]) ∧ Below w.heap.size w w' := by
  obtain ⟨L, hL, rfl⟩ := clsN_R h
  have HG := Lib.hid (fun w => implRF_any d L ok w hL)
  clear hL h
  go_enter Try.func12, Try.ntmps12
  go_wp2_with (go_at_call 14; refine (HG.out _).mono ?_; rintro e v5 ⟨vl, rfl, hN, hB5⟩; obtain ⟨base, cap, rfl⟩ := own_shape hN)
  go_ret2
  exact ⟨rfl, (by repeat (first | with_reducible exact Below.refl _ _ | with_reducible assumption | with_reducible apply Below.drew | with_reducible apply below_drewN | (with_reducible apply below_setp; (first | omega | (simp <;> omega))) | (with_reducible apply below_allocp; (first | omega | (simp <;> omega))) | (with_reducible refine below_viap (by assumption) ?_ ?_; (first | omega | (simp <;> omega)))))⟩
set_option maxHeartbeats 800000 in
theorem specCN_any (d n : Int) (ok : Bool) (w : World) (h : ClsN d n ok) :
    Calls Try.prog 13 #[.int .i64 d] w fun e w' => e = .returned (.tuple #[.int .i64 n, .bool ok]) ∧ Below w.heap.size w w' := by
  rcases h with ⟨hc, rfl, rfl⟩ | ⟨hc, rfl, rfl⟩
  · go_enter Try.func13, Try.ntmps13
    go_wp2_with (go_at_call 74; (with_reducible refine (rDisc_eq d false _ hc).mono ?_); rintro e v ⟨rfl, rfl⟩)
    go_ret2
    exact ⟨rfl, (by repeat (first | with_reducible exact Below.refl _ _ | with_reducible assumption | with_reducible apply Below.drew | with_reducible apply below_drewN | (with_reducible apply below_setp; (first | omega | (simp <;> omega))) | (with_reducible apply below_allocp; (first | omega | (simp <;> omega))) | (with_reducible refine below_viap (by assumption) ?_ ?_; (first | omega | (simp <;> omega)))))⟩
  · have D := dsc_of hc
    have HG := Lib.hid (fun w => reList_any d w D.lo D.hi)
    generalize clsL d = L at *
    go_enter Try.func13, Try.ntmps13
    go_wp2_with (first
      | (go_at_call 74; (with_reducible refine (rDisc_eq d true _ hc).mono ?_); rintro e v ⟨rfl, rfl⟩)
      | (go_at_call 75; refine (HG.out _).mono ?_; rintro e v5 ⟨vl, rfl, hN, hB5⟩; obtain ⟨base, cap, rfl⟩ := own_shape hN))
    go_ret2
    exact ⟨rfl, (by repeat (first | with_reducible exact Below.refl _ _ | with_reducible assumption | with_reducible apply Below.drew | with_reducible apply below_drewN | (with_reducible apply below_setp; (first | omega | (simp <;> omega))) | (with_reducible apply below_allocp; (first | omega | (simp <;> omega))) | (with_reducible refine below_viap (by assumption) ?_ ?_; (first | omega | (simp <;> omega)))))⟩
/-- What TwoRank gives. -/
def TwoR (d n : Int) (ok : Bool) : Prop := (isDisc d = false ∧ n = 0 ∧ ok = false) ∨ (isDisc d = true ∧ n = expo 2 ((clsL d).filter ambB).length ∧ ok = true)
end Go.Proofs.Ytkkamlhpappebaa
