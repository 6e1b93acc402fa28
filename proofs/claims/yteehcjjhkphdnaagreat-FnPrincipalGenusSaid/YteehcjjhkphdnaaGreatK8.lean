/- Contracts of SquareClasses, of the program and of the reference. -/
import Derived.Test.YteehcjjhkphdnaaGreatK7
namespace Go.Proofs.YteehcjjhkphdnaaGreat
open Go.RowKit

theorem sqL_ex (d : Int) : ∃ L ok, PowL d 2 L ok ∧ L.length ≤ 100000 := powL_ex d 2

set_option maxRecDepth 100000 in
set_option maxHeartbeats 800000 in
theorem implSq_any (d : Int) (L : List Fm) (ok : Bool) (w : World) (h : PowL d 2 L ok) :
    Calls Tryz.prog 12 #[.int .i64 d] w (RetFb L ok w) := by
  have hP := Lib.hid (fun w => implPow_any d 2 L ok w h)
  clear h
  go_enter Tryz.func12, Tryz.ntmps12
  go_wp2_with (go_at_call 73; refine (hP.out _).mono ?_; rintro e v5 ⟨vl, rfl, howl, hB5⟩; have hZ5 := hB5.size)
  go_ret2
  exact ⟨_, rfl, own_base (by omega) howl, (by repeat (first | with_reducible exact Below.refl _ _ | with_reducible assumption | with_reducible apply Below.drew | with_reducible apply below_drewN | (with_reducible apply below_setp; (first | omega | (simp <;> omega))) | (with_reducible apply below_allocp; (first | omega | (simp <;> omega))) | (with_reducible refine below_viap (by assumption) ?_ ?_; (first | omega | (simp <;> omega)))))⟩

set_option maxRecDepth 100000 in
set_option maxHeartbeats 800000 in
theorem specSq_any (d : Int) (L : List Fm) (ok : Bool) (w : World) (h : PowL d 2 L ok) :
    Calls Tryz.prog 13 #[.int .i64 d] w (RetFb L ok w) := by
  rcases h with ⟨hc, rfl, rfl⟩ | ⟨hc, hk, rfl, rfl⟩ | ⟨hc, n, hn2, hk, rfl, rfl⟩
  · go_enter Tryz.func13, Tryz.ntmps13
    go_wp2_with (go_at_call 74; (with_reducible refine (rDisc_eq d false _ hc).mono ?_); rintro e v ⟨rfl, rfl⟩)
    go_ret2
    exact ⟨_, rfl, World.ownsRow_nil _ _ _ _, (by repeat (first | with_reducible exact Below.refl _ _ | with_reducible assumption | with_reducible apply Below.drew | with_reducible apply below_drewN | (with_reducible apply below_setp; (first | omega | (simp <;> omega))) | (with_reducible apply below_allocp; (first | omega | (simp <;> omega))) | (with_reducible refine below_viap (by assumption) ?_ ?_; (first | omega | (simp <;> omega)))))⟩
  · exact absurd hk (by decide)
  · obtain rfl : n = 2 := by omega
    clear hn2 hk
    have hP := Lib.hid (fun w => gePowers_any d 2 w (dsc_of hc) (by decide))
    generalize (clsL d).filter (powP d 2 (clsL d)) = L at *
    go_enter Tryz.func13, Tryz.ntmps13
    go_wp2_with (first
      | (go_at_call 74; (with_reducible refine (rDisc_eq d true _ hc).mono ?_); rintro e v ⟨rfl, rfl⟩)
      | (go_at_call 75; refine (hP.out _).mono ?_; rintro e v5 ⟨vl, rfl, howl, hB5⟩; have hZ5 := hB5.size))
    go_ret2
    exact ⟨_, rfl, own_base (by omega) howl, (by repeat (first | with_reducible exact Below.refl _ _ | with_reducible assumption | with_reducible apply Below.drew | with_reducible apply below_drewN | (with_reducible apply below_setp; (first | omega | (simp <;> omega))) | (with_reducible apply below_allocp; (first | omega | (simp <;> omega))) | (with_reducible refine below_viap (by assumption) ?_ ?_; (first | omega | (simp <;> omega)))))⟩
end Go.Proofs.YteehcjjhkphdnaaGreat
