/- Contract: the class number by the conductor, of the program. -/
import Derived.Test.YtkkamlhpappebaaCI
namespace Go.Proofs.Ytkkamlhpappebaa
open Go.RowKit

set_option maxRecDepth 100000 in
set_option maxHeartbeats 1600000 in
theorem byCond_any (d : Int) (w : World) (h : isDisc d = true) :
    Calls Try.prog 18 #[.int .i64 d] w fun e w' => e = .returned (.tuple #[.int .i64 ((clsL d).length : Int), .bool true]) ∧ Below w.heap.size w w' := by
  have hc := ce_all h
  obtain ⟨hE, k1, k2, hlaw⟩ := cd_law h
  have D := dsc_of hE
  have hF := Lib.hid (fun w => fundamental_any d w hc)
  have hC := Lib.hid (fun w => condFac_any (dsp d).1 (dsp d).2 w k1 (by omega) hc.cf)
  have hL := Lib.hid (fun w => reducedForms_any (dsp d).1 w D.lo D.hi)
  have hU := Lib.hid (fun w => autc_any d w h)
  have hV := Lib.hid (fun w => autc_any (dsp d).1 w hE)
  have u1 := units_pos d
  have u2 := units_pos (dsp d).1
  have c1 := hc.c1
  have c2 := hc.c2
  have hl := clsL_len (dsp d).1
  have hl2 := clsL_len d
  generalize clsL (dsp d).1 = L at *
  generalize cfac (dsp d).1 (dsp d).2 = C at *
  generalize units (dsp d).1 = V at *
  generalize units d = U at *
  generalize (clsL d).length = m at *
  generalize dsp d = E at *
  obtain ⟨x, k⟩ := E
  dsimp only at *
  have hm1 : 0 ≤ (L.length : Int) * C := Int.mul_nonneg (by omega) c1
  have hm2 : (L.length : Int) * C ≤ 1640 * 100000 := Int.mul_le_mul (by omega) c2 c1 (by omega)
  have hw1 : wrap64 ((L.length : Int) * C) = (L.length : Int) * C := IntWalk.wrap64_in _ (by omega)
  have hm3 : 0 ≤ (m : Int) * V ∧ (m : Int) * V ≤ 1640 * 6 := ⟨Int.mul_nonneg (by omega) (by omega), Int.mul_le_mul (by omega) (by omega) (by omega) (by omega)⟩
  have hw2 : wrap64 ((m : Int) * V) = (m : Int) * V := IntWalk.wrap64_in _ (by omega)
  have hq : ((m : Int) * V).tdiv V = m := Int.mul_tdiv_cancel _ (by omega)
  have hV0 : ¬ V = 0 := by omega
  clear hc D hE
  go_enter Try.func18, Try.ntmps18
  go_wp2_with (first
    | (go_at_call 76; (with_reducible refine (negDisc_eq d true _ h).mono ?_); rintro e v ⟨rfl, rfl⟩)
    | (go_at_call 85; (with_reducible refine (hF.out _).mono ?_); rintro e v ⟨rfl, rfl⟩)
    | (go_at_call 77; refine (hL.out _).mono ?_; rintro e v1 ⟨vl, rfl, hol, hB1⟩; have hZ1 := hB1.size; obtain ⟨bl, cl, rfl⟩ := own_shape hol)
    | (go_at_call 86; refine (hC.out _).mono ?_; rintro e v2 ⟨rfl, hB2⟩; have hZ2 := hB2.size)
    | (go_at_call 87; (first | (with_reducible refine (hU.out _).mono ?_) | (with_reducible refine (hV.out _).mono ?_)); rintro e v3 ⟨rfl, rfl⟩))
  go_ret2
  exact ⟨rfl, (by repeat (first | with_reducible exact Below.refl _ _ | with_reducible assumption | with_reducible apply Below.drew | with_reducible apply below_drewN | (with_reducible apply below_setp; (first | omega | (simp <;> omega))) | (with_reducible apply below_allocp; (first | omega | (simp <;> omega))) | (with_reducible refine below_viap (by assumption) ?_ ?_; (first | omega | (simp <;> omega)))))⟩
end Go.Proofs.Ytkkamlhpappebaa
