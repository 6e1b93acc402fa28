/- Contracts: divisors from classes, of the reference. -/
import Derived.Test.YteehcjjhkphdnaaGreatDV
import Derived.Test.YteehcjjhkphdnaaGreatN6
import Derived.Test.YteehcjjhkphdnaaGreatN7
import Derived.Test.YteehcjjhkphdnaaGreatNA
namespace Go.Proofs.YteehcjjhkphdnaaGreat
open Go.RowKit

theorem own_elemS {w : World} {B : Nat} {e : TypeId} {base : Option Addr} {n cap : Nat} {L : List (Int × Int)} (h : w.ownsRow B e 2 (.slice base n cap) L.length (cellsS L)) {k : Nat} (hk : k < L.length) :
    ∃ g, base = some ⟨g, 0, none⟩ ∧ g < w.heap.size ∧ w.cell? ⟨g, k * 2, none⟩ = some (.int .i64 L[k].1) ∧ w.cell? ⟨g, k * 2 + 1, none⟩ = some (.int .i64 L[k].2) := by
  rcases own_form h with ⟨hv, h0⟩ | ⟨g, c, hv, h1, h2, h3⟩
  · omega
  · injection hv with e1 e2 e3
    obtain ⟨c1, c2⟩ := cellsS_get L k hk
    rw [show k * 2 = 2 * k by omega]
    exact ⟨g, e1, h2, h3 _ _ c1, h3 _ _ c2⟩
set_option maxHeartbeats 400000 in
theorem amOdd_any (n : Int) (w : World) : Calls Tryz.prog 160 #[.int .i64 n] w fun e w' => e = .returned (.bool (oddB n)) ∧ w = w' := by
  have hI := Lib.hid (fun w => l1In_any n 3 499 w)
  unfold oddB
  by_cases h1 : 3 ≤ n
  · have e := Int.tmod_eq_emod_of_nonneg (b := 2) (show 0 ≤ n by omega)
    by_cases h2 : n ≤ 499
    · rw [decide_eq_true h1, decide_eq_true h2, Bool.true_and] at hI
      rw [decide_eq_true h1, decide_eq_true h2, Bool.true_and, Bool.true_and]
      go_enter Tryz.func160, Tryz.ntmps160
      go_wp2_with (go_at_call 89; (with_reducible refine (hI.out _).mono ?_); rintro e v ⟨rfl, rfl⟩)
      go_ret
      exact ⟨ret_bool (by rw [Bool.eq_iff_iff]; simp), rfl⟩
    · rw [decide_eq_false h2, Bool.and_false] at hI
      rw [decide_eq_false h2, Bool.false_and, Bool.and_false]
      go_enter Tryz.func160, Tryz.ntmps160
      go_wp2_with (go_at_call 89; (with_reducible refine (hI.out _).mono ?_); rintro e v ⟨rfl, rfl⟩)
      go_ret
      exact ⟨rfl, rfl⟩
  · rw [decide_eq_false h1, Bool.false_and] at hI
    rw [decide_eq_false h1, Bool.false_and]
    go_enter Tryz.func160, Tryz.ntmps160
    go_wp2_with (go_at_call 89; (with_reducible refine (hI.out _).mono ?_); rintro e v ⟨rfl, rfl⟩)
    go_ret
    exact ⟨rfl, rfl⟩
set_option maxHeartbeats 400000 in
theorem amDisc_any (n : Int) (w : World) (h : oddB n = true) : Calls Tryz.prog 161 #[.int .i64 n] w fun e w' => e = .returned (.int .i64 (dvD n)) ∧ w = w' := by
  obtain ⟨h1, h2, h3⟩ := oddB_bd h
  clear h
  unfold dvD
  by_cases h4 : n % 4 = 3
  · have e4 : (n % 4 == 3) = true := by rw [beq_iff_eq]; exact h4
    rw [if_pos h4]
    clear h4
    go_enter Tryz.func161, Tryz.ntmps161
    go_wp2
    go_ret
    exact ⟨ret_int (by simp), rfl⟩
  · have e4 : (n % 4 == 3) = false := by rw [beq_eq_false_iff_ne]; exact h4
    rw [if_neg h4]
    clear h4
    go_enter Tryz.func161, Tryz.ntmps161
    go_wp2
    go_ret
    exact ⟨ret_int (by simp), rfl⟩
/-- The state of the loop. -/
def DwSt (T : List Int) (m : Nat) (w1 : World) (v vi : Value) (wr : World) : Prop :=
  ∃ k : Nat, vi = .int .i64 k ∧ k ≤ m ∧ wr.ownsRow w1.heap.size 3 1 v ((T.take k).foldl putI []).length (cellsI ((T.take k).foldl putI [])) ∧ Below w1.heap.size w1 wr

set_option maxRecDepth 100000 in
set_option maxHeartbeats 6400000 in
theorem specDv_any (n : Int) (R : List Int) (ok : Bool) (w : World) (h : DvL n R ok) :
    Calls Tryz.prog 70 #[.int .i64 n] w fun e w' => ∃ v, e = .returned (.tuple #[v, .bool ok]) ∧ w'.ownsRow w.heap.size 3 1 v R.length (cellsI R) ∧ Below w.heap.size w w' := by
  have hS := Lib.hid (fun w => amOdd_any n w)
  rcases h with ⟨hc, rfl, rfl⟩ | ⟨hc, hR, rfl⟩
  · rw [hc] at hS
    clear hc
    go_enter Tryz.func70, Tryz.ntmps70
    go_wp2_with (go_at_call 160; (with_reducible refine (hS.out _).mono ?_); rintro e v ⟨rfl, rfl⟩)
    go_ret2
    exact ⟨_, rfl, World.ownsRow_nil _ _ _ _, (by repeat (first | with_reducible exact Below.refl _ _ | with_reducible assumption | with_reducible apply Below.drew | with_reducible apply below_drewN | (with_reducible apply below_setp; (first | omega | (simp <;> omega))) | (with_reducible apply below_allocp; (first | omega | (simp <;> omega))) | (with_reducible refine below_viap (by assumption) ?_ ?_; (first | omega | (simp <;> omega)))))⟩
  · rw [hc] at hS
    have hD := Lib.hid (fun w => amDisc_any n w hc)
    have D := dvD_dsc hc
    obtain ⟨b1, b2, _⟩ := oddB_bd hc
    have hAm := Lib.hid (fun w => amAll_any (dvD n) w D.lo D.hi)
    have hTl : (dvT n).length ≤ 1640 := by
      unfold dvT
      rw [List.length_map]
      exact Nat.le_trans (List.length_filter_le _ _) (clsL_len _)
    have hTk := Lib.hid (fun k (h : k < (((clsL (dvD n)).filter ambB).map sp).length) => (⟨by unfold dvT; rw [List.length_map] at *; exact h, by unfold dvT; simp [gcF, sp]⟩ : ∃ h2 : k < (dvT n).length, (dvT n)[k] = (Int.gcd n (((clsL (dvD n)).filter ambB).map sp)[k].1 : Nat)))
    have hTe : (dvT n).length = (((clsL (dvD n)).filter ambB).map sp).length := by unfold dvT; rw [List.length_map, List.length_map]
    have hdf := Lib.hid (fun p (hp : p ∈ ((clsL (dvD n)).filter ambB).map sp) => (show -4000000000000000000 ≤ p.1 ∧ p.1 ≤ 4000000000000000000 from by
      obtain ⟨f, hf, rfl⟩ := List.mem_map.1 hp
      obtain ⟨⟨a1, a2⟩, ⟨b1, b2⟩, n3⟩ := def_near (cls_def0 D (List.mem_filter.1 hf).1)
      unfold sp splR
      dsimp only
      split
      · omega
      · split <;> omega))
    have HR := Lib.hid hR
    clear hR
    generalize ((clsL (dvD n)).filter ambB).map sp = A at *
    generalize dvT n = T at *
    generalize dvD n = d at *
    clear hc D
    have HTe := Lib.hid hTe
    clear hTe
    go_enter Tryz.func70, Tryz.ntmps70
    go_wp2_with (first
      | (go_at_call 160; (with_reducible refine (hS.out _).mono ?_); rintro e v ⟨rfl, rfl⟩)
      | (go_at_call 161; (with_reducible refine (hD.out _).mono ?_); rintro e v ⟨rfl, rfl⟩)
      | (go_at_call 148; refine (hAm.out _).mono ?_; rintro e w1 ⟨vl, rfl, howl, hb1⟩; obtain ⟨base, cap, rfl⟩ := own_shape howl))
    have hz1' := hb1.size
    have HO := Lib.hid howl
    go_loopw [4, 14] (fun v vi wr => DwSt T A.length w1 v vi wr) (fun _ vi _ => A.length - (intOf vi).toNat)
    case atStart => exact ⟨0, rfl, Nat.zero_le _, World.ownsRow_nil _ _ _ _, (by repeat (first | with_reducible exact Below.refl _ _ | with_reducible assumption | with_reducible apply Below.drew | with_reducible apply below_drewN | (with_reducible apply below_setp; (first | omega | (simp <;> omega))) | (with_reducible apply below_allocp; (first | omega | (simp <;> omega))) | (with_reducible refine below_viap (by assumption) ?_ ?_; (first | omega | (simp <;> omega)))))⟩
    case round =>
      clear howl
      obtain ⟨k, rfl, hk, hown, hbel⟩ := hrel
      have hz := hbel.size
      have hPl := foldp_len (T.take k) []
      simp only [List.length_nil, Nat.zero_add] at hPl
      have hTkl : (T.take k).length ≤ 1640 := by rw [List.length_take]; omega
      by_cases hlt : k < A.length
      · obtain ⟨g, rfl, hg2, d1, d2⟩ := own_elemS (own_call hbel HO.out) hlt
        obtain ⟨hkT, hTx⟩ := hTk.out k hlt
        have hnx := foldPut_take hkT
        rw [hTx] at hnx
        obtain ⟨n1, n2⟩ := hdf.out A[k] (List.getElem_mem hlt)
        generalize A[k].1 = r at d1 hnx n1 n2
        generalize A[k].2 = s at d2
        have hGc := Lib.hid (fun w => nuGcd_any n r w (by omega) (by omega) n1 n2)
        generalize ((Int.gcd n r : Nat) : Int) = x at hGc hnx
        generalize (T.take k).foldl putI [] = P at *
        have Hnx := Lib.hid hnx
        clear hTx hnx n1 n2
        go_wp2_with (first
          | (go_at_call 162; refine (hGc.out _).mono ?_; rintro e v2 ⟨rfl, nq, rfl⟩)
          | (go_at_call 122; refine (l1Put_any _ w1.heap.size P x _ (by omega) (by simp; omega) (by repeat (first | with_reducible assumption | with_reducible apply own_alloc | with_reducible apply own_drew | with_reducible apply own_drewN | (with_reducible refine own_setp (by assumption) ?_ ?_; (first | omega | (simp <;> omega))) | (with_reducible refine own_call (by assumption) ?_)))).mono ?_; rintro e w3 ⟨x3, rfl, hon3, _, hB3⟩; have hZ3 := hB3.size; (try simp at hZ3)))
        have hb3 : Below w1.heap.size w1 w3 := (by repeat (first | with_reducible exact Below.refl _ _ | with_reducible assumption | with_reducible apply Below.drew | with_reducible apply below_drewN | (with_reducible apply below_setp; (first | omega | (simp <;> omega))) | (with_reducible apply below_allocp; (first | omega | (simp <;> omega))) | (with_reducible refine below_viap (by assumption) ?_ ?_; (first | omega | (simp <;> omega)))))
        rw [← Hnx.out] at hon3
        go_roundw
        case rel => exact ⟨k + 1, by simp, hlt, hon3, hb3⟩
        case measure => simp [intOf]; omega
      · have e : k = A.length := by omega
        have hxk : T.take k = T := by rw [List.take_of_length_le]; rw [HTe.out]; omega
        rw [hxk] at hown
        go_wp2
        go_ret2
        exact ⟨_, rfl, by rw [HR.out]; exact own_base hz1' hown, below_via hb1 hbel hz1'⟩
theorem dvL_ex (n : Int) : ∃ L ok, DvL n L ok ∧ L.length ≤ 100000 := by
  cases hc : oddB n with
  | false => exact ⟨_, _, .inl ⟨hc, rfl, rfl⟩, by simp⟩
  | true =>
    refine ⟨_, _, .inr ⟨hc, rfl, rfl⟩, ?_⟩
    have h := foldp_len (dvT n) []
    have h2 : (dvT n).length ≤ 1640 := by
      unfold dvT
      rw [List.length_map]
      exact Nat.le_trans (List.length_filter_le _ _) (clsL_len _)
    simp only [List.length_nil, Nat.zero_add] at h
    omega
end Go.Proofs.YteehcjjhkphdnaaGreat
