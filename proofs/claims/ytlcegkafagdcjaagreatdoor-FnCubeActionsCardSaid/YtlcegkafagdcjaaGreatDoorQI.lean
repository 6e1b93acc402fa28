/- Contracts: the cubes of the reference (written by gen_QI.py). -/
import Derived.Test.YtlcegkafagdcjaaGreatDoorQH
import Derived.Test.YtlcegkafagdcjaaGreatDoorAL
import Derived.Test.YtlcegkafagdcjaaGreatDoorDX
import Derived.Test.YtlcegkafagdcjaaGreatDoorRG
namespace Go.Proofs.YtlcegkafagdcjaaGreatDoor
open Go.RowKit

theorem own_lit_at {w : World} {B M n : Nat} {xs : Array Value} (L : List Int) (hN : M = w.heap.size) (hn : L.length = n) (hxs : (cellsI L).toArray = xs) (hB : B ≤ M) (hl : L.length ≤ 1000) :
    (w.alloc (.cells xs 3)).ownsRow B 3 1 (.slice (some ⟨M, 0, none⟩) n n) n (cellsI L) := by
  subst hN hn hxs
  exact own_lit L hB hl
set_option maxRecDepth 100000 in
set_option maxHeartbeats 6400000 in
theorem cuList_any (k : Cu) (w : World) : Calls Tryz.prog 63 #[.agg #[.int .i64 k.a, .int .i64 k.b, .int .i64 k.c, .int .i64 k.d, .int .i64 k.e, .int .i64 k.f, .int .i64 k.g, .int .i64 k.h]] w (RetI (cuL k) w) := by
  go_enter Tryz.func63, Tryz.ntmps63
  go_wp2
  go_ret
  exact ⟨_, rfl, own_lit_at (cuL k) (by simp) rfl rfl (by omega) (by simp [cuL]), (by repeat (first | with_reducible exact Below.refl _ _ | with_reducible assumption | with_reducible apply Below.drew | with_reducible apply below_drewN | (with_reducible apply below_setp; (first | omega | (simp <;> omega))) | (with_reducible apply below_allocp; (first | omega | (simp <;> omega))) | (with_reducible refine below_viap (by assumption) ?_ ?_; (first | omega | (simp <;> omega)))))⟩
set_option maxRecDepth 100000 in
set_option maxHeartbeats 6400000 in
theorem cuIn_any (k : Cu) (w : World) : Calls Tryz.prog 28 #[.agg #[.int .i64 k.a, .int .i64 k.b, .int .i64 k.c, .int .i64 k.d, .int .i64 k.e, .int .i64 k.f, .int .i64 k.g, .int .i64 k.h]] w fun e w' => e = .returned (.bool (cuB k)) ∧ Below w.heap.size w w' := by
  have hL := Lib.hid (fun w => cuList_any k w)
  have hA := Lib.hid (fun v B w h => l1All_any v B (cuL k) (-500) 500 w (by simp [cuL]) h)
  have e : inR (-500) 500 (cuL k) = cuB k := rfl
  rw [e] at hA
  clear e
  generalize cuB k = b at *
  go_enter Tryz.func28, Tryz.ntmps28
  go_wp2_with fail
  refine (hL.out _).mono ?_
  rintro e v1 ⟨vl, rfl, ho1, hB1⟩
  have hZ1 := hB1.size
  (try simp at hZ1)
  go_wp2_with fail
  refine (hA.out _ _ _ ho1).mono ?_
  rintro e v2 ⟨rfl, rfl⟩
  clear ho1
  go_wp2
  go_ret
  exact ⟨rfl, (by repeat (first | with_reducible exact Below.refl _ _ | with_reducible assumption | with_reducible apply Below.drew | with_reducible apply below_drewN | (with_reducible apply below_setp; (first | omega | (simp <;> omega))) | (with_reducible apply below_allocp; (first | omega | (simp <;> omega))) | (with_reducible refine below_viap (by assumption) ?_ ?_; (first | omega | (simp <;> omega)))))⟩
set_option maxRecDepth 100000 in
set_option maxHeartbeats 6400000 in
theorem cuTurn_any (k : Cu) (w : World) : Calls Tryz.prog 65 #[.agg #[.int .i64 k.a, .int .i64 k.b, .int .i64 k.c, .int .i64 k.d, .int .i64 k.e, .int .i64 k.f, .int .i64 k.g, .int .i64 k.h]] w fun e w' => e = .returned (.agg #[.int .i64 ((cuT k).a), .int .i64 ((cuT k).b), .int .i64 ((cuT k).c), .int .i64 ((cuT k).d), .int .i64 ((cuT k).e), .int .i64 ((cuT k).f), .int .i64 ((cuT k).g), .int .i64 ((cuT k).h)]) ∧ Below w.heap.size w w' := by
  show Calls _ _ _ _ fun e w' => e = .returned (.agg #[.int .i64 k.a, .int .i64 k.c, .int .i64 k.e, .int .i64 k.g, .int .i64 k.b, .int .i64 k.d, .int .i64 k.f, .int .i64 k.h]) ∧ Below w.heap.size w w'
  go_enter Tryz.func65, Tryz.ntmps65
  go_wp2
  exact bodyPost_ret (v := .agg #[.int .i64 k.a, .int .i64 k.c, .int .i64 k.e, .int .i64 k.g, .int .i64 k.b, .int .i64 k.d, .int .i64 k.f, .int .i64 k.h]) (by simp [results, Tryz.results65, go_sem, *]) rfl ⟨rfl, (by repeat (first | with_reducible exact Below.refl _ _ | with_reducible assumption | with_reducible apply Below.drew | with_reducible apply below_drewN | (with_reducible apply below_setp; (first | omega | (simp <;> omega))) | (with_reducible apply below_allocp; (first | omega | (simp <;> omega))) | (with_reducible refine below_viap (by assumption) ?_ ?_; (first | omega | (simp <;> omega)))))⟩
end Go.Proofs.YtlcegkafagdcjaaGreatDoor
