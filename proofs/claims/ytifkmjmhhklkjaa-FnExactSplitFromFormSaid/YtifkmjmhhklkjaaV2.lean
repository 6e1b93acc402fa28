/- Contracts: the order of a class, by the program. -/
import Derived.Test.YtifkmjmhhklkjaaV1
namespace Go.Proofs.Ytifkmjmhhklkjaa
open Go.RowKit

/-- The state of the order's loop. -/
def OrdSt (d : Int) (f0 f : Fm) (N : Nat) (w : World) (vk vp : Value) (wr : World) : Prop :=
  ∃ (j : Nat) (p : Fm) (P : Nat), vk = .int .i64 j ∧ vp = .pointer (some ⟨P, 0, none⟩) ∧ 1 ≤ j ∧ j ≤ N ∧ Hid (CF d p p) ∧ Hid (pw d f j = p) ∧ Blk wr w.heap.size 23 #[.int .i64 f0.a, .int .i64 f0.b, .int .i64 f0.c] ∧
    Blk wr P 23 #[.int .i64 p.a, .int .i64 p.b, .int .i64 p.c] ∧ w.heap.size < P ∧ Below w.heap.size w wr
theorem ord_end {d : Int} {f p o : Fm} {N j : Nat} (hN : IsOrd d f N) (ho : oneF d = o) (h1 : 1 ≤ j) (hj : j ≤ N) (hp : pw d f j = p) (hpo : p = o) : j = N := by
  rcases Nat.lt_or_ge j N with h | h
  · exact absurd (by rw [hp, hpo, ho]) (hN.2.2 j h1 h)
  · omega
theorem ord_more {d : Int} {f p o : Fm} {N j : Nat} (hN : IsOrd d f N) (ho : oneF d = o) (hj : j ≤ N) (hp : pw d f j = p) (hpo : p ≠ o) : j < N := by
  rcases Nat.lt_or_ge j N with h | h
  · exact h
  · have : j = N := by omega
    subst this
    exact absurd (by rw [← hp, hN.2.1, ho]) hpo

set_option maxHeartbeats 1600000 in
theorem orderOf_any (d : Int) (f0 f : Fm) (N : Nat) (w : World) (hf : CF d f0 f) (hN : IsOrd d f N) (hN2 : N ≤ 1640) :
    Calls Try.prog 98 #[.agg #[.int .i64 f0.a, .int .i64 f0.b, .int .i64 f0.c]] w fun ee w' => ee = .returned (.int .i64 N) ∧ Below w.heap.size w w' := by
  obtain ⟨o, ho⟩ : ∃ o, oneF d = o := ⟨_, rfl⟩
  have HN := Lib.hid hN
  have Ho := Lib.hid ho
  have Hf := Lib.hid hf
  have hF := Lib.hid (CF.of_mem hf.D hf.mem)
  have hp1 := Lib.hid (hf.D.pw_one hf.mem)
  have hN1 := hN.1
  clear hN hf ho
  go_enter Try.func98, Try.ntmps98
  go_wp2_with ((go_at_call 57; (with_reducible refine (reduced_cf d f0 f _ Hf.out).mono ?_); rintro e v1 ⟨rfl, hB1⟩; have hZ1 := hB1.size; (try simp at hZ1); (try have zl1 : w.heap.size < v1.heap.size := by omega); (try have ze1 : w.heap.size ≤ v1.heap.size := by omega); (try have zn1 : ¬ w.heap.size = v1.heap.size := by omega); (try have zm1 : ¬ v1.heap.size = w.heap.size := by omega); have hA1 : Blk v1 (w.heap.size) 23 #[.int .i64 f0.a, .int .i64 f0.b, .int .i64 f0.c] := Blk.call (by (repeat (first | with_reducible assumption | (with_reducible apply Blk.new_at; (first | rfl | (simp; done))) | with_reducible apply Blk.store3 | with_reducible apply Blk.store4 | (with_reducible apply Blk.farp; (first | omega | (simp <;> omega))) | with_reducible apply Blk.allocp | with_reducible apply Blk.drew | with_reducible apply Blk.drewN))) hB1; have cA1 := hA1.cell; have fA1 := hA1.frozen; have lA1 := hA1.lt; have mA1 := Nat.ne_of_gt lA1; have nA1 := Nat.ne_of_lt lA1))
  go_loopw [3, 4] (fun vk vp wr => OrdSt d f0 f N w vk vp wr) (fun vk _ _ => 2000 - (intOf vk).toNat)
  case atStart => exact ⟨1, f, _, rfl, rfl, Nat.le_refl _, hN1, hF, hp1, by (repeat (first | with_reducible assumption | (with_reducible apply Blk.new_at; (first | rfl | (simp; done))) | with_reducible apply Blk.store3 | with_reducible apply Blk.store4 | (with_reducible apply Blk.farp; (first | omega | (simp <;> omega))) | with_reducible apply Blk.allocp | with_reducible apply Blk.drew | with_reducible apply Blk.drewN)), by (repeat (first | with_reducible assumption | (with_reducible apply Blk.new_at; (first | rfl | (simp; done))) | with_reducible apply Blk.store3 | with_reducible apply Blk.store4 | (with_reducible apply Blk.farp; (first | omega | (simp <;> omega))) | with_reducible apply Blk.allocp | with_reducible apply Blk.drew | with_reducible apply Blk.drewN)), by omega, (by repeat (first | with_reducible exact Below.refl _ _ | with_reducible assumption | with_reducible apply Below.drew | with_reducible apply below_drewN | (with_reducible apply below_setp; (first | omega | (simp <;> omega))) | (with_reducible apply below_allocp; (first | omega | (simp <;> omega))) | (with_reducible refine below_viap (by assumption) ?_ ?_; (first | omega | (simp <;> omega)))))⟩
  case round =>
    obtain ⟨j, p, P, rfl, rfl, hj1, hjN, hcp, hpj, hA, hP, hlt, hbel⟩ := hrel
    have lA := hA.lt; have lP := hP.lt
    have cA := hA.cell; have fA := hA.frozen; have cP := hP.cell; have fP := hP.frozen
    have y1 : ¬ P = w.heap.size := by omega
    have y2 : ¬ w.heap.size = P := by omega
    have hI := fun w => isIdentity_any d p p o w hcp.out Ho.out
    by_cases hpo : p = o
    · have hjn := ord_end HN.out Ho.out hj1 hjN hpj.out hpo
      rw [(fmEq_iff p o).2 hpo] at hI
      have HI := Lib.hid hI
      clear hI hpo
      subst hjn
      go_wp2_with ((go_at_call 131; (with_reducible refine (HI.out _).mono ?_); rintro e v2 ⟨rfl, hB2⟩; have hZ2 := hB2.size; (try simp at hZ2); (try have zl2 : w.heap.size < v2.heap.size := by omega); (try have ze2 : w.heap.size ≤ v2.heap.size := by omega); (try have zn2 : ¬ w.heap.size = v2.heap.size := by omega); (try have zm2 : ¬ v2.heap.size = w.heap.size := by omega); have hA2 : Blk v2 (w.heap.size) 23 #[.int .i64 f0.a, .int .i64 f0.b, .int .i64 f0.c] := Blk.call (by (repeat (first | with_reducible assumption | (with_reducible apply Blk.new_at; (first | rfl | (simp; done))) | with_reducible apply Blk.store3 | with_reducible apply Blk.store4 | (with_reducible apply Blk.farp; (first | omega | (simp <;> omega))) | with_reducible apply Blk.allocp | with_reducible apply Blk.drew | with_reducible apply Blk.drewN))) hB2; have cA2 := hA2.cell; have fA2 := hA2.frozen; have lA2 := hA2.lt; have mA2 := Nat.ne_of_gt lA2; have nA2 := Nat.ne_of_lt lA2))
      go_ret
      exact ⟨rfl, (by repeat (first | with_reducible exact Below.refl _ _ | with_reducible assumption | with_reducible apply Below.drew | with_reducible apply below_drewN | (with_reducible apply below_setp; (first | omega | (simp <;> omega))) | (with_reducible apply below_allocp; (first | omega | (simp <;> omega))) | (with_reducible refine below_viap (by assumption) ?_ ?_; (first | omega | (simp <;> omega)))))⟩
    · have hjn := ord_more HN.out Ho.out hjN hpj.out hpo
      rw [(fmEq_no p o).2 hpo] at hI
      have HI := Lib.hid hI
      obtain ⟨p2, hp2⟩ : ∃ p2, cmp d p f = p2 := ⟨_, rfl⟩
      have hc := Lib.hid (fun w => compose_cf d p f0 p f p2 w hcp.out Hf.out hp2)
      have cp2 : Hid (CF d p2 p2) := Lib.hid (by rw [← hp2]; exact CF.of_mem hcp.out.D (hcp.out.D.cmpm hcp.out.mem Hf.out.mem))
      have hpj2 : Hid (pw d f (j + 1) = p2) := Lib.hid (by rw [← hp2, ← hpj.out]; rfl)
      clear hI hpo hp2
      go_wp2_with (first
        | (go_at_call 131; (with_reducible refine (HI.out _).mono ?_); rintro e v2 ⟨rfl, hB2⟩; have hZ2 := hB2.size; (try simp at hZ2); (try have zl2 : w.heap.size < v2.heap.size := by omega); (try have ze2 : w.heap.size ≤ v2.heap.size := by omega); (try have zn2 : ¬ w.heap.size = v2.heap.size := by omega); (try have zm2 : ¬ v2.heap.size = w.heap.size := by omega); have hA2 : Blk v2 (w.heap.size) 23 #[.int .i64 f0.a, .int .i64 f0.b, .int .i64 f0.c] := Blk.call (by (repeat (first | with_reducible assumption | (with_reducible apply Blk.new_at; (first | rfl | (simp; done))) | with_reducible apply Blk.store3 | with_reducible apply Blk.store4 | (with_reducible apply Blk.farp; (first | omega | (simp <;> omega))) | with_reducible apply Blk.allocp | with_reducible apply Blk.drew | with_reducible apply Blk.drewN))) hB2; have cA2 := hA2.cell; have fA2 := hA2.frozen; have lA2 := hA2.lt; have mA2 := Nat.ne_of_gt lA2; have nA2 := Nat.ne_of_lt lA2; have hP2 : Blk v2 (P) 23 #[.int .i64 p.a, .int .i64 p.b, .int .i64 p.c] := Blk.call (by (repeat (first | with_reducible assumption | (with_reducible apply Blk.new_at; (first | rfl | (simp; done))) | with_reducible apply Blk.store3 | with_reducible apply Blk.store4 | (with_reducible apply Blk.farp; (first | omega | (simp <;> omega))) | with_reducible apply Blk.allocp | with_reducible apply Blk.drew | with_reducible apply Blk.drewN))) hB2; have cP2 := hP2.cell; have fP2 := hP2.frozen; have lP2 := hP2.lt; have mP2 := Nat.ne_of_gt lP2; have nP2 := Nat.ne_of_lt lP2)
        | (go_at_call 112; (with_reducible refine (hc.out _).mono ?_); rintro e v3 ⟨rfl, hB3⟩; have hZ3 := hB3.size; (try simp at hZ3); (try have zl3 : w.heap.size < v3.heap.size := by omega); (try have ze3 : w.heap.size ≤ v3.heap.size := by omega); (try have zn3 : ¬ w.heap.size = v3.heap.size := by omega); (try have zm3 : ¬ v3.heap.size = w.heap.size := by omega); have hA3 : Blk v3 (w.heap.size) 23 #[.int .i64 f0.a, .int .i64 f0.b, .int .i64 f0.c] := Blk.call (by (repeat (first | with_reducible assumption | (with_reducible apply Blk.new_at; (first | rfl | (simp; done))) | with_reducible apply Blk.store3 | with_reducible apply Blk.store4 | (with_reducible apply Blk.farp; (first | omega | (simp <;> omega))) | with_reducible apply Blk.allocp | with_reducible apply Blk.drew | with_reducible apply Blk.drewN))) hB3; have cA3 := hA3.cell; have fA3 := hA3.frozen; have lA3 := hA3.lt; have mA3 := Nat.ne_of_gt lA3; have nA3 := Nat.ne_of_lt lA3; have hQ3 : Blk v3 (v2.heap.size) 23 #[.int .i64 p.a, .int .i64 p.b, .int .i64 p.c] := Blk.call (by (repeat (first | with_reducible assumption | (with_reducible apply Blk.new_at; (first | rfl | (simp; done))) | with_reducible apply Blk.store3 | with_reducible apply Blk.store4 | (with_reducible apply Blk.farp; (first | omega | (simp <;> omega))) | with_reducible apply Blk.allocp | with_reducible apply Blk.drew | with_reducible apply Blk.drewN))) hB3; have cQ3 := hQ3.cell; have fQ3 := hQ3.frozen; have lQ3 := hQ3.lt; have mQ3 := Nat.ne_of_gt lQ3; have nQ3 := Nat.ne_of_lt lQ3))
      go_roundw
      case rel => exact ⟨j + 1, p2, _, by go_num, rfl, by omega, hjn, cp2, hpj2, by (repeat (first | with_reducible assumption | (with_reducible apply Blk.new_at; (first | rfl | (simp; done))) | with_reducible apply Blk.store3 | with_reducible apply Blk.store4 | (with_reducible apply Blk.farp; (first | omega | (simp <;> omega))) | with_reducible apply Blk.allocp | with_reducible apply Blk.drew | with_reducible apply Blk.drewN)), by (repeat (first | with_reducible assumption | (with_reducible apply Blk.new_at; (first | rfl | (simp; done))) | with_reducible apply Blk.store3 | with_reducible apply Blk.store4 | (with_reducible apply Blk.farp; (first | omega | (simp <;> omega))) | with_reducible apply Blk.allocp | with_reducible apply Blk.drew | with_reducible apply Blk.drewN)), by omega, (by repeat (first | with_reducible exact Below.refl _ _ | with_reducible assumption | with_reducible apply Below.drew | with_reducible apply below_drewN | (with_reducible apply below_setp; (first | omega | (simp <;> omega))) | (with_reducible apply below_allocp; (first | omega | (simp <;> omega))) | (with_reducible refine below_viap (by assumption) ?_ ?_; (first | omega | (simp <;> omega)))))⟩
      case measure => simp [intOf]; omega
end Go.Proofs.Ytifkmjmhhklkjaa
