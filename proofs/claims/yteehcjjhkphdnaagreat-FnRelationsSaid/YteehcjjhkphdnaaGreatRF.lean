/- Contracts: OrderOf, IsIdentity, InverseForm, PrimeClass of the program; the law's sums. -/
import Derived.Test.YteehcjjhkphdnaaGreatPF
import Derived.Test.YteehcjjhkphdnaaGreatGU
namespace Go.Proofs.YteehcjjhkphdnaaGreat
open Go.RowKit

set_option maxHeartbeats 800000 in
theorem ordC_any (a b c : Int) (f : Fm) (d : Int) (w : World) (h : isCls a b c = true) (cf : CF d ⟨a, b, c⟩ f) :
    Calls Tryz.prog 31 #[.agg #[.int .i64 a, .int .i64 b, .int .i64 c]] w fun e w' => e = .returned (.tuple #[.int .i64 (ordF d f : Nat), .bool true]) ∧ Below w.heap.size w w' := by
  have hI := Lib.hid (fun w => icls_any a b c w)
  rw [h] at hI
  obtain ⟨hN, hN2⟩ := cf.D.ordm cf.mem
  have hO := Lib.hid (fun w => orderOf_any d ⟨a, b, c⟩ f _ w cf hN hN2)
  dsimp only at hO
  clear cf h hN hN2
  generalize ordF d f = N at hO
  go_enter Tryz.func31, Tryz.ntmps31
  go_wp2_with (first
    | (go_at_call 93; (with_reducible refine (hI.out _).mono ?_); rintro e v1 ⟨rfl, hB1⟩; have hZ1 := hB1.size; (try simp at hZ1); (try have zl1 : w.heap.size < v1.heap.size := by omega); (try have ze1 : w.heap.size ≤ v1.heap.size := by omega); (try have zn1 : ¬ w.heap.size = v1.heap.size := by omega); (try have zm1 : ¬ v1.heap.size = w.heap.size := by omega); have hA1 : Blk v1 (w.heap.size) 36 #[.int .i64 a, .int .i64 b, .int .i64 c] := Blk.call (by (repeat (first | with_reducible assumption | (with_reducible apply Blk.new_at; (first | rfl | (simp; done))) | with_reducible apply Blk.store3 | with_reducible apply Blk.store4 | (with_reducible apply Blk.farp; (first | omega | (simp <;> omega))) | with_reducible apply Blk.allocp | with_reducible apply Blk.drew | with_reducible apply Blk.drewN))) hB1; have cA1 := hA1.cell; have fA1 := hA1.frozen; have lA1 := hA1.lt; have mA1 := Nat.ne_of_gt lA1; have nA1 := Nat.ne_of_lt lA1)
    | (go_at_call 103; (with_reducible refine (hO.out _).mono ?_); rintro e v2 ⟨rfl, hB2⟩; have hZ2 := hB2.size; (try simp at hZ2); (try have zl2 : w.heap.size < v2.heap.size := by omega); (try have ze2 : w.heap.size ≤ v2.heap.size := by omega); (try have zn2 : ¬ w.heap.size = v2.heap.size := by omega); (try have zm2 : ¬ v2.heap.size = w.heap.size := by omega); have hA2 : Blk v2 (w.heap.size) 36 #[.int .i64 a, .int .i64 b, .int .i64 c] := Blk.call (by (repeat (first | with_reducible assumption | (with_reducible apply Blk.new_at; (first | rfl | (simp; done))) | with_reducible apply Blk.store3 | with_reducible apply Blk.store4 | (with_reducible apply Blk.farp; (first | omega | (simp <;> omega))) | with_reducible apply Blk.allocp | with_reducible apply Blk.drew | with_reducible apply Blk.drewN))) hB2; have cA2 := hA2.cell; have fA2 := hA2.frozen; have lA2 := hA2.lt; have mA2 := Nat.ne_of_gt lA2; have nA2 := Nat.ne_of_lt lA2))
  go_ret2
  exact ⟨rfl, (by repeat (first | with_reducible exact Below.refl _ _ | with_reducible assumption | with_reducible apply Below.drew | with_reducible apply below_drewN | (with_reducible apply below_setp; (first | omega | (simp <;> omega))) | (with_reducible apply below_allocp; (first | omega | (simp <;> omega))) | (with_reducible refine below_viap (by assumption) ?_ ?_; (first | omega | (simp <;> omega)))))⟩
set_option maxHeartbeats 800000 in
theorem isIdC_any (a b c : Int) (f : Fm) (d : Int) (w : World) (h : isCls a b c = true) (cf : CF d ⟨a, b, c⟩ f) :
    Calls Tryz.prog 29 #[.agg #[.int .i64 a, .int .i64 b, .int .i64 c]] w fun e w' => e = .returned (.tuple #[.bool (fmEq f (oneF d)), .bool true]) ∧ Below w.heap.size w w' := by
  have hI := Lib.hid (fun w => icls_any a b c w)
  rw [h] at hI
  have hO := Lib.hid (fun w => isIdentity_any d ⟨a, b, c⟩ f _ w cf rfl)
  dsimp only at hO
  clear cf h
  generalize fmEq f (oneF d) = y at hO
  go_enter Tryz.func29, Tryz.ntmps29
  go_wp2_with (first
    | (go_at_call 93; (with_reducible refine (hI.out _).mono ?_); rintro e v1 ⟨rfl, hB1⟩; have hZ1 := hB1.size; (try simp at hZ1); (try have zl1 : w.heap.size < v1.heap.size := by omega); (try have ze1 : w.heap.size ≤ v1.heap.size := by omega); (try have zn1 : ¬ w.heap.size = v1.heap.size := by omega); (try have zm1 : ¬ v1.heap.size = w.heap.size := by omega); have hA1 : Blk v1 (w.heap.size) 36 #[.int .i64 a, .int .i64 b, .int .i64 c] := Blk.call (by (repeat (first | with_reducible assumption | (with_reducible apply Blk.new_at; (first | rfl | (simp; done))) | with_reducible apply Blk.store3 | with_reducible apply Blk.store4 | (with_reducible apply Blk.farp; (first | omega | (simp <;> omega))) | with_reducible apply Blk.allocp | with_reducible apply Blk.drew | with_reducible apply Blk.drewN))) hB1; have cA1 := hA1.cell; have fA1 := hA1.frozen; have lA1 := hA1.lt; have mA1 := Nat.ne_of_gt lA1; have nA1 := Nat.ne_of_lt lA1)
    | (go_at_call 99; (with_reducible refine (hO.out _).mono ?_); rintro e v2 ⟨rfl, hB2⟩; have hZ2 := hB2.size; (try simp at hZ2); (try have zl2 : w.heap.size < v2.heap.size := by omega); (try have ze2 : w.heap.size ≤ v2.heap.size := by omega); (try have zn2 : ¬ w.heap.size = v2.heap.size := by omega); (try have zm2 : ¬ v2.heap.size = w.heap.size := by omega); have hA2 : Blk v2 (w.heap.size) 36 #[.int .i64 a, .int .i64 b, .int .i64 c] := Blk.call (by (repeat (first | with_reducible assumption | (with_reducible apply Blk.new_at; (first | rfl | (simp; done))) | with_reducible apply Blk.store3 | with_reducible apply Blk.store4 | (with_reducible apply Blk.farp; (first | omega | (simp <;> omega))) | with_reducible apply Blk.allocp | with_reducible apply Blk.drew | with_reducible apply Blk.drewN))) hB2; have cA2 := hA2.cell; have fA2 := hA2.frozen; have lA2 := hA2.lt; have mA2 := Nat.ne_of_gt lA2; have nA2 := Nat.ne_of_lt lA2))
  go_ret2
  exact ⟨rfl, (by repeat (first | with_reducible exact Below.refl _ _ | with_reducible assumption | with_reducible apply Below.drew | with_reducible apply below_drewN | (with_reducible apply below_setp; (first | omega | (simp <;> omega))) | (with_reducible apply below_allocp; (first | omega | (simp <;> omega))) | (with_reducible refine below_viap (by assumption) ?_ ?_; (first | omega | (simp <;> omega)))))⟩

set_option maxHeartbeats 800000 in
theorem invF_any (d : Int) (p : Fm) (w : World) (D : Dsc d) (hp : p ∈ clsL d) :
    Calls Tryz.prog 23 #[.agg #[.int .i64 p.a, .int .i64 p.b, .int .i64 p.c]] w fun e w' => e = .returned (.tuple #[.agg #[.int .i64 (red (oppF p)).a, .int .i64 (red (oppF p)).b, .int .i64 (red (oppF p)).c], .bool true]) ∧ Below w.heap.size w w' := by
  have hc := cls_isCls D hp
  have cf := CF.opp D hp
  obtain ⟨_, ⟨B1, B2⟩, _⟩ := cls_bd D.lo hp
  have hO := Lib.hid (fun w => opposite_any p w ⟨by omega, by omega⟩)
  have hR := Lib.hid (fun w => reduced_any (oppF p).a (oppF p).b (oppF p).c (red (oppF p)).a (red (oppF p)).b (red (oppF p)).c w cf.df rfl)
  generalize red (oppF p) = r at *
  generalize oppF p = o at *
  clear cf
  go_enter Tryz.func23, Tryz.ntmps23
  go_wp2_with (first | (go_at_call 93; (with_reducible refine (icls_any p.a p.b p.c _).mono ?_); rw [hc]; rintro e v1 ⟨rfl, hB1⟩; have hZ1 := hB1.size; (try simp at hZ1); (try have zl1 : w.heap.size < v1.heap.size := by omega); (try have ze1 : w.heap.size ≤ v1.heap.size := by omega); (try have zn1 : ¬ w.heap.size = v1.heap.size := by omega); (try have zm1 : ¬ v1.heap.size = w.heap.size := by omega); have hC1_0 := fun o => (calm_cells hB1).1 (w.heap.size) o (by first | omega | (simp <;> omega)); have hF1_0 := fun o => (calm_cells hB1).2 (w.heap.size) o (by first | omega | (simp <;> omega)); (try have hl1_0 : w.heap.size < v1.heap.size := by omega); (try have hm1_0 : ¬ w.heap.size = v1.heap.size := by omega); (try have hn1_0 : ¬ v1.heap.size = w.heap.size := by omega); have hC1_1 := fun o => (calm_cells hB1).1 (w.heap.size + 1) o (by first | omega | (simp <;> omega)); have hF1_1 := fun o => (calm_cells hB1).2 (w.heap.size + 1) o (by first | omega | (simp <;> omega)); (try have hl1_1 : w.heap.size + 1 < v1.heap.size := by omega); (try have hm1_1 : ¬ w.heap.size + 1 = v1.heap.size := by omega); (try have hn1_1 : ¬ v1.heap.size = w.heap.size + 1 := by omega)) | (go_at_call 95; (with_reducible refine (hO.out _).mono ?_); rintro e v2 ⟨rfl, hB2⟩; have hZ2 := hB2.size; (try simp at hZ2); (try have zl2 : w.heap.size < v2.heap.size := by omega); (try have ze2 : w.heap.size ≤ v2.heap.size := by omega); (try have zn2 : ¬ w.heap.size = v2.heap.size := by omega); (try have zm2 : ¬ v2.heap.size = w.heap.size := by omega); have hC2_0 := fun o => (calm_cells hB2).1 (w.heap.size) o (by first | omega | (simp <;> omega)); have hF2_0 := fun o => (calm_cells hB2).2 (w.heap.size) o (by first | omega | (simp <;> omega)); (try have hl2_0 : w.heap.size < v2.heap.size := by omega); (try have hm2_0 : ¬ w.heap.size = v2.heap.size := by omega); (try have hn2_0 : ¬ v2.heap.size = w.heap.size := by omega); have hC2_1 := fun o => (calm_cells hB2).1 (w.heap.size + 1) o (by first | omega | (simp <;> omega)); have hF2_1 := fun o => (calm_cells hB2).2 (w.heap.size + 1) o (by first | omega | (simp <;> omega)); (try have hl2_1 : w.heap.size + 1 < v2.heap.size := by omega); (try have hm2_1 : ¬ w.heap.size + 1 = v2.heap.size := by omega); (try have hn2_1 : ¬ v2.heap.size = w.heap.size + 1 := by omega)) | (go_at_call 94; (with_reducible refine (hR.out _).mono ?_); rintro e v3 ⟨rfl, hB3⟩; have hZ3 := hB3.size; (try simp at hZ3); (try have zl3 : w.heap.size < v3.heap.size := by omega); (try have ze3 : w.heap.size ≤ v3.heap.size := by omega); (try have zn3 : ¬ w.heap.size = v3.heap.size := by omega); (try have zm3 : ¬ v3.heap.size = w.heap.size := by omega); have hC3_0 := fun o => (calm_cells hB3).1 (w.heap.size) o (by first | omega | (simp <;> omega)); have hF3_0 := fun o => (calm_cells hB3).2 (w.heap.size) o (by first | omega | (simp <;> omega)); (try have hl3_0 : w.heap.size < v3.heap.size := by omega); (try have hm3_0 : ¬ w.heap.size = v3.heap.size := by omega); (try have hn3_0 : ¬ v3.heap.size = w.heap.size := by omega); have hC3_1 := fun o => (calm_cells hB3).1 (w.heap.size + 1) o (by first | omega | (simp <;> omega)); have hF3_1 := fun o => (calm_cells hB3).2 (w.heap.size + 1) o (by first | omega | (simp <;> omega)); (try have hl3_1 : w.heap.size + 1 < v3.heap.size := by omega); (try have hm3_1 : ¬ w.heap.size + 1 = v3.heap.size := by omega); (try have hn3_1 : ¬ v3.heap.size = w.heap.size + 1 := by omega)))
  exact bodyPost_ret (v := .tuple #[.agg #[.int .i64 r.a, .int .i64 r.b, .int .i64 r.c], .bool true]) (by simp [results, Tryz.results23, go_sem, *]) rfl ⟨rfl, (by repeat (first | with_reducible exact Below.refl _ _ | with_reducible assumption | with_reducible apply Below.drew | with_reducible apply below_drewN | (with_reducible apply below_setp; (first | omega | (simp <;> omega))) | (with_reducible apply below_allocp; (first | omega | (simp <;> omega))) | (with_reducible refine below_viap (by assumption) ?_ ?_; (first | omega | (simp <;> omega)))))⟩

set_option maxHeartbeats 800000 in
theorem primeC_any (d z : Int) (f : Fm) (w : World) (h : prF d z = some f) :
    Calls Tryz.prog 30 #[.int .i64 d, .int .i64 z] w fun e w' => e = .returned (.tuple #[.agg #[.int .i64 (red f).a, .int .i64 (red f).b, .int .i64 (red f).c], .bool true]) ∧ Below w.heap.size w w' := by
  have cf := prF_cf h
  have hP := Lib.hid (fun w => implPF_any d z w)
  rw [h] at hP
  dsimp only [pfV, Option.isSome_some, Option.getD_some] at hP
  have hR := Lib.hid (fun w => reduced_any f.a f.b f.c (red f).a (red f).b (red f).c w cf.df rfl)
  generalize red f = r at *
  clear cf h
  go_enter Tryz.func30, Tryz.ntmps30
  go_wp2_with (first | (go_at_call 102; (with_reducible refine (hP.out _).mono ?_); rintro e v1 ⟨rfl, hB1⟩; have hZ1 := hB1.size; (try simp at hZ1); (try have zl1 : w.heap.size < v1.heap.size := by omega); (try have ze1 : w.heap.size ≤ v1.heap.size := by omega); (try have zn1 : ¬ w.heap.size = v1.heap.size := by omega); (try have zm1 : ¬ v1.heap.size = w.heap.size := by omega); have hC1_0 := fun o => (calm_cells hB1).1 (w.heap.size) o (by first | omega | (simp <;> omega)); have hF1_0 := fun o => (calm_cells hB1).2 (w.heap.size) o (by first | omega | (simp <;> omega)); (try have hl1_0 : w.heap.size < v1.heap.size := by omega); (try have hm1_0 : ¬ w.heap.size = v1.heap.size := by omega); (try have hn1_0 : ¬ v1.heap.size = w.heap.size := by omega)) | (go_at_call 94; (with_reducible refine (hR.out _).mono ?_); rintro e v2 ⟨rfl, hB2⟩; have hZ2 := hB2.size; (try simp at hZ2); (try have zl2 : w.heap.size < v2.heap.size := by omega); (try have ze2 : w.heap.size ≤ v2.heap.size := by omega); (try have zn2 : ¬ w.heap.size = v2.heap.size := by omega); (try have zm2 : ¬ v2.heap.size = w.heap.size := by omega); have hC2_0 := fun o => (calm_cells hB2).1 (w.heap.size) o (by first | omega | (simp <;> omega)); have hF2_0 := fun o => (calm_cells hB2).2 (w.heap.size) o (by first | omega | (simp <;> omega)); (try have hl2_0 : w.heap.size < v2.heap.size := by omega); (try have hm2_0 : ¬ w.heap.size = v2.heap.size := by omega); (try have hn2_0 : ¬ v2.heap.size = w.heap.size := by omega)))
  exact bodyPost_ret (v := .tuple #[.agg #[.int .i64 r.a, .int .i64 r.b, .int .i64 r.c], .bool true]) (by simp [results, Tryz.results30, go_sem, *]) rfl ⟨rfl, (by repeat (first | with_reducible exact Below.refl _ _ | with_reducible assumption | with_reducible apply Below.drew | with_reducible apply below_drewN | (with_reducible apply below_setp; (first | omega | (simp <;> omega))) | (with_reducible apply below_allocp; (first | omega | (simp <;> omega))) | (with_reducible refine below_viap (by assumption) ?_ ?_; (first | omega | (simp <;> omega)))))⟩

theorem sum_bd : ∀ (E : List Int), (∀ e ∈ E, 0 ≤ e ∧ e ≤ 650) → 0 ≤ E.sum ∧ E.sum ≤ 650 * E.length
  | [], _ => by simp
  | x :: E, h => by
    have h1 := h x (by simp)
    have h2 := sum_bd E (fun e he => h e (List.mem_cons_of_mem _ he))
    rw [List.sum_cons, List.length_cons]
    omega
set_option maxHeartbeats 800000 in
theorem qSum_any (v : Value) (B : Nat) (E : List Int) (w : World) (hl : E.length ≤ 6) (hb : ∀ e ∈ E, 0 ≤ e ∧ e ≤ 650) (h : w.ownsRow B 3 1 v E.length (cellsI E)) :
    Calls Tryz.prog 32 #[v] w fun e w' => e = .returned (.int .i64 E.sum) ∧ w = w' := by
  obtain ⟨bl, cl, rfl⟩ := own_shape h
  have H := Lib.hid h
  have HB := Lib.hid hb
  clear h hb
  go_enter Tryz.func32, Tryz.ntmps32
  go_wp2
  go_loop [3, 8] (fun vs vi => ∃ k : Nat, vi = .int .i64 k ∧ k ≤ E.length ∧ vs = .int .i64 (E.take k).sum) (fun _ vi => E.length - (intOf vi).toNat)
  case atStart => exact ⟨0, rfl, Nat.zero_le _, by simp⟩
  case round =>
    obtain ⟨k, rfl, hk, rfl⟩ := hrel
    by_cases hlt : k < E.length
    · obtain ⟨g, rfl, lg, d1⟩ := own_elemI H.out hlt
      have e1 : (E.take (k + 1)).sum = (E.take k).sum + E[k] := by rw [List.take_succ_eq_append_getElem hlt, List.sum_append]; simp
      have e2 := sum_bd (E.take k) (fun e he => HB.out e (List.mem_of_mem_take he))
      have e3 : (E.take k).length ≤ 6 := by rw [List.length_take]; omega
      have e4 := HB.out _ (List.getElem_mem hlt)
      have He := Lib.hid e1
      clear e1
      generalize (E.take k).sum = s at *
      generalize E[k] = y at *
      have hw : wrap64 (s + y) = s + y := IntWalk.wrap64_in _ (by omega)
      clear e2 e3 e4
      go_wp2
      exact ⟨⟨k + 1, by simp, hlt, by rw [He.out, hw]⟩, by simp [intOf]; omega⟩
    · obtain rfl : k = E.length := by omega
      go_wp2
      go_ret
      exact ⟨by first | rfl | simp, rfl⟩
end Go.Proofs.YteehcjjhkphdnaaGreat
