/- Contracts: drawn values of forms. -/
import Derived.Test.YtkpiiicefmkhcaaIL
import Derived.Test.YtkpiiicefmkhcaaDK
namespace Go.Proofs.Ytkpiiicefmkhcaa
open Go.RowKit

theorem shown_def {a b c : Int} (h : isShown a b c = true) : Def M0 ⟨a, b, c⟩ := by
  unfold isShown isDefB at h
  simp only [Bool.and_eq_true, decide_eq_true_eq] at h
  obtain ⟨⟨hf, h1, h2⟩, h3⟩ := h
  obtain ⟨⟨a1, a2⟩, ⟨b1, b2⟩, ⟨c1, c2⟩⟩ := isFm_bd hf
  have hd : b * b < 4 * (a * c) := by rw [← disc_eq, Int.mul_assoc] at h1; omega
  unfold M0
  exact ⟨h2, by show a ≤ _; omega, c_of_disc h2 hd, by show c ≤ _; omega, hd⟩
section
variable {zs : List Int} {v : Value} {B G n m : Nat} {w0 w w1 w2 : World}
set_option maxRecDepth 100000 in
set_option maxHeartbeats 3200000 in
theorem shown_d (h : Drw zs v B G n w0 w) (hB : B ≤ G) (hn : n + 10 ≤ 100000000) (f : Fm) :
    Calls Try.prog 119 #[.pointer (some ⟨G, 0, none⟩), .agg #[.int .i64 f.a, .int .i64 f.b, .int .i64 f.c]] w fun e w' => ∃ x : Int, e = .returned (.int .i64 x) ∧ True ∧ Drw zs v B G (n + 10) w0 w' ∧ w.grownBy w' (some G) := by
  have H := Lib.hid h
  have lG0 := h.lt
  have hD0 := Lib.hid (Drw.start h.rd h.cur)
  clear h
  have hfin : Hid (∀ (x : Int) (w' : World) (k : Nat), Drw zs v B G k w w' → k ≤ n + 10 → ∃ y : Int, Ending.returned (.int .i64 x) = .returned (.int .i64 y) ∧ True ∧ Drw zs v B G (n + 10) w0 w' ∧ w.grownBy w' (some G)) :=
    Lib.hid (fun x w' k hd hk => ⟨x, rfl, trivial, (H.out.next hB hd.cur hd.gr).more hk, hd.gr⟩)
  go_enter Try.func119, Try.ntmps119
  go_wp2_with fail
  refine (pick_d (by repeat (first | with_reducible assumption | (with_reducible apply Hid.out; assumption) | with_reducible apply Drw.drewN | with_reducible apply Drw.drew | with_reducible apply Drw.alloc | (with_reducible refine Drw.setp ?_ ?_ ?_ ?_; (first | omega | (simp <;> omega)); (first | omega | (simp <;> omega)); (first | omega | (simp <;> omega))))) hB 8 (by omega) (by omega)).mono ?_
  rintro e v1 ⟨x1, rfl, hx1, hD1', hG1⟩
  have hD1 := Lib.hid hD1'
  have lG1 := hD1'.lt
  have zG1 := hG1.size
  (try simp at zG1)
  have hA1 : Blk v1 (w.heap.size) 35 #[.int .i64 f.a, .int .i64 f.b, .int .i64 f.c] := Blk.grown (by (repeat (first | with_reducible assumption | (with_reducible apply Blk.new_at; (first | rfl | (simp; done))) | with_reducible apply Blk.store3 | with_reducible apply Blk.store4 | (with_reducible apply Blk.farp; (first | omega | (simp <;> omega))) | with_reducible apply Blk.allocp | with_reducible apply Blk.drew | with_reducible apply Blk.drewN))) hG1 (by simp <;> omega)
  have cA1 := hA1.cell; have fA1 := hA1.frozen; have lA1 := hA1.lt; have mA1 := Nat.ne_of_gt lA1; have nA1 := Nat.ne_of_lt lA1
  clear hD1' hG1
  by_cases e0 : x1 = 0
  · subst e0
    clear hx1
    go_wp2_with fail
    refine (among_d (w := v1) (by repeat (first | with_reducible assumption | (with_reducible apply Hid.out; assumption) | with_reducible apply Drw.drewN | with_reducible apply Drw.drew | with_reducible apply Drw.alloc | (with_reducible refine Drw.setp ?_ ?_ ?_ ?_; (first | omega | (simp <;> omega)); (first | omega | (simp <;> omega)); (first | omega | (simp <;> omega))))) hB [0, 1, -1, 10000, 10001, 4611686018427387904] (fun _ => True) (by simp) (by decide) (by decide) (by omega)).mono ?_
    rintro e v2 ⟨x2, rfl, hx2, hD2', hG2⟩
    have hD2 := Lib.hid hD2'
    clear hD2' hG2
    go_wp2
    go_ret
    exact hfin.out _ _ _ (by repeat (first | with_reducible assumption | (with_reducible apply Hid.out; assumption) | with_reducible apply Drw.drewN | with_reducible apply Drw.drew | with_reducible apply Drw.alloc | (with_reducible refine Drw.setp ?_ ?_ ?_ ?_; (first | omega | (simp <;> omega)); (first | omega | (simp <;> omega)); (first | omega | (simp <;> omega))))) (by omega)
  · have n0 : (x1 == 0) = false := by rw [beq_eq_false_iff_ne]; exact e0
    by_cases e1 : x1 = 1 ∨ x1 = 2
    · have e2 : (x1 == 1) = true ∨ (x1 == 1) = false ∧ (x1 == 2) = true := by
        rcases e1 with rfl | rfl
        · exact .inl rfl
        · exact .inr ⟨rfl, rfl⟩
      clear e1 hx1 e0
      rcases e2 with e2 | ⟨e2, e3⟩
      all_goals
        go_wp2_with fail
        refine (pick_d (by repeat (first | with_reducible assumption | (with_reducible apply Hid.out; assumption) | with_reducible apply Drw.drewN | with_reducible apply Drw.drew | with_reducible apply Drw.alloc | (with_reducible refine Drw.setp ?_ ?_ ?_ ?_; (first | omega | (simp <;> omega)); (first | omega | (simp <;> omega)); (first | omega | (simp <;> omega))))) hB 200 (by omega) (by omega)).mono ?_
        rintro e v2 ⟨x2, rfl, hx2, hD2', hG2⟩
        have hD2 := Lib.hid hD2'
        have lG2 := hD2'.lt
        have zG2 := hG2.size
        (try simp at zG2)
        clear hD2' hG2
        go_wp2
        go_ret
        exact hfin.out _ _ _ (by repeat (first | with_reducible assumption | (with_reducible apply Hid.out; assumption) | with_reducible apply Drw.drewN | with_reducible apply Drw.drew | with_reducible apply Drw.alloc | (with_reducible refine Drw.setp ?_ ?_ ?_ ?_; (first | omega | (simp <;> omega)); (first | omega | (simp <;> omega)); (first | omega | (simp <;> omega))))) (by omega)
    · have n1 : (x1 == 1) = false := by rw [beq_eq_false_iff_ne]; omega
      have n2 : (x1 == 2) = false := by rw [beq_eq_false_iff_ne]; omega
      by_cases e3 : x1 = 3
      · subst e3
        clear e1 hx1 e0
        go_wp2_with fail
        refine (pick_d (by repeat (first | with_reducible assumption | (with_reducible apply Hid.out; assumption) | with_reducible apply Drw.drewN | with_reducible apply Drw.drew | with_reducible apply Drw.alloc | (with_reducible refine Drw.setp ?_ ?_ ?_ ?_; (first | omega | (simp <;> omega)); (first | omega | (simp <;> omega)); (first | omega | (simp <;> omega))))) hB 10000 (by omega) (by omega)).mono ?_
        rintro e v2 ⟨x2, rfl, hx2, hD2', hG2⟩
        have hD2 := Lib.hid hD2'
        have lG2 := hD2'.lt
        have zG2 := hG2.size
        (try simp at zG2)
        clear hD2' hG2
        go_wp2
        go_ret
        exact hfin.out _ _ _ (by repeat (first | with_reducible assumption | (with_reducible apply Hid.out; assumption) | with_reducible apply Drw.drewN | with_reducible apply Drw.drew | with_reducible apply Drw.alloc | (with_reducible refine Drw.setp ?_ ?_ ?_ ?_; (first | omega | (simp <;> omega)); (first | omega | (simp <;> omega)); (first | omega | (simp <;> omega))))) (by omega)
      · have n3 : (x1 == 3) = false := by rw [beq_eq_false_iff_ne]; omega
        clear e1 e3 hx1 e0
        have hVF := Lib.hid (fun w => sshown_any f.a f.b f.c w)
        cases hs : isShown f.a f.b f.c with
        | false =>
          rw [hs] at hVF
          clear hs
          go_wp2_with (go_at_call 189; (with_reducible refine (hVF.out _).mono ?_); rintro e v2 ⟨rfl, hB2⟩; have hZ2 := hB2.size; (try simp at hZ2); (try have zl2 : w.heap.size < v2.heap.size := by omega); (try have ze2 : w.heap.size ≤ v2.heap.size := by omega); (try have zn2 : ¬ w.heap.size = v2.heap.size := by omega); (try have zm2 : ¬ v2.heap.size = w.heap.size := by omega); have hA2 : Blk v2 (w.heap.size) 35 #[.int .i64 f.a, .int .i64 f.b, .int .i64 f.c] := Blk.call (by (repeat (first | with_reducible assumption | (with_reducible apply Blk.new_at; (first | rfl | (simp; done))) | with_reducible apply Blk.store3 | with_reducible apply Blk.store4 | (with_reducible apply Blk.farp; (first | omega | (simp <;> omega))) | with_reducible apply Blk.allocp | with_reducible apply Blk.drew | with_reducible apply Blk.drewN))) hB2; have cA2 := hA2.cell; have fA2 := hA2.frozen; have lA2 := hA2.lt; have mA2 := Nat.ne_of_gt lA2; have nA2 := Nat.ne_of_lt lA2)
          have hD2 : Drw zs v B G _ _ v2 := Drw.call (w := _) (by repeat (first | with_reducible assumption | (with_reducible apply Hid.out; assumption) | with_reducible apply Drw.drewN | with_reducible apply Drw.drew | with_reducible apply Drw.alloc | (with_reducible refine Drw.setp ?_ ?_ ?_ ?_; (first | omega | (simp <;> omega)); (first | omega | (simp <;> omega)); (first | omega | (simp <;> omega))))) hB hB2
          refine (pick_d hD2 hB 50 (by omega) (by omega)).mono ?_
          rintro e v3 ⟨x3, rfl, hx3, hD3', hG3⟩
          have hD3 := Lib.hid hD3'
          clear hD3' hG3
          go_wp2
          go_ret
          exact hfin.out _ _ _ (by repeat (first | with_reducible assumption | (with_reducible apply Hid.out; assumption) | with_reducible apply Drw.drewN | with_reducible apply Drw.drew | with_reducible apply Drw.alloc | (with_reducible refine Drw.setp ?_ ?_ ?_ ?_; (first | omega | (simp <;> omega)); (first | omega | (simp <;> omega)); (first | omega | (simp <;> omega))))) (by omega)
        | true =>
          rw [hs] at hVF
          have hR := Lib.hid (fun w => reClass_any f.a f.b f.c (red ⟨f.a, f.b, f.c⟩).a (red ⟨f.a, f.b, f.c⟩).b (red ⟨f.a, f.b, f.c⟩).c w (shown_def hs) rfl)
          generalize red ⟨f.a, f.b, f.c⟩ = r at *
          clear hs
          go_wp2_with (first
            | (go_at_call 189; (with_reducible refine (hVF.out _).mono ?_); rintro e v2 ⟨rfl, hB2⟩; have hZ2 := hB2.size; (try simp at hZ2); (try have zl2 : w.heap.size < v2.heap.size := by omega); (try have ze2 : w.heap.size ≤ v2.heap.size := by omega); (try have zn2 : ¬ w.heap.size = v2.heap.size := by omega); (try have zm2 : ¬ v2.heap.size = w.heap.size := by omega); have hA2 : Blk v2 (w.heap.size) 35 #[.int .i64 f.a, .int .i64 f.b, .int .i64 f.c] := Blk.call (by (repeat (first | with_reducible assumption | (with_reducible apply Blk.new_at; (first | rfl | (simp; done))) | with_reducible apply Blk.store3 | with_reducible apply Blk.store4 | (with_reducible apply Blk.farp; (first | omega | (simp <;> omega))) | with_reducible apply Blk.allocp | with_reducible apply Blk.drew | with_reducible apply Blk.drewN))) hB2; have cA2 := hA2.cell; have fA2 := hA2.frozen; have lA2 := hA2.lt; have mA2 := Nat.ne_of_gt lA2; have nA2 := Nat.ne_of_lt lA2)
            | (go_at_call 190; (with_reducible refine (hR.out _).mono ?_); rintro e v3 ⟨rfl, hB3⟩; have hZ3 := hB3.size; (try simp at hZ3)))
          have hD2 : Drw zs v B G _ _ v2 := Drw.call (w := _) (by repeat (first | with_reducible assumption | (with_reducible apply Hid.out; assumption) | with_reducible apply Drw.drewN | with_reducible apply Drw.drew | with_reducible apply Drw.alloc | (with_reducible refine Drw.setp ?_ ?_ ?_ ?_; (first | omega | (simp <;> omega)); (first | omega | (simp <;> omega)); (first | omega | (simp <;> omega))))) hB hB2
          have hD3 : Drw zs v B G _ _ v3 := Drw.call (w := _) hD2 hB hB3
          have lG3 := hD3.lt
          have HD3 := Lib.hid hD3
          clear hD3 hD2 hB2 hB3 hD1 hD0 hR hVF
          generalize r.a = ra at *
          generalize r.b = rb at *
          generalize r.c = rc at *
          go_wp2
          have nG1 : ¬ v3.heap.size = G := by omega
          go_region_with (first
            | (go_at_call 118; refine (pick_d (by repeat (first | with_reducible assumption | (with_reducible apply Hid.out; assumption) | with_reducible apply Drw.drewN | with_reducible apply Drw.drew | with_reducible apply Drw.alloc | (with_reducible refine Drw.setp ?_ ?_ ?_ ?_; (first | omega | (simp <;> omega)); (first | omega | (simp <;> omega)); (first | omega | (simp <;> omega))))) hB 13 (by omega) (by omega)).mono ?_; rintro e v4 ⟨x4, rfl, hx4, hD4', hG4⟩; have hD4 := Lib.hid hD4'; have lG4 := hD4'.lt; have zG4 := hG4.size; (try simp at zG4)
               have hP4 : Blk v4 v3.heap.size 35 #[.int .i64 ra, .int .i64 rb, .int .i64 rc] := Blk.grown (by (repeat (first | with_reducible assumption | (with_reducible apply Blk.new_at; (first | rfl | (simp; done))) | with_reducible apply Blk.store3 | with_reducible apply Blk.store4 | (with_reducible apply Blk.farp; (first | omega | (simp <;> omega))) | with_reducible apply Blk.allocp | with_reducible apply Blk.drew | with_reducible apply Blk.drewN))) hG4 (by simp <;> omega); have cP4 := hP4.cell; have fP4 := hP4.frozen; have lP4 := hP4.lt; have mP4 := Nat.ne_of_gt lP4; have nP4 := Nat.ne_of_lt lP4
               have w4 : IntKind.i64.wrap (x4 - 6) = x4 - 6 := IntWalk.i64_in _ (by omega)
               clear hD4' hG4 hx4)
            | (go_at_call 111; refine (foValue_w _ _ _ _ _ _).mono ?_; rintro e v5 ⟨rfl, hB5⟩; have hZ5 := hB5.size; (try simp at hZ5)))
          all_goals
            have hD5 : Drw zs v B G _ _ v5 := Drw.call (w := _) (by repeat (first | with_reducible assumption | (with_reducible apply Hid.out; assumption) | with_reducible apply Drw.drewN | with_reducible apply Drw.drew | with_reducible apply Drw.alloc | (with_reducible refine Drw.setp ?_ ?_ ?_ ?_; (first | omega | (simp <;> omega)); (first | omega | (simp <;> omega)); (first | omega | (simp <;> omega))))) hB hB5
            have HD5 := Lib.hid hD5
            clear hD5 HD3 hB5
            generalize atW _ _ _ _ _ = V at *
            go_wp2_with fail
            refine (one_d (by repeat (first | with_reducible assumption | (with_reducible apply Hid.out; assumption) | with_reducible apply Drw.drewN | with_reducible apply Drw.drew | with_reducible apply Drw.alloc | (with_reducible refine Drw.setp ?_ ?_ ?_ ?_; (first | omega | (simp <;> omega)); (first | omega | (simp <;> omega)); (first | omega | (simp <;> omega))))) hB 4 (by omega) (by omega)).mono ?_
            rintro e v6 ⟨x6, rfl, hx6, hD6', hG6⟩
            have hD6 := Lib.hid hD6'
            have lG6 := hD6'.lt
            have zG6 := hG6.size
            (try simp at zG6)
            clear hD6' hG6
            cases x6 with
            | false =>
              go_wp2
              go_ret
              exact hfin.out _ _ _ (by repeat (first | with_reducible assumption | (with_reducible apply Hid.out; assumption) | with_reducible apply Drw.drewN | with_reducible apply Drw.drew | with_reducible apply Drw.alloc | (with_reducible refine Drw.setp ?_ ?_ ?_ ?_; (first | omega | (simp <;> omega)); (first | omega | (simp <;> omega)); (first | omega | (simp <;> omega))))) (by omega)
            | true =>
              go_wp2_with fail
              refine (among_d (w := v6) (by repeat (first | with_reducible assumption | (with_reducible apply Hid.out; assumption) | with_reducible apply Drw.drewN | with_reducible apply Drw.drew | with_reducible apply Drw.alloc | (with_reducible refine Drw.setp ?_ ?_ ?_ ?_; (first | omega | (simp <;> omega)); (first | omega | (simp <;> omega)); (first | omega | (simp <;> omega))))) hB [4, 9, 25, 2, 3] (fun _ => True) (by simp) (by decide) (by decide) (by omega)).mono ?_
              rintro e v7 ⟨x7, rfl, hx7, hD7', hG7⟩
              have hD7 := Lib.hid hD7'
              clear hD7' hG7
              go_wp2
              go_ret
              exact hfin.out _ _ _ (by repeat (first | with_reducible assumption | (with_reducible apply Hid.out; assumption) | with_reducible apply Drw.drewN | with_reducible apply Drw.drew | with_reducible apply Drw.alloc | (with_reducible refine Drw.setp ?_ ?_ ?_ ?_; (first | omega | (simp <;> omega)); (first | omega | (simp <;> omega)); (first | omega | (simp <;> omega))))) (by omega)
end
end Go.Proofs.Ytkpiiicefmkhcaa
