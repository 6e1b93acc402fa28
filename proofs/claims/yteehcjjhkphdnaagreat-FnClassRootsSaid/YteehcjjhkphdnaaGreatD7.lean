/- Contracts: drawn reduced, moved, definite, class forms. -/
import Derived.Test.YteehcjjhkphdnaaGreatD6
import Derived.Deep.DeepCutAuto
namespace Go.Proofs.YteehcjjhkphdnaaGreat
open Go.RowKit

theorem dsc_D7 {d : Int} (h : isDisc d = true) : Dsc d := by
  unfold isDisc at h
  simp only [Bool.and_eq_true, decide_eq_true_eq] at h
  exact ⟨h.1, h.2.1, h.2.2⟩
theorem grown_calm {G : Nat} {W v1 : World} (h : W.grownBy v1 (some G)) : (∀ b o, b < W.heap.size → ¬ b = G → v1.cell? ⟨b, o, none⟩ = W.cell? ⟨b, o, none⟩) ∧ (∀ b o, b < W.heap.size → ¬ b = G → v1.frozen? ⟨b, o, none⟩ = W.frozen? ⟨b, o, none⟩) := by
  have k : ∀ b, b < W.heap.size → ¬ b = G → v1.heap[b]? = W.heap[b]? := fun b hb hn => h.block b hb (fun e => hn (by injection e with e))
  refine ⟨fun b o hb hn => ?_, fun b o hb hn => ?_⟩
  · simp only [World.cell?, k b hb hn]
  · simp only [World.frozen?, k b hb hn]
section
variable {zs : List Int} {v : Value} {B G n m : Nat} {w0 w w1 w2 : World}
set_option maxHeartbeats 800000 in
theorem goodDisc_d (h : Drw zs v B G n w0 w) (hB : B ≤ G) (hn : n + 4 ≤ 100000000) :
    Calls Tryz.prog 204 #[.pointer (some ⟨G, 0, none⟩)] w fun e w' => ∃ x : Int, e = .returned (.int .i64 x) ∧ isDisc x = true ∧ Drw zs v B G (n + 4) w0 w' ∧ w.grownBy w' (some G) := by
  have H := Lib.hid h
  have lG0 := h.lt
  have hD0 := Lib.hid (Drw.start h.rd h.cur)
  clear h
  have hfin : Hid (∀ (x : Int) (w' : World), isDisc x = true → Drw zs v B G (n + 4) w w' → ∃ y : Int, Ending.returned (.int .i64 x) = .returned (.int .i64 y) ∧ isDisc y = true ∧ Drw zs v B G (n + 4) w0 w' ∧ w.grownBy w' (some G)) :=
    Lib.hid (fun x w' hx hd => ⟨x, rfl, hx, H.out.next hB hd.cur hd.gr, hd.gr⟩)
  go_enter Tryz.func204, Tryz.ntmps204
  go_wp2_with fail
  refine (disc_d (by repeat (first | with_reducible assumption | (with_reducible apply Hid.out; assumption) | with_reducible apply Drw.drewN | with_reducible apply Drw.drew | with_reducible apply Drw.alloc | (with_reducible refine Drw.setp ?_ ?_ ?_ ?_; (first | omega | (simp <;> omega)); (first | omega | (simp <;> omega)); (first | omega | (simp <;> omega))))) hB (by omega)).mono ?_
  rintro e v1 ⟨x1, rfl, hx1, hD1', hG1⟩
  have hD1 := Lib.hid hD1'
  have lG1 := hD1'.lt
  have zG1 := hG1.size
  (try simp at zG1)
  clear hD1' hG1
  have hRD := Lib.hid (fun w => reDisc_any x1 w)
  cases hc : isDisc x1 with
  | true =>
    rw [hc] at hRD
    have HC := Lib.hid hc
    clear hc hx1
    go_wp2_with (go_at_call 74; (with_reducible refine (hRD.out _).mono ?_); rintro e v ⟨rfl, rfl⟩)
    go_ret
    exact hfin.out _ _ HC.out (by repeat (first | with_reducible assumption | (with_reducible apply Hid.out; assumption) | with_reducible apply Drw.drewN | with_reducible apply Drw.drew | with_reducible apply Drw.alloc | (with_reducible refine Drw.setp ?_ ?_ ?_ ?_; (first | omega | (simp <;> omega)); (first | omega | (simp <;> omega)); (first | omega | (simp <;> omega)))))
  | false =>
    rw [hc] at hRD
    clear hc hx1
    go_wp2_with (go_at_call 74; (with_reducible refine (hRD.out _).mono ?_); rintro e v ⟨rfl, rfl⟩)
    go_ret
    exact hfin.out _ _ (by decide) (by repeat (first | with_reducible assumption | (with_reducible apply Hid.out; assumption) | with_reducible apply Drw.drewN | with_reducible apply Drw.drew | with_reducible apply Drw.alloc | (with_reducible refine Drw.setp ?_ ?_ ?_ ?_; (first | omega | (simp <;> omega)); (first | omega | (simp <;> omega)); (first | omega | (simp <;> omega)))))
set_option maxRecDepth 100000 in
set_option maxHeartbeats 1600000 in
theorem reduced_d (h : Drw zs v B G n w0 w) (hB : B ≤ G) (hn : n + 2 ≤ 100000000) (d : Int) (hd : isDisc d = true) :
    Calls Tryz.prog 185 #[.pointer (some ⟨G, 0, none⟩), .int .i64 d] w fun e w' => ∃ f : Fm, e = .returned (.agg #[.int .i64 f.a, .int .i64 f.b, .int .i64 f.c]) ∧ f ∈ clsL d ∧ Drw zs v B G (n + 2) w0 w' ∧ w.grownBy w' (some G) := by
  have D := dsc_D7 hd
  have H := Lib.hid h
  have lG0 := h.lt
  have hD0 := Lib.hid (Drw.start h.rd h.cur)
  clear h
  have hL0 : 1 ≤ (clsL d).length := List.length_pos_of_mem D.one
  have hL1 := clsL_len d
  have HG := Lib.hid (fun w => reList_any d w D.lo D.hi)
  have hfin : Hid (∀ (x y z : Int) (w' : World), ⟨x, y, z⟩ ∈ clsL d → Drw zs v B G (n + 2) w w' → ∃ f : Fm, Ending.returned (.agg #[.int .i64 x, .int .i64 y, .int .i64 z]) = .returned (.agg #[.int .i64 f.a, .int .i64 f.b, .int .i64 f.c]) ∧ f ∈ clsL d ∧ Drw zs v B G (n + 2) w0 w' ∧ w.grownBy w' (some G)) :=
    Lib.hid (fun x y z w' hx hd => ⟨⟨x, y, z⟩, rfl, hx, H.out.next hB hd.cur hd.gr, hd.gr⟩)
  generalize clsL d = L at *
  clear D hd
  go_enter Tryz.func185, Tryz.ntmps185
  go_wp2_with fail
  refine (HG.out _).mono ?_
  rintro e v1 ⟨vl, rfl, ho1, hb1⟩
  obtain ⟨base, cap, rfl⟩ := own_shape ho1
  have hz1 := hb1.size
  (try simp at hz1)
  have hD1 := Lib.hid ((Drw.alloc hD0.out _).call hB hb1)
  have hA1 : Blk v1 w.heap.size 36 #[.int .i64 0, .int .i64 0, .int .i64 0] := Blk.call (by (repeat (first | with_reducible assumption | (with_reducible apply Blk.new_at; (first | rfl | (simp; done))) | with_reducible apply Blk.store3 | with_reducible apply Blk.store4 | (with_reducible apply Blk.farp; (first | omega | (simp <;> omega))) | with_reducible apply Blk.allocp | with_reducible apply Blk.drew | with_reducible apply Blk.drewN))) hb1
  have lG1 := hD1.out.lt
  have HO1 := Lib.hid ho1
  have h64 : wrap64 (L.length : Int) = L.length := IntWalk.wrap64_in _ (by omega)
  clear ho1 hb1
  go_wp2_with fail
  refine (pick_d (w0 := w) (Hid.out hD1) hB L.length (by omega) (by omega)).mono ?_
  rintro e v2 ⟨x2, rfl, hx2, hD2', hG2⟩
  have hD2 := Lib.hid hD2'
  have hA2 := hA1.grown hG2 (by simp; omega)
  have ho2 := own_drw HO1.out (by simp; omega) hG2
  have hz2 := hG2.size
  obtain ⟨k, rfl⟩ : ∃ k : Nat, x2 = k := ⟨x2.toNat, by omega⟩
  have hk : k < L.length := by omega
  obtain ⟨g, rfl, lg, c1, c2, c3⟩ := own_elem ho2 hk
  have hm := List.getElem_mem hk
  have Hm := Lib.hid (show (⟨L[k].a, L[k].b, L[k].c⟩ : Fm) ∈ L from hm)
  generalize L[k].a = x at c1 Hm
  generalize L[k].b = y at c2 Hm
  generalize L[k].c = z at c3 Hm
  have cA2 := hA2.cell; have fA2 := hA2.frozen; have lA2 := hA2.lt
  clear hD2' hG2 ho2 HO1 hm
  go_wp2
  exact bodyPost_ret (v := .agg #[.int .i64 x, .int .i64 y, .int .i64 z]) (by simp [results, Tryz.results185, go_sem, *]) rfl (hfin.out _ _ _ _ Hm.out (by have hd := hD2.out; clear hD1 hD0 hD2; exact (by repeat (first | with_reducible assumption | (with_reducible apply Hid.out; assumption) | with_reducible apply Drw.drewN | with_reducible apply Drw.drew | with_reducible apply Drw.alloc | (with_reducible refine Drw.setp ?_ ?_ ?_ ?_; (first | omega | (simp <;> omega)); (first | omega | (simp <;> omega)); (first | omega | (simp <;> omega)))))))
set_option maxRecDepth 100000 in
set_option maxHeartbeats 1600000 in
theorem moved_d (h : Drw zs v B G n w0 w) (hB : B ≤ G) (hn : n + 22 ≤ 100000000) (f : Fm) :
    Calls Tryz.prog 150 #[.pointer (some ⟨G, 0, none⟩), .agg #[.int .i64 f.a, .int .i64 f.b, .int .i64 f.c]] w fun e w' => ∃ f : Fm, e = .returned (.agg #[.int .i64 f.a, .int .i64 f.b, .int .i64 f.c]) ∧ True ∧ Drw zs v B G (n + 22) w0 w' ∧ w.grownBy w' (some G) := by
  have H := Lib.hid h
  have lG0 := h.lt
  have hD0 := Lib.hid (Drw.start h.rd h.cur)
  clear h
  have hfin : Hid (∀ (x y z : Int) (w' : World), Drw zs v B G (n + 22) w w' → ∃ f : Fm, Ending.returned (.agg #[.int .i64 x, .int .i64 y, .int .i64 z]) = .returned (.agg #[.int .i64 f.a, .int .i64 f.b, .int .i64 f.c]) ∧ True ∧ Drw zs v B G (n + 22) w0 w' ∧ w.grownBy w' (some G)) :=
    Lib.hid (fun x y z w' hd => ⟨⟨x, y, z⟩, rfl, trivial, H.out.next hB hd.cur hd.gr, hd.gr⟩)
  go_enter Tryz.func150, Tryz.ntmps150
  go_wp2
  have nG1 : ¬ w.heap.size = G := by omega
  have nG2 : ¬ w.heap.size + 1 = G := by omega
  have nG3 : ¬ w.heap.size + 1 + 1 = G := by omega
  have p1 : w.heap.size < w.heap.size + 1 + 1 := by omega
  have p2 : w.heap.size < w.heap.size + 1 + 1 + 1 := by omega
  have p3 : w.heap.size + 1 < w.heap.size + 1 + 1 + 1 := by omega
  go_region_with (first
    | (go_at_call 206; refine (proper_d (by repeat (first | with_reducible assumption | (with_reducible apply Hid.out; assumption) | with_reducible apply Drw.drewN | with_reducible apply Drw.drew | with_reducible apply Drw.alloc | (with_reducible refine Drw.setp ?_ ?_ ?_ ?_; (first | omega | (simp <;> omega)); (first | omega | (simp <;> omega)); (first | omega | (simp <;> omega))))) hB (by omega)).mono ?_; rintro e v1 ⟨x1, rfl, hx1, hD1', hG1⟩; have hD1 := Lib.hid hD1'; have zG1 := hG1.size; (try simp at zG1); have lG1 := hD1'.lt
       have hcc := (grown_calm hG1).1; have hff := (grown_calm hG1).2
       have cA1 := fun o => hcc w.heap.size o; have fA1 := fun o => hff w.heap.size o; have cR1 := fun o => hcc (w.heap.size + 1) o; have fR1 := fun o => hff (w.heap.size + 1) o
       have cP1 := fun o => hcc (w.heap.size + 1 + 1) o; have fP1 := fun o => hff (w.heap.size + 1 + 1) o
       (try simp [nG1, p1, p2] at cA1); (try simp [nG1, p1, p2] at fA1); (try simp [nG2, p3] at cR1); (try simp [nG2, p3] at fR1); (try simp [nG3] at cP1); (try simp [nG3] at fP1)
       have q0 : w.heap.size < v1.heap.size := by omega
       have q1 : w.heap.size + 1 < v1.heap.size := by omega
       (try have q2 : w.heap.size + 1 + 1 < v1.heap.size := by omega)
       have q3 : w.heap.size < v1.heap.size + 1 := by omega
       have q4 : w.heap.size + 1 < v1.heap.size + 1 := by omega
       have q5 : ¬ w.heap.size = v1.heap.size := by omega
       have q6 : ¬ w.heap.size + 1 = v1.heap.size := by omega
       have q7 : ¬ v1.heap.size = w.heap.size := by omega
       have q8 : ¬ v1.heap.size = w.heap.size + 1 := by omega
       clear hD1' hG1 hcc hff)
    | (go_at_call 205; refine (foAct_w _ _ _ _ _ _ _ _).mono ?_; rintro e v2 ⟨rfl, hB2⟩; have zB2 := hB2.size; (try simp at zB2)
       have hcc := (calm_cells hB2).1; have hff := (calm_cells hB2).2
       have cA2 := fun o => hcc w.heap.size o; have fA2 := fun o => hff w.heap.size o; have cR2 := fun o => hcc (w.heap.size + 1) o; have fR2 := fun o => hff (w.heap.size + 1) o
       have cP2 := fun o => hcc (w.heap.size + 1 + 1) o; have fP2 := fun o => hff (w.heap.size + 1 + 1) o
       have cQ2 := fun o => hcc v1.heap.size o; have fQ2 := fun o => hff v1.heap.size o
       (try simp [q0, q3, cA1] at cA2); (try simp [q0, q3, fA1] at fA2); (try simp [q1, q4, cR1] at cR2); (try simp [q1, q4, fR1] at fR2); (try simp [q2, cP1] at cP2); (try simp [q2, fP1] at fP2); (try simp at cQ2); (try simp at fQ2)
       have r5 : ¬ w.heap.size = v2.heap.size := by omega
       have r6 : ¬ w.heap.size + 1 = v2.heap.size := by omega
       have r7 : ¬ v2.heap.size = w.heap.size := by omega
       have r8 : ¬ v2.heap.size = w.heap.size + 1 := by omega
       have hD2 := Lib.hid (Drw.call (by repeat (first | with_reducible assumption | (with_reducible apply Hid.out; assumption) | with_reducible apply Drw.drewN | with_reducible apply Drw.drew | with_reducible apply Drw.alloc | (with_reducible refine Drw.setp ?_ ?_ ?_ ?_; (first | omega | (simp <;> omega)); (first | omega | (simp <;> omega)); (first | omega | (simp <;> omega))))) hB hB2)
       (try have s2 : w.heap.size + 1 + 1 < v2.heap.size := by omega)
       (try have s3 : v1.heap.size < v2.heap.size := by omega)
       have s0 : w.heap.size < v2.heap.size := by omega
       have s1 : w.heap.size + 1 < v2.heap.size := by omega
       have s4 : w.heap.size < v2.heap.size + 1 := by omega
       have s5 : w.heap.size + 1 < v2.heap.size + 1 := by omega
       clear hcc hff))
  all_goals
    clear hD1 hD0
    generalize atW f.a f.b f.c x1.fst x1.snd.snd.fst = X at *
    generalize polW f.a f.b f.c x1.fst x1.snd.snd.fst x1.snd.fst x1.snd.snd.snd = Y at *
    generalize atW f.a f.b f.c x1.snd.fst x1.snd.snd.snd = Z at *
    have hGd := Lib.hid (fun w => foGood_any X Y Z w)
    generalize isFm X Y Z = b at hGd
    cases b
    · go_wp2_with (go_at_call 207; refine (hGd.out _).mono ?_; rintro e v3 ⟨rfl, hB3⟩; have hcc := (calm_cells hB3).1; have hff := (calm_cells hB3).2)
      exact bodyPost_ret (v := .agg #[.int .i64 f.a, .int .i64 f.b, .int .i64 f.c]) (by simp [results, Tryz.results150, go_sem, *]) rfl (hfin.out _ _ _ _ (by have hd : Drw zs v B G (n + 22) w v3 := Drw.call (w := _) (by repeat (first | with_reducible assumption | (with_reducible apply Hid.out; assumption) | with_reducible apply Drw.drewN | with_reducible apply Drw.drew | with_reducible apply Drw.alloc | (with_reducible refine Drw.setp ?_ ?_ ?_ ?_; (first | omega | (simp <;> omega)); (first | omega | (simp <;> omega)); (first | omega | (simp <;> omega))))) hB hB3; clear hD2; exact (by repeat (first | with_reducible assumption | (with_reducible apply Hid.out; assumption) | with_reducible apply Drw.drewN | with_reducible apply Drw.drew | with_reducible apply Drw.alloc | (with_reducible refine Drw.setp ?_ ?_ ?_ ?_; (first | omega | (simp <;> omega)); (first | omega | (simp <;> omega)); (first | omega | (simp <;> omega)))))))
    · go_wp2_with (go_at_call 207; refine (hGd.out _).mono ?_; rintro e v3 ⟨rfl, hB3⟩; have hcc := (calm_cells hB3).1; have hff := (calm_cells hB3).2)
      exact bodyPost_ret (v := .agg #[.int .i64 X, .int .i64 Y, .int .i64 Z]) (by simp [results, Tryz.results150, go_sem, *]) rfl (hfin.out _ _ _ _ (by have hd : Drw zs v B G (n + 22) w v3 := Drw.call (w := _) (by repeat (first | with_reducible assumption | (with_reducible apply Hid.out; assumption) | with_reducible apply Drw.drewN | with_reducible apply Drw.drew | with_reducible apply Drw.alloc | (with_reducible refine Drw.setp ?_ ?_ ?_ ?_; (first | omega | (simp <;> omega)); (first | omega | (simp <;> omega)); (first | omega | (simp <;> omega))))) hB hB3; clear hD2; exact (by repeat (first | with_reducible assumption | (with_reducible apply Hid.out; assumption) | with_reducible apply Drw.drewN | with_reducible apply Drw.drew | with_reducible apply Drw.alloc | (with_reducible refine Drw.setp ?_ ?_ ?_ ?_; (first | omega | (simp <;> omega)); (first | omega | (simp <;> omega)); (first | omega | (simp <;> omega)))))))
end
end Go.Proofs.YteehcjjhkphdnaaGreat
