/- Words: a slice of forms that came in, as a row opens it; contracts: equality and marks of a long list of forms. -/
import Derived.Test.YtononfokhdmofaaA3
import Derived.Test.YtononfokhdmofaaA2
import Derived.Lib.SmallJoins
namespace Go.Proofs.Ytononfokhdmofaa
open Go.RowKit Go.ChangeShapes

theorem cells_A4 : Try.prog.cellsOf 23 = 3 := by kernel_rfl
set_option maxRecDepth 100000 in
theorem open_rdF {H : Type} {enc : TypeId × Value → H} {w : World} {v : Value} {d : DataW H} {ps : List MemPlace} {r : Reach} {b0 : Nat} (hval : Value.okWide Try.prog w r b0 40 v) (h : DataW.Trod enc Try.prog w 0 (fun _ => true) true 40 v d ps) :
    ∃ zs : List Fm, RdF zs v w ∧ zs.length ≤ maxLen := by
  obtain ⟨A0, l0, c0, rfl⟩ := Go.WideShapes.okWide_slice Try.underlying40 hval
  obtain ⟨fuel, hf⟩ := h
  rcases Go.Deep.open_slice Try.underlying40 hf with ⟨hc, _⟩ | ⟨a, len, cap, m, n, D, Pl, hc, _, hl, hm, hmm, _, hx⟩
  · simp [Value.cells] at hc
    obtain ⟨rfl, rfl, rfl⟩ := hc
    exact ⟨[], ⟨none, 0, rfl, fun i h => absurd h (Nat.not_lt_zero _)⟩, Nat.zero_le _⟩
  · simp [Value.cells] at hc
    obtain ⟨rfl, rfl, rfl⟩ := hc
    have hlm : l0 ≤ m := by rw [hmm]; split <;> omega
    have each : ∀ i, i < l0 → ∃ f : Int × Int × Int, w.cell? (a.add (i * 3)) = some (.int .i64 f.1) ∧ w.cell? ⟨(a.add (i * 3)).block, (a.add (i * 3)).off + 1, none⟩ = some (.int .i64 f.2.1) ∧ w.cell? ⟨(a.add (i * 3)).block, (a.add (i * 3)).off + 2, none⟩ = some (.int .i64 f.2.2) := by
      intro i hi
      obtain ⟨cs, h1, h2⟩ := hx i (by omega)
      rw [cells_A4] at h1
      obtain ⟨_, hlen, hcell⟩ := World.cells?_some h1
      obtain ⟨y0, y1, y2, n2, _, _, t0, t1, t2⟩ := Go.Deep.trod_struct3 Try.underlying23 h2
      obtain ⟨z0, e0, _, _⟩ := DataW.trod_int Try.underlying3 t0
      obtain ⟨z1, e1, _, _⟩ := DataW.trod_int Try.underlying3 t1
      obtain ⟨z2, e2, _, _⟩ := DataW.trod_int Try.underlying3 t2
      generalize a.add (i * 3) = x at hcell
      match cs, hlen with
      | [u0, u1, u2], _ =>
        simp [cells_A2] at e0 e1 e2
        subst e0; subst e1; subst e2
        exact ⟨(z0, z1, z2), by simpa [Addr.add] using hcell 0 (by omega), by simpa [Addr.add] using hcell 1 (by omega), by simpa [Addr.add] using hcell 2 (by omega)⟩
    obtain ⟨F, hF⟩ := Go.Deep.choose_lt each
    refine ⟨(List.range l0).map fun i => ⟨(F i).1, (F i).2.1, (F i).2.2⟩, ⟨some a, c0, by simp, fun i hi => ⟨a, rfl, ?_⟩⟩, by simp; omega⟩
    simp at hi
    simpa using hF i hi

set_option maxRecDepth 100000 in
set_option maxHeartbeats 1600000 in
theorem eqFormS_same1 (v u : Value) (B B2 : Nat) (L : List Fm) (w : World) (hl : L.length ≤ 2000000) (h1 : w.ownsRow B 26 3 v L.length (cellsF L)) (h2 : w.ownsRow B2 26 3 u L.length (cellsF L)) :
    Calls Try.prog 20 #[v, u] w fun e w' => e = .returned (.bool true) ∧ Below w.heap.size w w' := by
  obtain ⟨b1, c1, rfl⟩ := own_shape h1
  obtain ⟨b2, c2, rfl⟩ := own_shape h2
  have H1 := Lib.hid h1
  have H2 := Lib.hid h2
  clear h1 h2
  go_enter Try.func20, Try.ntmps20
  go_wp2
  go_loopw [5] (fun i wr => ∃ k : Nat, i = .int .i64 k ∧ k ≤ L.length ∧ Below w.heap.size w wr) (fun i _ => L.length - (intOf i).toNat)
  case atStart => exact ⟨0, rfl, Nat.zero_le _, (by repeat (first | with_reducible exact Below.refl _ _ | with_reducible assumption | with_reducible apply Below.drew | with_reducible apply below_drewN | (with_reducible apply below_setp; (first | omega | (simp <;> omega))) | (with_reducible apply below_allocp; (first | omega | (simp <;> omega))) | (with_reducible refine below_viap (by assumption) ?_ ?_; (first | omega | (simp <;> omega)))))⟩
  case round =>
    obtain ⟨k, rfl, hk, hbel⟩ := hrel
    by_cases hlt : k < L.length
    · obtain ⟨g1, rfl, hg1, d1, d2, d3⟩ := own_elem H1.out hlt
      obtain ⟨g2, rfl, hg2, e1, e2, e3⟩ := own_elem H2.out hlt
      have d4 := (hbel.cell (p := ⟨g1, k * 3, none⟩) hg1).trans d1
      have d5 := (hbel.cell (p := ⟨g1, k * 3 + 1, none⟩) hg1).trans d2
      have d6 := (hbel.cell (p := ⟨g1, k * 3 + 2, none⟩) hg1).trans d3
      have e4 := (hbel.cell (p := ⟨g2, k * 3, none⟩) hg2).trans e1
      have e5 := (hbel.cell (p := ⟨g2, k * 3 + 1, none⟩) hg2).trans e2
      have e6 := (hbel.cell (p := ⟨g2, k * 3 + 2, none⟩) hg2).trans e3
      clear d1 d2 d3 e1 e2 e3
      generalize L[k].a = r at d4 e4
      generalize L[k].b = s at d5 e5
      generalize L[k].c = t at d6 e6
      have hz := hbel.size
      have hg3 : g1 < wr.heap.size := by omega
      have hg4 : g2 < wr.heap.size := by omega
      go_wp2
      refine wp_region_calm 10 (Below (wr.heap.size) _) (by kernel_rfl) (by kernel_rfl) ((Below.refl _ _).drew) ?_
      simp only [List.take_succ_cons, List.take_zero, List.drop_succ_cons, List.drop_zero]
      repeat (first | (apply wpCalm_go; go_simp; (intro w' hw' hcc hff; go_simp; first | exact rfl | (refine (eqForm_same r s t _).mono ?_; rintro e w1 ⟨rfl, hb⟩; exact ⟨rfl, calm_call (Nat.le_refl _) hw' hb⟩)); (intro K hK; go_simp; refine hK _ ?_; clear hK K)) | (apply wpCalm_skip; go_simp; (intro K hK; go_simp; refine hK _ ?_; clear hK K)))
      refine wpCalm_nil ?_
      intro w1 hw1
      have hcc := (calm_cells hw1).1
      have hff := (calm_cells hw1).2
      have hss := calm_size hw1
      have hsz := hw1.size
      (try simp at hsz)
      go_wp2
      exact ⟨⟨k + 1, rfl, hlt, below_via hbel hw1 hz⟩, by simp [intOf]; omega⟩
    · go_wp2
      go_ret
      exact ⟨rfl, hbel⟩

set_option maxRecDepth 100000 in
set_option maxHeartbeats 1600000 in
theorem markFormS_any1 (v : Value) (B n : Nat) (xs : List Value) (w : World) (hl : n ≤ 2000000) (h : w.ownsRow B 26 3 v n xs) :
    Calls Try.prog 21 #[v, .int .i64 1] w fun e w' => e = .returned (.int .i64 (1 + 3 * n)) ∧ MarkF B 1 n v w' ∧ w.grownBy w' v.ownBlock := by
  rcases h.2 with ⟨rfl, rfl⟩ | ⟨g, cap, cur0, rfl, hbg, hg, hnc, hcm, hcs, htake⟩
  · clear h
    go_enter Try.func21, Try.ntmps21
    go_wp2
    refine wp_loop_rounds 1 ?_
    rw [rounds_succ]
    go_wp2
    go_ret
    exact ⟨rfl, .inl ⟨rfl, rfl⟩, ⟨rfl, rfl, rfl, Nat.le_refl _, fun _ _ _ => rfl⟩⟩
  · have hblk : Blk w g 26 cur0 := hg
    have hs0 : n * 3 ≤ cur0.size := by rw [hcs]; omega
    clear h hg hcs htake
    go_enter Try.func21, Try.ntmps21
    go_wp2
    go_loopw [1, 5] (fun m i wr => ∃ k : Nat, i = .int .i64 k ∧ k ≤ n ∧ m = .int .i64 (1 + 3 * k) ∧ ∃ cur, Hid (Blk wr g 26 cur) ∧ Hid (n * 3 ≤ cur.size) ∧ Hid (Mark3 1 k cur) ∧ Hid (w.grownBy wr (some g))) (fun _ i _ => n - (intOf i).toNat)
    case atStart => exact ⟨0, rfl, Nat.zero_le _, by simp, cur0, Lib.hid hblk, Lib.hid hs0, Lib.hid (fun j hj => absurd hj (Nat.not_lt_zero _)), Lib.hid ⟨rfl, rfl, rfl, Nat.le_refl _, fun _ _ _ => rfl⟩⟩
    case round =>
      clear hblk hs0
      obtain ⟨k, rfl, hk, rfl, cur, hbk, hsz, hmk, hgr⟩ := hrel
      by_cases hlt : k < n
      · obtain ⟨x0, c0⟩ : ∃ x, wr.cell? ⟨g, k * 3, none⟩ = some x := ⟨_, (hbk.out.cell _).trans (Array.getElem?_eq_getElem (by have := hsz.out; omega))⟩
        obtain ⟨x1, c1⟩ : ∃ x, wr.cell? ⟨g, k * 3 + 1, none⟩ = some x := ⟨_, (hbk.out.cell _).trans (Array.getElem?_eq_getElem (by have := hsz.out; omega))⟩
        obtain ⟨x2, c2⟩ : ∃ x, wr.cell? ⟨g, k * 3 + 2, none⟩ = some x := ⟨_, (hbk.out.cell _).trans (Array.getElem?_eq_getElem (by have := hsz.out; omega))⟩
        have f0 := hbk.out.frozen (k * 3)
        have f1 := hbk.out.frozen (k * 3 + 1)
        have f2 := hbk.out.frozen (k * 3 + 2)
        go_wp2
        exact ⟨⟨k + 1, rfl, hlt, by congr 1 <;> omega, _, Lib.hid (((hbk.out.set_ _ _).set_ _ _).set_ _ _), Lib.hid (by simp; exact hsz.out), Lib.hid (hmk.out.next (by have := hsz.out; omega)), Lib.hid (((hgr.out.trans (grown_set3 _ _ _)).trans (grown_set3 _ _ _)).trans (grown_set3 _ _ _))⟩, by simp [intOf]; omega⟩
      · have e : k = n := by omega
        subst e
        go_wp2
        go_ret
        exact ⟨rfl, .inr ⟨g, cap, cur, rfl, hbg, hbk.out, hmk.out⟩, hgr.out⟩
end Go.Proofs.Ytononfokhdmofaa
