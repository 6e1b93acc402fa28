/- Contracts: the composite of powers of some classes, of both sides. -/
import Derived.Test.YteehcjjhkphdnaaGreatPF
namespace Go.Proofs.YteehcjjhkphdnaaGreat
open Go.RowKit

/-- The composite of the first k powers. -/
noncomputable def relK (d : Int) (K : List Fm) (E : List Int) : Nat → Fm
  | 0 => oneF d
  | k + 1 => cmp d (relK d K E k) (pwZ d (K.getD k ⟨0, 0, 0⟩) (E.getD k 0))
theorem relK_mem {d : Int} (D : Dsc d) {K : List Fm} (hK : ∀ f ∈ K, f ∈ clsL d) (E : List Int) : ∀ k, k ≤ K.length → relK d K E k ∈ clsL d
  | 0, _ => D.one
  | k + 1, h => D.cmpm (relK_mem D hK E k (by omega)) (pwZ_mem D (hK _ (by rw [List.getD_eq_getElem?_getD, List.getElem?_eq_getElem (show k < K.length by omega)]; exact List.getElem_mem _)) _)
/-- What the forms of primes are. -/
def GoodP (d : Int) (L : List Fm) : Prop := ∀ f ∈ L, CF d f (red f) ∧ Int.gcd f.a (Int.gcd f.b f.c) = 1
theorem pfL_good {d : Int} : ∀ (Z : List Int) (L : List Fm), pfL d Z = some L → GoodP d L
  | [], L, h => by
    simp only [pfL, Option.some.injEq] at h
    subst h
    intro f hf; simp at hf
  | z :: Z, L, h => by
    rw [pfL] at h
    cases hz : prF d z with
    | none => rw [hz] at h; simp at h
    | some f =>
      rw [hz, Option.bind_some] at h
      cases hZ : pfL d Z with
      | none => rw [hZ] at h; simp at h
      | some K =>
        rw [hZ, Option.map_some] at h
        injection h with h
        subst h
        intro g hg
        rcases List.mem_cons.1 hg with rfl | hg
        · refine ⟨prF_cf hz, ?_⟩
          unfold prF at hz
          split at hz
          · rw [Option.filter_eq_some_iff] at hz
            exact of_decide_eq_true hz.2
          · cases hz
        · exact pfL_good Z K hZ g hg
def RcSt (d : Int) (K : List Fm) (E : List Int) (P : Nat) (w : World) (vi : Value) (wr : World) : Prop :=
  ∃ (k : Nat) (p : Fm), vi = .int .i64 k ∧ k ≤ K.length ∧ Hid (relK d K E k = p) ∧ Blk wr w.heap.size 36 #[.int .i64 0, .int .i64 0, .int .i64 0] ∧ Blk wr P 36 #[.int .i64 p.a, .int .i64 p.b, .int .i64 p.c] ∧ w.heap.size < P ∧ Below w.heap.size w wr

set_option maxRecDepth 100000 in
set_option maxHeartbeats 3200000 in
theorem relationClass_any (d : Int) (L : List Fm) (E : List Int) (v ve : Value) (B B2 : Nat) (w : World) (D : Dsc d) (hl : L.length ≤ 6) (hE : L.length ≤ E.length) (hEb : ∀ e ∈ E, -1000 ≤ e ∧ e ≤ 100000) (hg : GoodP d L)
    (ho : w.ownsRow B 36 3 v L.length (cellsF L)) (hoE : w.ownsRow B2 3 1 ve E.length (cellsI E)) :
    Calls Tryz.prog 88 #[.int .i64 d, v, ve] w fun e w' => e = .returned (.agg #[.int .i64 (relK d (L.map red) E L.length).a, .int .i64 (relK d (L.map red) E L.length).b, .int .i64 (relK d (L.map red) E L.length).c]) ∧ Below w.heap.size w w' := by
  obtain ⟨bl, cl, rfl⟩ := own_shape ho
  obtain ⟨be, ce, rfl⟩ := own_shape hoE
  have HO := Lib.hid ho
  have HE := Lib.hid hoE
  obtain ⟨o, ho1⟩ : ∃ o, oneF d = o := ⟨_, rfl⟩
  have hKm : ∀ f ∈ (L.map red), f ∈ clsL d := fun f hf => by obtain ⟨g, hg2, rfl⟩ := List.mem_map.1 hf; exact (hg g hg2).1.mem
  have hKl : ((L.map red)).length = L.length := by simp
  have hmem := Lib.hid (fun k hk => relK_mem D hKm E k hk)
  have hst : Hid (relK d (L.map red) E 0 = o) := Lib.hid ho1
  have hPn := Lib.hid (fun w => principalForm_any d o w D ho1)
  have hRo := Lib.hid (fun w => reduced_cf d o o w (ho1 ▸ CF.one D))
  have hStep := Lib.hid (fun k (hk : k < L.length) (hk2 : k < E.length) => (show ∃ r p2 : Fm, (∀ w, Calls Tryz.prog 131 #[.agg #[.int .i64 L[k].a, .int .i64 L[k].b, .int .i64 L[k].c], .int .i64 E[k]] w fun ee w' => ee = .returned (.agg #[.int .i64 r.a, .int .i64 r.b, .int .i64 r.c]) ∧ Below w.heap.size w w') ∧
      (∀ p w, relK d (L.map red) E k = p → Calls Tryz.prog 110 #[.agg #[.int .i64 p.a, .int .i64 p.b, .int .i64 p.c], .agg #[.int .i64 r.a, .int .i64 r.b, .int .i64 r.c]] w fun ee w' => ee = .returned (.agg #[.int .i64 p2.a, .int .i64 p2.b, .int .i64 p2.c]) ∧ Below w.heap.size w w') ∧ relK d (L.map red) E (k + 1) = p2 from by
    have hx : L[k] ∈ L := List.getElem_mem hk
    have eK : ((L.map red)).getD k ⟨0, 0, 0⟩ = (red L[k]) := by simp [List.getD_eq_getElem?_getD, hk]
    have eE : E.getD k 0 = E[k] := by simp [List.getD_eq_getElem?_getD, hk2]
    obtain ⟨e1, e2⟩ := hEb _ (List.getElem_mem hk2)
    have hr : pwZ d (red L[k]) E[k] ∈ clsL d := pwZ_mem D ((hg _ hx).1.mem) _
    refine ⟨pwZ d (red L[k]) E[k], relK d (L.map red) E (k + 1), fun w => powerForm_z d L[k] (red L[k]) _ _ w (hg _ hx).1 (hg _ hx).2 (by have := (hg _ hx).1.df.bB; unfold M0 at this; exact ⟨by omega, by omega⟩) e1 e2 rfl, fun p w hp => ?_, rfl⟩
    have hpm : p ∈ clsL d := hp ▸ relK_mem D hKm E k (by rw [hKl]; omega)
    refine compose_cf d p _ p _ _ w (CF.of_mem D hpm) (CF.of_mem D hr) ?_
    rw [relK, eK, eE, hp]))
  clear ho hoE hg ho1 hKm hEb
  obtain ⟨K, hKK⟩ : ∃ K, (L.map red) = K := ⟨_, rfl⟩
  simp only [hKK] at *
  clear hKK
  obtain ⟨rr, hrr⟩ : ∃ rr, relK d K E L.length = rr := ⟨_, rfl⟩
  rw [hrr]
  have Hrr := Lib.hid hrr
  clear hrr D
  go_enter Tryz.func88, Tryz.ntmps88
  go_wp2_with (first | (go_at_call 79; (with_reducible refine (hPn.out _).mono ?_); rintro e v1 ⟨rfl, hB1⟩; have hZ1 := hB1.size; (try simp at hZ1); (try have zl1 : w.heap.size < v1.heap.size := by omega); (try have ze1 : w.heap.size ≤ v1.heap.size := by omega); (try have zn1 : ¬ w.heap.size = v1.heap.size := by omega); (try have zm1 : ¬ v1.heap.size = w.heap.size := by omega); have hR1 : Blk v1 (w.heap.size) 36 #[.int .i64 0, .int .i64 0, .int .i64 0] := Blk.call (by (repeat (first | with_reducible assumption | (with_reducible apply Blk.new_at; (first | rfl | (simp; done))) | with_reducible apply Blk.store3 | with_reducible apply Blk.store4 | (with_reducible apply Blk.farp; (first | omega | (simp <;> omega))) | with_reducible apply Blk.allocp | with_reducible apply Blk.drew | with_reducible apply Blk.drewN))) hB1; have cR1 := hR1.cell; have fR1 := hR1.frozen; have lR1 := hR1.lt; have mR1 := Nat.ne_of_gt lR1; have nR1 := Nat.ne_of_lt lR1) | (go_at_call 94; (with_reducible refine (hRo.out _).mono ?_); rintro e v2 ⟨rfl, hB2⟩; have hZ2 := hB2.size; (try simp at hZ2); (try have zl2 : w.heap.size < v2.heap.size := by omega); (try have ze2 : w.heap.size ≤ v2.heap.size := by omega); (try have zn2 : ¬ w.heap.size = v2.heap.size := by omega); (try have zm2 : ¬ v2.heap.size = w.heap.size := by omega); have hR2 : Blk v2 (w.heap.size) 36 #[.int .i64 0, .int .i64 0, .int .i64 0] := Blk.call (by (repeat (first | with_reducible assumption | (with_reducible apply Blk.new_at; (first | rfl | (simp; done))) | with_reducible apply Blk.store3 | with_reducible apply Blk.store4 | (with_reducible apply Blk.farp; (first | omega | (simp <;> omega))) | with_reducible apply Blk.allocp | with_reducible apply Blk.drew | with_reducible apply Blk.drewN))) hB2; have cR2 := hR2.cell; have fR2 := hR2.frozen; have lR2 := hR2.lt; have mR2 := Nat.ne_of_gt lR2; have nR2 := Nat.ne_of_lt lR2))
  go_loopw [15] (fun vi wr => RcSt d K E v2.heap.size w vi wr) (fun vi _ => L.length - (intOf vi).toNat)
  case atStart => exact ⟨0, o, rfl, Nat.zero_le _, hst, by (repeat (first | with_reducible assumption | (with_reducible apply Blk.new_at; (first | rfl | (simp; done))) | with_reducible apply Blk.store3 | with_reducible apply Blk.store4 | (with_reducible apply Blk.farp; (first | omega | (simp <;> omega))) | with_reducible apply Blk.allocp | with_reducible apply Blk.drew | with_reducible apply Blk.drewN)), by (repeat (first | with_reducible assumption | (with_reducible apply Blk.new_at; (first | rfl | (simp; done))) | with_reducible apply Blk.store3 | with_reducible apply Blk.store4 | (with_reducible apply Blk.farp; (first | omega | (simp <;> omega))) | with_reducible apply Blk.allocp | with_reducible apply Blk.drew | with_reducible apply Blk.drewN)), by omega, (by repeat (first | with_reducible exact Below.refl _ _ | with_reducible assumption | with_reducible apply Below.drew | with_reducible apply below_drewN | (with_reducible apply below_setp; (first | omega | (simp <;> omega))) | (with_reducible apply below_allocp; (first | omega | (simp <;> omega))) | (with_reducible refine below_viap (by assumption) ?_ ?_; (first | omega | (simp <;> omega)))))⟩
  case round =>
    clear hst
    obtain ⟨k, p, rfl, hk, hs, hR, hP, hlt0, hbel⟩ := hrel
    have hz := hbel.size
    have cR := hR.cell; have fR := hR.frozen; have lR := hR.lt
    have cP := hP.cell; have fP := hP.frozen; have lP := hP.lt
    by_cases hlt : k < L.length
    · obtain ⟨gl, rfl, ll, d1, d2, d3⟩ := own_elem (own_call hbel HO.out) hlt
      obtain ⟨ge, rfl, le, e1⟩ := own_elemI (own_call hbel HE.out) (k := k) (by omega)
      obtain ⟨r, p2, h1, h2, h3⟩ := hStep.out k hlt (by omega)
      have hPw := Lib.hid h1
      have hMu := Lib.hid (fun w => h2 p w hs.out)
      have Hn := Lib.hid h3
      generalize E[k]'(by omega) = ex at e1 hPw
      generalize L[k] = f at d1 d2 d3 hPw
      have y1 : ¬ ge = wr.heap.size := by omega
      have y2 : ¬ v2.heap.size = wr.heap.size := by omega
      have y3 : ¬ w.heap.size = wr.heap.size := by omega
      have y4 : ¬ gl = wr.heap.size := by omega
      have y5 : ge < wr.heap.size + 1 := by omega
      clear h1 h2 h3 hs
      go_wp2
      go_region_with (first
        | (go_at_call 131; (with_reducible refine (hPw.out _).mono ?_); rintro e v5 ⟨rfl, hB5⟩; have hZ5 := hB5.size; (try simp at hZ5); (try have zl5 : w.heap.size < v5.heap.size := by omega); (try have ze5 : w.heap.size ≤ v5.heap.size := by omega); (try have zn5 : ¬ w.heap.size = v5.heap.size := by omega); (try have zm5 : ¬ v5.heap.size = w.heap.size := by omega); have hA5 : Blk v5 (wr.heap.size) 36 #[.int .i64 f.a, .int .i64 f.b, .int .i64 f.c] := Blk.call (by (repeat (first | with_reducible assumption | (with_reducible apply Blk.new_at; (first | rfl | (simp; done))) | with_reducible apply Blk.store3 | with_reducible apply Blk.store4 | (with_reducible apply Blk.farp; (first | omega | (simp <;> omega))) | with_reducible apply Blk.allocp | with_reducible apply Blk.drew | with_reducible apply Blk.drewN))) hB5; have cA5 := hA5.cell; have fA5 := hA5.frozen; have lA5 := hA5.lt; have mA5 := Nat.ne_of_gt lA5; have nA5 := Nat.ne_of_lt lA5; have hR5 : Blk v5 (w.heap.size) 36 #[.int .i64 0, .int .i64 0, .int .i64 0] := Blk.call (by (repeat (first | with_reducible assumption | (with_reducible apply Blk.new_at; (first | rfl | (simp; done))) | with_reducible apply Blk.store3 | with_reducible apply Blk.store4 | (with_reducible apply Blk.farp; (first | omega | (simp <;> omega))) | with_reducible apply Blk.allocp | with_reducible apply Blk.drew | with_reducible apply Blk.drewN))) hB5; have cR5 := hR5.cell; have fR5 := hR5.frozen; have lR5 := hR5.lt; have mR5 := Nat.ne_of_gt lR5; have nR5 := Nat.ne_of_lt lR5; have hP5 : Blk v5 (v2.heap.size) 36 #[.int .i64 p.a, .int .i64 p.b, .int .i64 p.c] := Blk.call (by (repeat (first | with_reducible assumption | (with_reducible apply Blk.new_at; (first | rfl | (simp; done))) | with_reducible apply Blk.store3 | with_reducible apply Blk.store4 | (with_reducible apply Blk.farp; (first | omega | (simp <;> omega))) | with_reducible apply Blk.allocp | with_reducible apply Blk.drew | with_reducible apply Blk.drewN))) hB5; have cP5 := hP5.cell; have fP5 := hP5.frozen; have lP5 := hP5.lt; have mP5 := Nat.ne_of_gt lP5; have nP5 := Nat.ne_of_lt lP5)
        | (go_at_call 110; (with_reducible refine (hMu.out _).mono ?_); rintro e v6 ⟨rfl, hB6⟩; have hZ6 := hB6.size; (try simp at hZ6); (try have zl6 : w.heap.size < v6.heap.size := by omega); (try have ze6 : w.heap.size ≤ v6.heap.size := by omega); (try have zn6 : ¬ w.heap.size = v6.heap.size := by omega); (try have zm6 : ¬ v6.heap.size = w.heap.size := by omega); have hA6 : Blk v6 (wr.heap.size) 36 #[.int .i64 f.a, .int .i64 f.b, .int .i64 f.c] := Blk.call (by (repeat (first | with_reducible assumption | (with_reducible apply Blk.new_at; (first | rfl | (simp; done))) | with_reducible apply Blk.store3 | with_reducible apply Blk.store4 | (with_reducible apply Blk.farp; (first | omega | (simp <;> omega))) | with_reducible apply Blk.allocp | with_reducible apply Blk.drew | with_reducible apply Blk.drewN))) hB6; have cA6 := hA6.cell; have fA6 := hA6.frozen; have lA6 := hA6.lt; have mA6 := Nat.ne_of_gt lA6; have nA6 := Nat.ne_of_lt lA6; have hR6 : Blk v6 (w.heap.size) 36 #[.int .i64 0, .int .i64 0, .int .i64 0] := Blk.call (by (repeat (first | with_reducible assumption | (with_reducible apply Blk.new_at; (first | rfl | (simp; done))) | with_reducible apply Blk.store3 | with_reducible apply Blk.store4 | (with_reducible apply Blk.farp; (first | omega | (simp <;> omega))) | with_reducible apply Blk.allocp | with_reducible apply Blk.drew | with_reducible apply Blk.drewN))) hB6; have cR6 := hR6.cell; have fR6 := hR6.frozen; have lR6 := hR6.lt; have mR6 := Nat.ne_of_gt lR6; have nR6 := Nat.ne_of_lt lR6; have hP6 : Blk v6 (v2.heap.size) 36 #[.int .i64 p.a, .int .i64 p.b, .int .i64 p.c] := Blk.call (by (repeat (first | with_reducible assumption | (with_reducible apply Blk.new_at; (first | rfl | (simp; done))) | with_reducible apply Blk.store3 | with_reducible apply Blk.store4 | (with_reducible apply Blk.farp; (first | omega | (simp <;> omega))) | with_reducible apply Blk.allocp | with_reducible apply Blk.drew | with_reducible apply Blk.drewN))) hB6; have cP6 := hP6.cell; have fP6 := hP6.frozen; have lP6 := hP6.lt; have mP6 := Nat.ne_of_gt lP6; have nP6 := Nat.ne_of_lt lP6))
      all_goals
        go_wp2
        exact ⟨⟨k + 1, p2, by go_num, by omega, Hn, by (repeat (first | with_reducible assumption | (with_reducible apply Blk.new_at; (first | rfl | (simp; done))) | with_reducible apply Blk.store3 | with_reducible apply Blk.store4 | (with_reducible apply Blk.farp; (first | omega | (simp <;> omega))) | with_reducible apply Blk.allocp | with_reducible apply Blk.drew | with_reducible apply Blk.drewN)), by (repeat (first | with_reducible assumption | (with_reducible apply Blk.new_at; (first | rfl | (simp; done))) | with_reducible apply Blk.store3 | with_reducible apply Blk.store4 | (with_reducible apply Blk.farp; (first | omega | (simp <;> omega))) | with_reducible apply Blk.allocp | with_reducible apply Blk.drew | with_reducible apply Blk.drewN)), by omega, (by repeat (first | with_reducible exact Below.refl _ _ | with_reducible assumption | with_reducible apply Below.drew | with_reducible apply below_drewN | (with_reducible apply below_setp; (first | omega | (simp <;> omega))) | (with_reducible apply below_allocp; (first | omega | (simp <;> omega))) | (with_reducible refine below_viap (by assumption) ?_ ?_; (first | omega | (simp <;> omega)))))⟩, by simp [intOf]; omega⟩
    · have ek : k = L.length := by omega
      have hpr : p = rr := by rw [← hs.out, ek]; exact Hrr.out
      subst hpr
      go_wp2
      exact bodyPost_ret (v := .agg #[.int .i64 p.a, .int .i64 p.b, .int .i64 p.c]) (by simp [results, Tryz.results88, go_sem, *]) rfl ⟨rfl, (by repeat (first | with_reducible exact Below.refl _ _ | with_reducible assumption | with_reducible apply Below.drew | with_reducible apply below_drewN | (with_reducible apply below_setp; (first | omega | (simp <;> omega))) | (with_reducible apply below_allocp; (first | omega | (simp <;> omega))) | (with_reducible refine below_viap (by assumption) ?_ ?_; (first | omega | (simp <;> omega)))))⟩

set_option maxRecDepth 100000 in
set_option maxHeartbeats 3200000 in
theorem amClass_any (d : Int) (L : List Fm) (E : List Int) (v ve : Value) (B B2 : Nat) (w : World) (D : Dsc d) (hl : L.length ≤ 6) (hE : L.length ≤ E.length) (hEb : ∀ e ∈ E, -1000 ≤ e ∧ e ≤ 100000) (hg : ∀ f ∈ L, f ∈ clsL d)
    (ho : w.ownsRow B 36 3 v L.length (cellsF L)) (hoE : w.ownsRow B2 3 1 ve E.length (cellsI E)) :
    Calls Tryz.prog 92 #[.int .i64 d, v, ve] w fun e w' => e = .returned (.agg #[.int .i64 (relK d L E L.length).a, .int .i64 (relK d L E L.length).b, .int .i64 (relK d L E L.length).c]) ∧ Below w.heap.size w w' := by
  obtain ⟨bl, cl, rfl⟩ := own_shape ho
  obtain ⟨be, ce, rfl⟩ := own_shape hoE
  have HO := Lib.hid ho
  have HE := Lib.hid hoE
  obtain ⟨o, ho1⟩ : ∃ o, oneF d = o := ⟨_, rfl⟩
  have hKm : ∀ f ∈ L, f ∈ clsL d := hg
  have hKl : (L).length = L.length := rfl
  have hmem := Lib.hid (fun k hk => relK_mem D hKm E k hk)
  have hst : Hid (relK d L E 0 = o) := Lib.hid ho1
  have hPn := Lib.hid (fun w => coOne_any d o w D ho1)
  have hRe := Lib.hid (fun p w (h : p ∈ clsL d) => reClass_cf d p p w (CF.of_mem D h))
  have hStep := Lib.hid (fun k (hk : k < L.length) (hk2 : k < E.length) => (show ∃ r p2 : Fm, (∀ w, Calls Tryz.prog 165 #[.agg #[.int .i64 L[k].a, .int .i64 L[k].b, .int .i64 L[k].c], .int .i64 E[k]] w fun ee w' => ee = .returned (.agg #[.int .i64 r.a, .int .i64 r.b, .int .i64 r.c]) ∧ Below w.heap.size w w') ∧
      (∀ p w, relK d L E k = p → Calls Tryz.prog 174 #[.agg #[.int .i64 p.a, .int .i64 p.b, .int .i64 p.c], .agg #[.int .i64 r.a, .int .i64 r.b, .int .i64 r.c]] w fun ee w' => ee = .returned (.agg #[.int .i64 p2.a, .int .i64 p2.b, .int .i64 p2.c]) ∧ Below w.heap.size w w') ∧ relK d L E (k + 1) = p2 from by
    have hx : L[k] ∈ L := List.getElem_mem hk
    have eK : (L).getD k ⟨0, 0, 0⟩ = L[k] := by simp [List.getD_eq_getElem?_getD, hk]
    have eE : E.getD k 0 = E[k] := by simp [List.getD_eq_getElem?_getD, hk2]
    obtain ⟨e1, e2⟩ := hEb _ (List.getElem_mem hk2)
    have hr : pwZ d L[k] E[k] ∈ clsL d := pwZ_mem D (hg _ hx) _
    refine ⟨pwZ d L[k] E[k], relK d L E (k + 1), fun w => coPower_z d L[k] _ _ w D (hg _ hx) e1 e2 rfl, fun p w hp => ?_, rfl⟩
    have hpm : p ∈ clsL d := hp ▸ relK_mem D hKm E k (by rw [hKl]; omega)
    refine coMul_cf d p _ p _ _ w (CF.of_mem D hpm) (CF.of_mem D hr) ?_
    rw [relK, eK, eE, hp]))
  clear ho hoE hg ho1 hKm hEb
  obtain ⟨rr, hrr⟩ : ∃ rr, relK d L E L.length = rr := ⟨_, rfl⟩
  rw [hrr]
  have Hrr := Lib.hid hrr
  clear hrr D
  go_enter Tryz.func92, Tryz.ntmps92
  go_wp2_with (go_at_call 101; (with_reducible refine (hPn.out _).mono ?_); rintro e v2 ⟨rfl, hB2⟩; have hZ2 := hB2.size; (try simp at hZ2); (try have zl2 : w.heap.size < v2.heap.size := by omega); (try have ze2 : w.heap.size ≤ v2.heap.size := by omega); (try have zn2 : ¬ w.heap.size = v2.heap.size := by omega); (try have zm2 : ¬ v2.heap.size = w.heap.size := by omega); have hR2 : Blk v2 (w.heap.size) 36 #[.int .i64 0, .int .i64 0, .int .i64 0] := Blk.call (by (repeat (first | with_reducible assumption | (with_reducible apply Blk.new_at; (first | rfl | (simp; done))) | with_reducible apply Blk.store3 | with_reducible apply Blk.store4 | (with_reducible apply Blk.farp; (first | omega | (simp <;> omega))) | with_reducible apply Blk.allocp | with_reducible apply Blk.drew | with_reducible apply Blk.drewN))) hB2; have cR2 := hR2.cell; have fR2 := hR2.frozen; have lR2 := hR2.lt; have mR2 := Nat.ne_of_gt lR2; have nR2 := Nat.ne_of_lt lR2)
  go_loopw [14] (fun vi wr => RcSt d L E v2.heap.size w vi wr) (fun vi _ => L.length - (intOf vi).toNat)
  case atStart => exact ⟨0, o, rfl, Nat.zero_le _, hst, by (repeat (first | with_reducible assumption | (with_reducible apply Blk.new_at; (first | rfl | (simp; done))) | with_reducible apply Blk.store3 | with_reducible apply Blk.store4 | (with_reducible apply Blk.farp; (first | omega | (simp <;> omega))) | with_reducible apply Blk.allocp | with_reducible apply Blk.drew | with_reducible apply Blk.drewN)), by (repeat (first | with_reducible assumption | (with_reducible apply Blk.new_at; (first | rfl | (simp; done))) | with_reducible apply Blk.store3 | with_reducible apply Blk.store4 | (with_reducible apply Blk.farp; (first | omega | (simp <;> omega))) | with_reducible apply Blk.allocp | with_reducible apply Blk.drew | with_reducible apply Blk.drewN)), by omega, (by repeat (first | with_reducible exact Below.refl _ _ | with_reducible assumption | with_reducible apply Below.drew | with_reducible apply below_drewN | (with_reducible apply below_setp; (first | omega | (simp <;> omega))) | (with_reducible apply below_allocp; (first | omega | (simp <;> omega))) | (with_reducible refine below_viap (by assumption) ?_ ?_; (first | omega | (simp <;> omega)))))⟩
  case round =>
    clear hst
    obtain ⟨k, p, rfl, hk, hs, hR, hP, hlt0, hbel⟩ := hrel
    have hz := hbel.size
    have cR := hR.cell; have fR := hR.frozen; have lR := hR.lt
    have cP := hP.cell; have fP := hP.frozen; have lP := hP.lt
    by_cases hlt : k < L.length
    · obtain ⟨gl, rfl, ll, d1, d2, d3⟩ := own_elem (own_call hbel HO.out) hlt
      obtain ⟨ge, rfl, le, e1⟩ := own_elemI (own_call hbel HE.out) (k := k) (by omega)
      obtain ⟨r, p2, h1, h2, h3⟩ := hStep.out k hlt (by omega)
      have hPw := Lib.hid h1
      have hMu := Lib.hid (fun w => h2 p w hs.out)
      have Hn := Lib.hid h3
      generalize E[k]'(by omega) = ex at e1 hPw
      generalize L[k] = f at d1 d2 d3 hPw
      have y1 : ¬ ge = wr.heap.size := by omega
      have y2 : ¬ v2.heap.size = wr.heap.size := by omega
      have y3 : ¬ w.heap.size = wr.heap.size := by omega
      have y4 : ¬ gl = wr.heap.size := by omega
      have y5 : ge < wr.heap.size + 1 := by omega
      clear h1 h2 h3 hs
      go_wp2
      go_region_with (first
        | (go_at_call 165; (with_reducible refine (hPw.out _).mono ?_); rintro e v5 ⟨rfl, hB5⟩; have hZ5 := hB5.size; (try simp at hZ5); (try have zl5 : w.heap.size < v5.heap.size := by omega); (try have ze5 : w.heap.size ≤ v5.heap.size := by omega); (try have zn5 : ¬ w.heap.size = v5.heap.size := by omega); (try have zm5 : ¬ v5.heap.size = w.heap.size := by omega); have hA5 : Blk v5 (wr.heap.size) 36 #[.int .i64 f.a, .int .i64 f.b, .int .i64 f.c] := Blk.call (by (repeat (first | with_reducible assumption | (with_reducible apply Blk.new_at; (first | rfl | (simp; done))) | with_reducible apply Blk.store3 | with_reducible apply Blk.store4 | (with_reducible apply Blk.farp; (first | omega | (simp <;> omega))) | with_reducible apply Blk.allocp | with_reducible apply Blk.drew | with_reducible apply Blk.drewN))) hB5; have cA5 := hA5.cell; have fA5 := hA5.frozen; have lA5 := hA5.lt; have mA5 := Nat.ne_of_gt lA5; have nA5 := Nat.ne_of_lt lA5; have hR5 : Blk v5 (w.heap.size) 36 #[.int .i64 0, .int .i64 0, .int .i64 0] := Blk.call (by (repeat (first | with_reducible assumption | (with_reducible apply Blk.new_at; (first | rfl | (simp; done))) | with_reducible apply Blk.store3 | with_reducible apply Blk.store4 | (with_reducible apply Blk.farp; (first | omega | (simp <;> omega))) | with_reducible apply Blk.allocp | with_reducible apply Blk.drew | with_reducible apply Blk.drewN))) hB5; have cR5 := hR5.cell; have fR5 := hR5.frozen; have lR5 := hR5.lt; have mR5 := Nat.ne_of_gt lR5; have nR5 := Nat.ne_of_lt lR5; have hP5 : Blk v5 (v2.heap.size) 36 #[.int .i64 p.a, .int .i64 p.b, .int .i64 p.c] := Blk.call (by (repeat (first | with_reducible assumption | (with_reducible apply Blk.new_at; (first | rfl | (simp; done))) | with_reducible apply Blk.store3 | with_reducible apply Blk.store4 | (with_reducible apply Blk.farp; (first | omega | (simp <;> omega))) | with_reducible apply Blk.allocp | with_reducible apply Blk.drew | with_reducible apply Blk.drewN))) hB5; have cP5 := hP5.cell; have fP5 := hP5.frozen; have lP5 := hP5.lt; have mP5 := Nat.ne_of_gt lP5; have nP5 := Nat.ne_of_lt lP5)
        | (go_at_call 174; (with_reducible refine (hMu.out _).mono ?_); rintro e v6 ⟨rfl, hB6⟩; have hZ6 := hB6.size; (try simp at hZ6); (try have zl6 : w.heap.size < v6.heap.size := by omega); (try have ze6 : w.heap.size ≤ v6.heap.size := by omega); (try have zn6 : ¬ w.heap.size = v6.heap.size := by omega); (try have zm6 : ¬ v6.heap.size = w.heap.size := by omega); have hA6 : Blk v6 (wr.heap.size) 36 #[.int .i64 f.a, .int .i64 f.b, .int .i64 f.c] := Blk.call (by (repeat (first | with_reducible assumption | (with_reducible apply Blk.new_at; (first | rfl | (simp; done))) | with_reducible apply Blk.store3 | with_reducible apply Blk.store4 | (with_reducible apply Blk.farp; (first | omega | (simp <;> omega))) | with_reducible apply Blk.allocp | with_reducible apply Blk.drew | with_reducible apply Blk.drewN))) hB6; have cA6 := hA6.cell; have fA6 := hA6.frozen; have lA6 := hA6.lt; have mA6 := Nat.ne_of_gt lA6; have nA6 := Nat.ne_of_lt lA6; have hR6 : Blk v6 (w.heap.size) 36 #[.int .i64 0, .int .i64 0, .int .i64 0] := Blk.call (by (repeat (first | with_reducible assumption | (with_reducible apply Blk.new_at; (first | rfl | (simp; done))) | with_reducible apply Blk.store3 | with_reducible apply Blk.store4 | (with_reducible apply Blk.farp; (first | omega | (simp <;> omega))) | with_reducible apply Blk.allocp | with_reducible apply Blk.drew | with_reducible apply Blk.drewN))) hB6; have cR6 := hR6.cell; have fR6 := hR6.frozen; have lR6 := hR6.lt; have mR6 := Nat.ne_of_gt lR6; have nR6 := Nat.ne_of_lt lR6; have hP6 : Blk v6 (v2.heap.size) 36 #[.int .i64 p.a, .int .i64 p.b, .int .i64 p.c] := Blk.call (by (repeat (first | with_reducible assumption | (with_reducible apply Blk.new_at; (first | rfl | (simp; done))) | with_reducible apply Blk.store3 | with_reducible apply Blk.store4 | (with_reducible apply Blk.farp; (first | omega | (simp <;> omega))) | with_reducible apply Blk.allocp | with_reducible apply Blk.drew | with_reducible apply Blk.drewN))) hB6; have cP6 := hP6.cell; have fP6 := hP6.frozen; have lP6 := hP6.lt; have mP6 := Nat.ne_of_gt lP6; have nP6 := Nat.ne_of_lt lP6))
      all_goals
        go_wp2
        exact ⟨⟨k + 1, p2, by go_num, by omega, Hn, by (repeat (first | with_reducible assumption | (with_reducible apply Blk.new_at; (first | rfl | (simp; done))) | with_reducible apply Blk.store3 | with_reducible apply Blk.store4 | (with_reducible apply Blk.farp; (first | omega | (simp <;> omega))) | with_reducible apply Blk.allocp | with_reducible apply Blk.drew | with_reducible apply Blk.drewN)), by (repeat (first | with_reducible assumption | (with_reducible apply Blk.new_at; (first | rfl | (simp; done))) | with_reducible apply Blk.store3 | with_reducible apply Blk.store4 | (with_reducible apply Blk.farp; (first | omega | (simp <;> omega))) | with_reducible apply Blk.allocp | with_reducible apply Blk.drew | with_reducible apply Blk.drewN)), by omega, (by repeat (first | with_reducible exact Below.refl _ _ | with_reducible assumption | with_reducible apply Below.drew | with_reducible apply below_drewN | (with_reducible apply below_setp; (first | omega | (simp <;> omega))) | (with_reducible apply below_allocp; (first | omega | (simp <;> omega))) | (with_reducible refine below_viap (by assumption) ?_ ?_; (first | omega | (simp <;> omega)))))⟩, by simp [intOf]; omega⟩
    · have ek : k = L.length := by omega
      have hpr : p = rr := by rw [← hs.out, ek]; exact Hrr.out
      subst hpr
      have hp0 := hmem.out L.length (by omega)
      rw [Hrr.out] at hp0
      have hRe2 := Lib.hid (fun w => hRe.out p w hp0)
      go_wp2_with (go_at_call 141; (with_reducible refine (hRe2.out _).mono ?_); rintro e v6 ⟨rfl, hB6⟩; have hZ6 := hB6.size; (try simp at hZ6); (try have zl6 : w.heap.size < v6.heap.size := by omega); (try have ze6 : w.heap.size ≤ v6.heap.size := by omega); (try have zn6 : ¬ w.heap.size = v6.heap.size := by omega); (try have zm6 : ¬ v6.heap.size = w.heap.size := by omega); have hR6 : Blk v6 (w.heap.size) 36 #[.int .i64 0, .int .i64 0, .int .i64 0] := Blk.call (by (repeat (first | with_reducible assumption | (with_reducible apply Blk.new_at; (first | rfl | (simp; done))) | with_reducible apply Blk.store3 | with_reducible apply Blk.store4 | (with_reducible apply Blk.farp; (first | omega | (simp <;> omega))) | with_reducible apply Blk.allocp | with_reducible apply Blk.drew | with_reducible apply Blk.drewN))) hB6; have cR6 := hR6.cell; have fR6 := hR6.frozen; have lR6 := hR6.lt; have mR6 := Nat.ne_of_gt lR6; have nR6 := Nat.ne_of_lt lR6)
      exact bodyPost_ret (v := .agg #[.int .i64 p.a, .int .i64 p.b, .int .i64 p.c]) (by simp [results, Tryz.results92, go_sem, *]) rfl ⟨rfl, (by repeat (first | with_reducible exact Below.refl _ _ | with_reducible assumption | with_reducible apply Below.drew | with_reducible apply below_drewN | (with_reducible apply below_setp; (first | omega | (simp <;> omega))) | (with_reducible apply below_allocp; (first | omega | (simp <;> omega))) | (with_reducible refine below_viap (by assumption) ?_ ?_; (first | omega | (simp <;> omega)))))⟩
end Go.Proofs.YteehcjjhkphdnaaGreat
