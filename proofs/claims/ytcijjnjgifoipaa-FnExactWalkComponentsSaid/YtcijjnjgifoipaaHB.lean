/- Contracts: the sublattice forms, of both sides. -/
import Derived.Test.YtcijjnjgifoipaaHA
namespace Go.Proofs.Ytcijjnjgifoipaa
open Go.RowKit

theorem pol_ok {a b c x y u v : Int} (ha : -26 ≤ a ∧ a ≤ 26) (hb : -26 ≤ b ∧ b ≤ 26) (hc : -1000 ≤ c ∧ c ≤ 1000) (hx : 0 ≤ x ∧ x ≤ 50) (hy : 0 ≤ y ∧ y ≤ 50) (hu : 0 ≤ u ∧ u ≤ 50) (hv : 0 ≤ v ∧ v ≤ 50) : PolOK a b c x y u v := by
  have k1 := mul_bd (a := 2 * a) (x := x) (A := 52) (X := 50) (by omega) (by omega) (by omega) (by omega)
  have k2 := mul_bd (a := 2 * a * x) (x := u) (A := 2600) (X := 50) (by omega) (by omega) (by omega) (by omega)
  have k3 := mul_bd (a := x) (x := v) (A := 50) (X := 50) (by omega) (by omega) (by omega) (by omega)
  have k4 := mul_bd (a := y) (x := u) (A := 50) (X := 50) (by omega) (by omega) (by omega) (by omega)
  have k5 := mul_bd (a := b) (x := x * v + y * u) (A := 26) (X := 5000) (by omega) (by omega) (by omega) (by omega)
  have k6 := mul_bd (a := 2 * c) (x := y) (A := 2000) (X := 50) (by omega) (by omega) (by omega) (by omega)
  have k7 := mul_bd (a := 2 * c * y) (x := v) (A := 100000) (X := 50) (by omega) (by omega) (by omega) (by omega)
  exact ⟨⟨by omega, by omega⟩, ⟨by omega, by omega⟩, ⟨by omega, by omega⟩, ⟨by omega, by omega⟩, ⟨by omega, by omega⟩, ⟨by omega, by omega⟩, ⟨by omega, by omega⟩, ⟨by omega, by omega⟩, ⟨by omega, by omega⟩⟩
/-- A form under a matrix. -/
def actX (f : Fm) (m : Mx) : Fm := ⟨atF f.a f.b f.c m.p m.r, polF f.a f.b f.c m.p m.r m.q m.s, atF f.a f.b f.c m.q m.s⟩
def SmF (f : Fm) : Prop := (-26 ≤ f.a ∧ f.a ≤ 26) ∧ (-26 ≤ f.b ∧ f.b ≤ 26) ∧ (-1000 ≤ f.c ∧ f.c ≤ 1000)
def SmX (m : Mx) : Prop := (0 ≤ m.p ∧ m.p ≤ 50) ∧ (0 ≤ m.q ∧ m.q ≤ 50) ∧ (0 ≤ m.r ∧ m.r ≤ 50) ∧ (0 ≤ m.s ∧ m.s ≤ 50)
theorem smF_of {d : Int} {f : Fm} (D : Dsc d) (h : f ∈ clsL d) : SmF f := by
  obtain ⟨⟨a1, a2⟩, ⟨b1, b2⟩, ⟨c1, c2⟩⟩ := cls_bd D.lo h
  exact ⟨⟨by omega, by omega⟩, ⟨by omega, by omega⟩, ⟨by omega, by omega⟩⟩
theorem smX_of {p : Int} (h1 : 2 ≤ p) (h2 : p ≤ 43) : ∀ m ∈ mxA p, SmX m := by
  intro m hm
  unfold mxA mxL at hm
  rw [List.mem_append, List.mem_map] at hm
  rcases hm with ⟨j, hj, rfl⟩ | hm
  · have := List.mem_range.1 hj
    exact ⟨⟨by show (0 : Int) ≤ 1; omega, by show (1 : Int) ≤ 50; omega⟩, ⟨by show (0 : Int) ≤ 0; omega, by show (0 : Int) ≤ 50; omega⟩, ⟨by show (0 : Int) ≤ j; omega, by show (j : Int) ≤ 50; omega⟩, ⟨by show 0 ≤ p; omega, by show p ≤ 50; omega⟩⟩
  · simp at hm
    subst hm
    exact ⟨⟨by show 0 ≤ p; omega, by show p ≤ 50; omega⟩, ⟨by show (0 : Int) ≤ 0; omega, by show (0 : Int) ≤ 50; omega⟩, ⟨by show (0 : Int) ≤ 0; omega, by show (0 : Int) ≤ 50; omega⟩, ⟨by show (0 : Int) ≤ 1; omega, by show (1 : Int) ≤ 50; omega⟩⟩
theorem subX_any (f : Fm) (m : Mx) (w : World) (hf : SmF f) (hm : SmX m) : Calls Try.prog 110 #[.agg #[.int .i64 f.a, .int .i64 f.b, .int .i64 f.c], .agg #[.int .i64 m.p, .int .i64 m.q, .int .i64 m.r, .int .i64 m.s]] w fun e w' =>
    e = .returned (.agg #[.int .i64 (actX f m).a, .int .i64 (actX f m).b, .int .i64 (actX f m).c]) ∧ Below w.heap.size w w' := by
  obtain ⟨h1, h2, h3⟩ := hf
  obtain ⟨k1, k2, k3, k4⟩ := hm
  exact substitute_any f.a f.b f.c m.p m.q m.r m.s w (at_small (by omega) (by omega) (by omega) (by omega) (by omega)) (pol_ok h1 h2 h3 k1 k3 k2 k4) (at_small (by omega) (by omega) (by omega) (by omega) (by omega))
theorem actX_any (f : Fm) (m : Mx) (w : World) (hf : SmF f) (hm : SmX m) : Calls Try.prog 125 #[.agg #[.int .i64 f.a, .int .i64 f.b, .int .i64 f.c], .agg #[.int .i64 m.p, .int .i64 m.q, .int .i64 m.r, .int .i64 m.s]] w fun e w' =>
    e = .returned (.agg #[.int .i64 (actX f m).a, .int .i64 (actX f m).b, .int .i64 (actX f m).c]) ∧ Below w.heap.size w w' := by
  obtain ⟨h1, h2, h3⟩ := hf
  obtain ⟨k1, k2, k3, k4⟩ := hm
  exact foAct_any f.a f.b f.c m.p m.q m.r m.s w (at_small (by omega) (by omega) (by omega) (by omega) (by omega)) (pol_ok h1 h2 h3 k1 k3 k2 k4) (at_small (by omega) (by omega) (by omega) (by omega) (by omega))
theorem mxA_len {p : Int} (h1 : 2 ≤ p) (h2 : p ≤ 43) : (mxA p).length ≤ 50 := by unfold mxA mxL; simp; omega
theorem mapX_next {f : Fm} {M : List Mx} {k : Nat} (h : k < M.length) : (M.take (k + 1)).map (actX f) = (M.take k).map (actX f) ++ [actX f M[k]] := by
  rw [List.take_succ_eq_append_getElem h, List.map_append]; rfl
def SfSt (f : Fm) (M : List Mx) (B : Nat) (vm : Value) (w0 : World) (v vi : Value) (wr : World) : Prop :=
  ∃ k : Nat, vi = .int .i64 k ∧ k ≤ M.length ∧ wr.ownsRow w0.heap.size 32 3 v ((M.take k).map (actX f)).length (cellsF ((M.take k).map (actX f))) ∧ wr.ownsRow B 83 4 vm M.length (cellsX M) ∧ Apart v vm ∧ Below w0.heap.size w0 wr

set_option maxRecDepth 100000 in
set_option maxHeartbeats 3200000 in
theorem sublatticeForms_any (f : Fm) (p : Int) (w : World) (hsf : SmF f) (hp : 2 ≤ p ∧ p ≤ 43) : Calls Try.prog 121 #[.agg #[.int .i64 f.a, .int .i64 f.b, .int .i64 f.c], .int .i64 p] w (RetF ((mxA p).map (actX f)) w) := by
  obtain ⟨i0, hi, hz0, hz1, hz2⟩ := info_parts infoForm
  have hMx := Lib.hid (fun w => indexMatrices_any p w hp)
  have hsm := Lib.hid (smX_of hp.1 hp.2)
  have hlm := mxA_len hp.1 hp.2

  have hSub := Lib.hid (fun m (h : SmX m) w => subX_any f m w hsf h)
  generalize mxA p = M at *
  clear hp hsf
  go_enter Try.func121, Try.ntmps121
  go_wp2_with (go_at_call 139; refine (hMx.out _).mono ?_; rintro e w1 ⟨vm, rfl, hom, hb1⟩; obtain ⟨bm, cm, rfl⟩ := own_shape hom; have hz1' := hb1.size)
  obtain ⟨w0, hw0e⟩ : ∃ w0, w.alloc (.cells #[.int .i64 f.a, .int .i64 f.b, .int .i64 f.c] 32) = w0 := ⟨_, rfl⟩
  have hA0 : Hid (Blk w0 w.heap.size 32 #[.int .i64 f.a, .int .i64 f.b, .int .i64 f.c]) := Lib.hid (by rw [← hw0e]; exact Blk.new _ _ _)
  have hw0 : w.heap.size ≤ w0.heap.size := by rw [← hw0e]; simp
  have hbw0 : Below w.heap.size w w0 := by rw [← hw0e]; exact (by repeat (first | with_reducible exact Below.refl _ _ | with_reducible assumption | with_reducible apply Below.drew | with_reducible apply below_drewN | (with_reducible apply below_setp; (first | omega | (simp <;> omega))) | (with_reducible apply below_allocp; (first | omega | (simp <;> omega))) | (with_reducible refine below_viap (by assumption) ?_ ?_; (first | omega | (simp <;> omega)))))
  have hsz0 : w0.heap.size = w.heap.size + 1 := by rw [← hw0e]; simp
  rw [hw0e] at hom hb1 hz1'
  have hs0 : w1.ownsRow w0.heap.size 32 3 (.slice (some ⟨w.heap.size + 1, 0, none⟩) 0 0) 0 [] := by rw [← hsz0]; exact own_call hb1 (own_empty (Nat.le_refl _))
  obtain ⟨B2, hB2e⟩ : ∃ B2 : Nat, B2 = (w0.alloc (.cells #[] 32)).heap.size := ⟨_, rfl⟩
  rw [← hB2e] at hom
  go_loopw [5, 12] (fun v vi wr => SfSt f M B2 (.slice bm M.length cm) w0 v vi wr) (fun _ vi _ => M.length - (intOf vi).toNat)
  case atStart => exact ⟨0, rfl, Nat.zero_le _, hs0, hom, apart_below hom (by simp [hB2e, hsz0]), (by repeat (first | with_reducible exact Below.refl _ _ | with_reducible assumption | with_reducible apply Below.drew | with_reducible apply below_drewN | (with_reducible apply below_setp; (first | omega | (simp <;> omega))) | (with_reducible apply below_allocp; (first | omega | (simp <;> omega))) | (with_reducible refine below_viap (by assumption) ?_ ?_; (first | omega | (simp <;> omega)))))⟩
  case round =>
    clear hom hb1 hz1'
    obtain ⟨k, rfl, hk, hown, hom, hap, hbel⟩ := hrel
    have hz := hbel.size
    have hA2 := hA0.out.call hbel
    have cA := hA2.cell; have fA := hA2.frozen; have lA := hA2.lt
    have nA := Nat.ne_of_lt lA
    by_cases hlt : k < M.length
    · obtain ⟨gm, rfl, lm, d1, d2, d3, d4⟩ := own_elemX hom hlt
      have hx := mapX_next (f := f) hlt
      have hql : ((M.take k).map (actX f)).length ≤ 50 := by rw [List.length_map, List.length_take]; omega
      have hS := Lib.hid (fun w => hSub.out M[k] (hsm.out _ (List.getElem_mem hlt)) w)
      generalize M[k] = m at d1 d2 d3 d4 hx hS
      generalize actX f m = g at hx hS
      generalize (M.take k).map (actX f) = Q at hown hx hql
      have Hx := Lib.hid hx
      clear hx
      have n1 : w.heap.size < wr.heap.size + 1 := by omega
      go_wp2_with (first
        | (go_at_call 110; refine (hS.out _).mono ?_; rintro e v2 ⟨rfl, hB2⟩; have hZ2 := hB2.size; (try simp at hZ2); have hownB := own_call hB2 (own_alloc (o := .cells #[.int .i64 m.p, .int .i64 m.q, .int .i64 m.r, .int .i64 m.s] 83) hown))
        | (at_builtin; refine wpList_append_own_at _ rfl (.tmp 16) (.tmp 20) 53 rfl w0.heap.size 32 i0 _ 3 24 Try.underlying53 hi hz0 hz1 hz2 rfl (by decide) u5 Q.length (cellsF Q) rfl ?_ ⟨v2.heap.size, 0, none⟩ 1 1 [.int .i64 g.a, .int .i64 g.b, .int .i64 g.c] rfl rfl ?_ (one3 _ _ _) ?_ ?_ ?_ ?_; exact own_alloc hownB; exact cells3 (Blk.new _ _ _); (unfold maxLen; omega); omega; (simp; omega); intro x2 w2 hown2 hgr _ hloc))
      have hbA : Below w0.heap.size w0 v2 := below_via (hbel.alloc hz _) hB2 (by simp; omega)
      have hb2 : Below w0.heap.size w0 w2 := below_grown (own_ge hown) (by simp; omega) hgr (hbA.alloc (by omega) _)
      have ho2 := own_snoc Hx.out hown2
      have hmB := own_alloc (o := .cells #[.int .i64 g.a, .int .i64 g.b, .int .i64 g.c] 32) (own_call hB2 (own_alloc (o := .cells #[.int .i64 m.p, .int .i64 m.q, .int .i64 m.r, .int .i64 m.s] 83) hom))
      have hm2 := hmB.kept hgr hap
      have hap2 := apart_next hap hmB (Nat.le_refl _) hloc
      clear hgr hown2 hown hownB hbel hom hap hmB hloc hbA hB2
      go_wp2
      go_roundw
      case rel => exact ⟨k + 1, rfl, hlt, ho2, hm2, hap2, hb2⟩
      case measure => simp [intOf]; omega
    · have e : k = M.length := by omega
      have hx : (M.take k).map (actX f) = M.map (actX f) := by rw [e, List.take_length]
      rw [hx] at hown
      clear hx
      subst e
      go_wp2
      go_ret
      exact ⟨_, rfl, own_base hw0 hown, below_via hbw0 hbel hw0⟩

set_option maxRecDepth 100000 in
set_option maxHeartbeats 3200000 in
theorem hkForms_any (d : Int) (f : Fm) (p : Int) (w : World) (D : Dsc d) (hfm : f ∈ clsL d) (hp : 2 ≤ p ∧ p ≤ 43) : Calls Try.prog 119 #[.agg #[.int .i64 f.a, .int .i64 f.b, .int .i64 f.c], .int .i64 p] w (RetF ((mxA p).map (actX f)) w) := by
  obtain ⟨i0, hi, hz0, hz1, hz2⟩ := info_parts infoForm
  have hMx := Lib.hid (fun w => hkMatrices_any p w hp)
  have hsm := Lib.hid (smX_of hp.1 hp.2)
  have hlm := mxA_len hp.1 hp.2
  have hsf := smF_of D hfm
  have hRe := Lib.hid (fun w => reClass_cf d f f w (CF.of_mem D hfm))
  have hSub := Lib.hid (fun m (h : SmX m) w => actX_any f m w hsf h)
  generalize mxA p = M at *
  clear hp hsf D hfm
  go_enter Try.func119, Try.ntmps119
  go_wp2_with (first
    | (go_at_call 72; refine (hRe.out _).mono ?_; rintro e v1 ⟨rfl, hB1⟩; have hZ1 := hB1.size; (try simp at hZ1))
    | (go_at_call 138; refine (hMx.out _).mono ?_; rintro e w1 ⟨vm, rfl, hom, hb1⟩; obtain ⟨bm, cm, rfl⟩ := own_shape hom; have hz1' := hb1.size))
  obtain ⟨w0, hw0e⟩ : ∃ w0, v1.alloc (.cells #[.int .i64 f.a, .int .i64 f.b, .int .i64 f.c] 32) = w0 := ⟨_, rfl⟩
  have hA0 : Hid (Blk w0 v1.heap.size 32 #[.int .i64 f.a, .int .i64 f.b, .int .i64 f.c]) := Lib.hid (by rw [← hw0e]; exact Blk.new _ _ _)
  have hw0 : w.heap.size ≤ w0.heap.size := by rw [← hw0e]; simp; omega
  have hbw0 : Below w.heap.size w w0 := by rw [← hw0e]; exact (by repeat (first | with_reducible exact Below.refl _ _ | with_reducible assumption | with_reducible apply Below.drew | with_reducible apply below_drewN | (with_reducible apply below_setp; (first | omega | (simp <;> omega))) | (with_reducible apply below_allocp; (first | omega | (simp <;> omega))) | (with_reducible refine below_viap (by assumption) ?_ ?_; (first | omega | (simp <;> omega)))))
  rw [hw0e] at hom hb1 hz1'
  obtain ⟨B2, hB2e⟩ : ∃ B2 : Nat, B2 = w0.heap.size := ⟨_, rfl⟩
  rw [← hB2e] at hom
  go_loopw [6, 14] (fun v vi wr => SfSt f M B2 (.slice bm M.length cm) w0 v vi wr) (fun _ vi _ => M.length - (intOf vi).toNat)
  case atStart => exact ⟨0, rfl, Nat.zero_le _, World.ownsRow_nil _ _ _ _, hom, apart_nil, hb1⟩
  case round =>
    clear hom hb1 hz1'
    obtain ⟨k, rfl, hk, hown, hom, hap, hbel⟩ := hrel
    have hz := hbel.size
    have hA2 := hA0.out.call hbel
    have cA := hA2.cell; have fA := hA2.frozen; have lA := hA2.lt
    have nA := Nat.ne_of_lt lA
    by_cases hlt : k < M.length
    · obtain ⟨gm, rfl, lm, d1, d2, d3, d4⟩ := own_elemX hom hlt
      have hx := mapX_next (f := f) hlt
      have hql : ((M.take k).map (actX f)).length ≤ 50 := by rw [List.length_map, List.length_take]; omega
      have hS := Lib.hid (fun w => hSub.out M[k] (hsm.out _ (List.getElem_mem hlt)) w)
      generalize M[k] = m at d1 d2 d3 d4 hx hS
      generalize actX f m = g at hx hS
      generalize (M.take k).map (actX f) = Q at hown hx hql
      have Hx := Lib.hid hx
      clear hx
      have n1 : v1.heap.size < wr.heap.size + 1 := by omega
      go_wp2_with (first
        | (go_at_call 125; refine (hS.out _).mono ?_; rintro e v2 ⟨rfl, hB2⟩; have hZ2 := hB2.size; (try simp at hZ2); have hownB := own_call hB2 (own_alloc (o := .cells #[.int .i64 m.p, .int .i64 m.q, .int .i64 m.r, .int .i64 m.s] 83) hown))
        | (at_builtin; refine wpList_append_own_at _ rfl (.tmp 18) (.tmp 22) 53 rfl w0.heap.size 32 i0 _ 3 24 Try.underlying53 hi hz0 hz1 hz2 rfl (by decide) u6 Q.length (cellsF Q) rfl ?_ ⟨v2.heap.size, 0, none⟩ 1 1 [.int .i64 g.a, .int .i64 g.b, .int .i64 g.c] rfl rfl ?_ (one3 _ _ _) ?_ ?_ ?_ ?_; exact own_alloc hownB; exact cells3 (Blk.new _ _ _); (unfold maxLen; omega); omega; (simp; omega); intro x2 w2 hown2 hgr _ hloc))
      have hbA : Below w0.heap.size w0 v2 := below_via (hbel.alloc hz _) hB2 (by simp; omega)
      have hb2 : Below w0.heap.size w0 w2 := below_grown (own_ge hown) (by simp; omega) hgr (hbA.alloc (by omega) _)
      have ho2 := own_snoc Hx.out hown2
      have hmB := own_alloc (o := .cells #[.int .i64 g.a, .int .i64 g.b, .int .i64 g.c] 32) (own_call hB2 (own_alloc (o := .cells #[.int .i64 m.p, .int .i64 m.q, .int .i64 m.r, .int .i64 m.s] 83) hom))
      have hm2 := hmB.kept hgr hap
      have hap2 := apart_next hap hmB (Nat.le_refl _) hloc
      clear hgr hown2 hown hownB hbel hom hap hmB hloc hbA hB2
      go_wp2
      go_roundw
      case rel => exact ⟨k + 1, rfl, hlt, ho2, hm2, hap2, hb2⟩
      case measure => simp [intOf]; omega
    · have e : k = M.length := by omega
      have hx : (M.take k).map (actX f) = M.map (actX f) := by rw [e, List.take_length]
      rw [hx] at hown
      clear hx
      subst e
      go_wp2
      go_ret
      exact ⟨_, rfl, own_base hw0 hown, below_via hbw0 hbel hw0⟩
end Go.Proofs.Ytcijjnjgifoipaa
