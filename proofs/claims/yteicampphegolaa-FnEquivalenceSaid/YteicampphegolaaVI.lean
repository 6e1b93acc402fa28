/- Contracts: Automorphs of the reference, Substitute, Determinant, Discriminant, IsPrimitive, AutomorphCount of the program, as the law on equivalence calls them. -/
import Derived.Test.YteicampphegolaaVG
import Derived.Test.YteicampphegolaaK7
namespace Go.Proofs.Yteicampphegolaa
open Go.RowKit Go

set_option maxRecDepth 100000 in
set_option maxHeartbeats 3200000 in
theorem specAut_any (f : Fm) (L : List M4) (ok : Bool) (w : World) (h : AtR f L ok) :
    Calls Try.prog 33 #[.agg #[.int .i64 f.a, .int .i64 f.b, .int .i64 f.c]] w (RetMb L ok w) := by
  have hF := Lib.hid (fun w => sisDef_any f.a f.b f.c w)
  rcases h with ⟨h1, rfl, rfl⟩ | ⟨h1, rfl, rfl⟩
  · rw [h1] at hF
    clear h1
    go_enter Try.func33, Try.ntmps33
    go_wp2_with (go_at_call 106; (with_reducible refine (hF.out _).mono ?_); rintro e v1 ⟨rfl, hB1⟩; have hZ1 := hB1.size; (try simp at hZ1); (try have zl1 : w.heap.size < v1.heap.size := by omega); (try have ze1 : w.heap.size ≤ v1.heap.size := by omega); (try have zn1 : ¬ w.heap.size = v1.heap.size := by omega); (try have zm1 : ¬ v1.heap.size = w.heap.size := by omega); have hA1 : Blk v1 (w.heap.size) 35 #[.int .i64 f.a, .int .i64 f.b, .int .i64 f.c] := Blk.call (by (repeat (first | with_reducible assumption | (with_reducible apply Blk.new_at; (first | rfl | (simp; done))) | with_reducible apply Blk.store3 | with_reducible apply Blk.store4 | (with_reducible apply Blk.farp; (first | omega | (simp <;> omega))) | with_reducible apply Blk.allocp | with_reducible apply Blk.drew | with_reducible apply Blk.drewN))) hB1; have cA1 := hA1.cell; have fA1 := hA1.frozen; have lA1 := hA1.lt; have mA1 := Nat.ne_of_gt lA1; have nA1 := Nat.ne_of_lt lA1)
    go_ret2
    exact ⟨_, rfl, World.ownsRow_nil _ _ _ _, (by repeat (first | with_reducible exact Below.refl _ _ | with_reducible assumption | with_reducible apply Below.drew | with_reducible apply below_drewN | (with_reducible apply below_setp; (first | omega | (simp <;> omega))) | (with_reducible apply below_allocp; (first | omega | (simp <;> omega))) | (with_reducible refine below_viap (by assumption) ?_ ?_; (first | omega | (simp <;> omega)))))⟩
  · have hR := Lib.hid (fun w => reAut_any f w h1)
    rw [h1] at hF
    clear h1
    generalize srtM (autI (red f) (redM f M4.one)) = K at *
    go_enter Try.func33, Try.ntmps33
    go_wp2_with (first
      | (go_at_call 106; (with_reducible refine (hF.out _).mono ?_); rintro e v1 ⟨rfl, hB1⟩; have hZ1 := hB1.size; (try simp at hZ1); (try have zl1 : w.heap.size < v1.heap.size := by omega); (try have ze1 : w.heap.size ≤ v1.heap.size := by omega); (try have zn1 : ¬ w.heap.size = v1.heap.size := by omega); (try have zm1 : ¬ v1.heap.size = w.heap.size := by omega); have hA1 : Blk v1 (w.heap.size) 35 #[.int .i64 f.a, .int .i64 f.b, .int .i64 f.c] := Blk.call (by (repeat (first | with_reducible assumption | (with_reducible apply Blk.new_at; (first | rfl | (simp; done))) | with_reducible apply Blk.store3 | with_reducible apply Blk.store4 | (with_reducible apply Blk.farp; (first | omega | (simp <;> omega))) | with_reducible apply Blk.allocp | with_reducible apply Blk.drew | with_reducible apply Blk.drewN))) hB1; have cA1 := hA1.cell; have fA1 := hA1.frozen; have lA1 := hA1.lt; have mA1 := Nat.ne_of_gt lA1; have nA1 := Nat.ne_of_lt lA1)
      | (go_at_call 127; (with_reducible refine (hR.out _).mono ?_); rintro e v2 ⟨tv, rfl, hrow, hB2⟩))
    go_ret2
    exact ⟨_, rfl, own_base (by simp at *; omega) hrow, (by repeat (first | with_reducible exact Below.refl _ _ | with_reducible assumption | with_reducible apply Below.drew | with_reducible apply below_drewN | (with_reducible apply below_setp; (first | omega | (simp <;> omega))) | (with_reducible apply below_allocp; (first | omega | (simp <;> omega))) | (with_reducible refine below_viap (by assumption) ?_ ?_; (first | omega | (simp <;> omega)))))⟩
theorem fm_isFm {f : Fm} (h : isDefB f.a f.b f.c = true) : isFm f.a f.b f.c = true := idef_form h
theorem atV_of {a b c x y A : Int} (h : atF a b c x y = A) (h1 : -1000000 ≤ A ∧ A ≤ 1000000) : atV a b c x y = A := by
  rw [atV_eq, h]; exact IntWalk.wrap64_in _ (by omega)
theorem polV_of {a b c x y u v A : Int} (h : polF a b c x y u v = A) (h1 : -1000000 ≤ A ∧ A ≤ 1000000) : polV a b c x y u v = A := by
  rw [polV_eq, h]; exact IntWalk.wrap64_in _ (by omega)
set_option maxRecDepth 100000 in
set_option maxHeartbeats 1600000 in
theorem implSub2_c (a b c x q y t A B C : Int) (w : World) (hF : isFm a b c = true) (hM : numM ⟨x, q, y, t⟩ = true) (h1 : atV a b c x y = A) (h2 : polV a b c x y q t = B) (h3 : atV a b c q t = C) (hG : isFm A B C = true) :
    Calls Try.prog 29 #[.agg #[.int .i64 a, .int .i64 b, .int .i64 c], .agg #[.int .i64 x, .int .i64 q, .int .i64 y, .int .i64 t]] w fun e w' => e = .returned (.tuple #[.agg #[.int .i64 A, .int .i64 B, .int .i64 C], .bool true]) ∧ Below w.heap.size w w' := by
  have hFm := Lib.hid (fun w => IsForm_any a b c w)
  have hGm := Lib.hid (fun w => IsForm_any A B C w)
  have hMm := Lib.hid (fun w => isMx_any ⟨x, q, y, t⟩ w)
  dsimp only at hMm
  have hS := Lib.hid (fun w => substitute_w a b c x q y t A B C w h1 h2 h3)
  rw [hF] at hFm
  rw [hG] at hGm
  rw [hM] at hMm
  clear hF hM h1 h2 h3 hG
  go_enter Try.func29, Try.ntmps29
  go_wp2_with (first
    | (go_at_call 110; (with_reducible refine (hFm.out _).mono ?_); rintro e v1 ⟨rfl, hB1⟩; have hZ1 := hB1.size; (try simp at hZ1); (try have zl1 : w.heap.size < v1.heap.size := by omega); (try have ze1 : w.heap.size ≤ v1.heap.size := by omega); (try have zn1 : ¬ w.heap.size = v1.heap.size := by omega); (try have zm1 : ¬ v1.heap.size = w.heap.size := by omega); have hA1 : Blk v1 (w.heap.size) 35 #[.int .i64 a, .int .i64 b, .int .i64 c] := Blk.call (by (repeat (first | with_reducible assumption | (with_reducible apply Blk.new_at; (first | rfl | (simp; done))) | with_reducible apply Blk.store3 | with_reducible apply Blk.store4 | (with_reducible apply Blk.farp; (first | omega | (simp <;> omega))) | with_reducible apply Blk.allocp | with_reducible apply Blk.drew | with_reducible apply Blk.drewN))) hB1; have cA1 := hA1.cell; have fA1 := hA1.frozen; have lA1 := hA1.lt; have mA1 := Nat.ne_of_gt lA1; have nA1 := Nat.ne_of_lt lA1; have hM1 : Blk v1 (w.heap.size + 1) 49 #[.int .i64 x, .int .i64 q, .int .i64 y, .int .i64 t] := Blk.call (by (repeat (first | with_reducible assumption | (with_reducible apply Blk.new_at; (first | rfl | (simp; done))) | with_reducible apply Blk.store3 | with_reducible apply Blk.store4 | (with_reducible apply Blk.farp; (first | omega | (simp <;> omega))) | with_reducible apply Blk.allocp | with_reducible apply Blk.drew | with_reducible apply Blk.drewN))) hB1; have cM1 := hM1.cell; have fM1 := hM1.frozen; have lM1 := hM1.lt; have mM1 := Nat.ne_of_gt lM1; have nM1 := Nat.ne_of_lt lM1; have hR1 : Blk v1 (w.heap.size + 1 + 1) 35 #[.int .i64 0, .int .i64 0, .int .i64 0] := Blk.call (by (repeat (first | with_reducible assumption | (with_reducible apply Blk.new_at; (first | rfl | (simp; done))) | with_reducible apply Blk.store3 | with_reducible apply Blk.store4 | (with_reducible apply Blk.farp; (first | omega | (simp <;> omega))) | with_reducible apply Blk.allocp | with_reducible apply Blk.drew | with_reducible apply Blk.drewN))) hB1; have cR1 := hR1.cell; have fR1 := hR1.frozen; have lR1 := hR1.lt; have mR1 := Nat.ne_of_gt lR1; have nR1 := Nat.ne_of_lt lR1)
    | (go_at_call 112; (with_reducible refine (hMm.out _).mono ?_); rintro e v2 ⟨rfl, hB2⟩; have hZ2 := hB2.size; (try simp at hZ2); (try have zl2 : w.heap.size < v2.heap.size := by omega); (try have ze2 : w.heap.size ≤ v2.heap.size := by omega); (try have zn2 : ¬ w.heap.size = v2.heap.size := by omega); (try have zm2 : ¬ v2.heap.size = w.heap.size := by omega); have hA2 : Blk v2 (w.heap.size) 35 #[.int .i64 a, .int .i64 b, .int .i64 c] := Blk.call (by (repeat (first | with_reducible assumption | (with_reducible apply Blk.new_at; (first | rfl | (simp; done))) | with_reducible apply Blk.store3 | with_reducible apply Blk.store4 | (with_reducible apply Blk.farp; (first | omega | (simp <;> omega))) | with_reducible apply Blk.allocp | with_reducible apply Blk.drew | with_reducible apply Blk.drewN))) hB2; have cA2 := hA2.cell; have fA2 := hA2.frozen; have lA2 := hA2.lt; have mA2 := Nat.ne_of_gt lA2; have nA2 := Nat.ne_of_lt lA2; have hM2 : Blk v2 (w.heap.size + 1) 49 #[.int .i64 x, .int .i64 q, .int .i64 y, .int .i64 t] := Blk.call (by (repeat (first | with_reducible assumption | (with_reducible apply Blk.new_at; (first | rfl | (simp; done))) | with_reducible apply Blk.store3 | with_reducible apply Blk.store4 | (with_reducible apply Blk.farp; (first | omega | (simp <;> omega))) | with_reducible apply Blk.allocp | with_reducible apply Blk.drew | with_reducible apply Blk.drewN))) hB2; have cM2 := hM2.cell; have fM2 := hM2.frozen; have lM2 := hM2.lt; have mM2 := Nat.ne_of_gt lM2; have nM2 := Nat.ne_of_lt lM2; have hR2 : Blk v2 (w.heap.size + 1 + 1) 35 #[.int .i64 0, .int .i64 0, .int .i64 0] := Blk.call (by (repeat (first | with_reducible assumption | (with_reducible apply Blk.new_at; (first | rfl | (simp; done))) | with_reducible apply Blk.store3 | with_reducible apply Blk.store4 | (with_reducible apply Blk.farp; (first | omega | (simp <;> omega))) | with_reducible apply Blk.allocp | with_reducible apply Blk.drew | with_reducible apply Blk.drewN))) hB2; have cR2 := hR2.cell; have fR2 := hR2.frozen; have lR2 := hR2.lt; have mR2 := Nat.ne_of_gt lR2; have nR2 := Nat.ne_of_lt lR2)
    | (go_at_call 122; (with_reducible refine (hS.out _).mono ?_); rintro e v3 ⟨rfl, hB3⟩; have hZ3 := hB3.size; (try simp at hZ3); (try have zl3 : w.heap.size < v3.heap.size := by omega); (try have ze3 : w.heap.size ≤ v3.heap.size := by omega); (try have zn3 : ¬ w.heap.size = v3.heap.size := by omega); (try have zm3 : ¬ v3.heap.size = w.heap.size := by omega); have hR3 : Blk v3 (w.heap.size + 1 + 1) 35 #[.int .i64 0, .int .i64 0, .int .i64 0] := Blk.call (by (repeat (first | with_reducible assumption | (with_reducible apply Blk.new_at; (first | rfl | (simp; done))) | with_reducible apply Blk.store3 | with_reducible apply Blk.store4 | (with_reducible apply Blk.farp; (first | omega | (simp <;> omega))) | with_reducible apply Blk.allocp | with_reducible apply Blk.drew | with_reducible apply Blk.drewN))) hB3; have cR3 := hR3.cell; have fR3 := hR3.frozen; have lR3 := hR3.lt; have mR3 := Nat.ne_of_gt lR3; have nR3 := Nat.ne_of_lt lR3)
    | (go_at_call 110; (with_reducible refine (hGm.out _).mono ?_); rintro e v4 ⟨rfl, hB4⟩; have hZ4 := hB4.size; (try simp at hZ4); (try have zl4 : w.heap.size < v4.heap.size := by omega); (try have ze4 : w.heap.size ≤ v4.heap.size := by omega); (try have zn4 : ¬ w.heap.size = v4.heap.size := by omega); (try have zm4 : ¬ v4.heap.size = w.heap.size := by omega); have hR4 : Blk v4 (w.heap.size + 1 + 1) 35 #[.int .i64 0, .int .i64 0, .int .i64 0] := Blk.call (by (repeat (first | with_reducible assumption | (with_reducible apply Blk.new_at; (first | rfl | (simp; done))) | with_reducible apply Blk.store3 | with_reducible apply Blk.store4 | (with_reducible apply Blk.farp; (first | omega | (simp <;> omega))) | with_reducible apply Blk.allocp | with_reducible apply Blk.drew | with_reducible apply Blk.drewN))) hB4; have cR4 := hR4.cell; have fR4 := hR4.frozen; have lR4 := hR4.lt; have mR4 := Nat.ne_of_gt lR4; have nR4 := Nat.ne_of_lt lR4; have hG4 : Blk v4 (v3.heap.size) 35 #[.int .i64 A, .int .i64 B, .int .i64 C] := Blk.call (by (repeat (first | with_reducible assumption | (with_reducible apply Blk.new_at; (first | rfl | (simp; done))) | with_reducible apply Blk.store3 | with_reducible apply Blk.store4 | (with_reducible apply Blk.farp; (first | omega | (simp <;> omega))) | with_reducible apply Blk.allocp | with_reducible apply Blk.drew | with_reducible apply Blk.drewN))) hB4; have cG4 := hG4.cell; have fG4 := hG4.frozen; have lG4 := hG4.lt; have mG4 := Nat.ne_of_gt lG4; have nG4 := Nat.ne_of_lt lG4))
  exact bodyPost_ret (v := .tuple #[.agg #[.int .i64 A, .int .i64 B, .int .i64 C], .bool true]) (by simp [results, Try.results29, go_sem, *]) rfl ⟨rfl, (by repeat (first | with_reducible exact Below.refl _ _ | with_reducible assumption | with_reducible apply Below.drew | with_reducible apply below_drewN | (with_reducible apply below_setp; (first | omega | (simp <;> omega))) | (with_reducible apply below_allocp; (first | omega | (simp <;> omega))) | (with_reducible refine below_viap (by assumption) ?_ ?_; (first | omega | (simp <;> omega)))))⟩
set_option maxRecDepth 100000 in
theorem implSub_m (f g : Fm) (m : M4) (w : World) (hf : isDefB f.a f.b f.c = true) (hg : isDefB g.a g.b g.c = true) (hm : numM m = true) (h : actM f m = g) :
    Calls Try.prog 29 #[.agg #[.int .i64 f.a, .int .i64 f.b, .int .i64 f.c], .agg #[.int .i64 m.p, .int .i64 m.q, .int .i64 m.r, .int .i64 m.s]] w fun e w' => e = .returned (.tuple #[.agg #[.int .i64 g.a, .int .i64 g.b, .int .i64 g.c], .bool true]) ∧ Below w.heap.size w w' := by
  obtain ⟨k1, k2, k3⟩ := isFm_bd (idef_form hg)
  have e1 : atV f.a f.b f.c m.p m.r = g.a := atV_of (congrArg Fm.a h) k1
  have e2 : polV f.a f.b f.c m.p m.r m.q m.s = g.b := polV_of (congrArg Fm.b h) k2
  have e3 : atV f.a f.b f.c m.q m.s = g.c := atV_of (congrArg Fm.c h) k3
  exact implSub2_c f.a f.b f.c m.p m.q m.r m.s g.a g.b g.c w (idef_form hf) hm e1 e2 e3 (idef_form hg)
set_option maxHeartbeats 800000 in
theorem implDet_m (m : M4) (w : World) (hm : numM m = true) (h : m.det = 1) :
    Calls Try.prog 30 #[.agg #[.int .i64 m.p, .int .i64 m.q, .int .i64 m.r, .int .i64 m.s]] w fun e w' => e = .returned (.tuple #[.int .i64 1, .bool true]) ∧ Below w.heap.size w w' := by
  obtain ⟨k1, k2, k3, k4⟩ := numM_bd hm
  have hM := Lib.hid (fun w => isMx_any m w)
  have hD := Lib.hid (fun w => det_any m w (by omega) (by omega) (by omega) (by omega))
  rw [hm] at hM
  rw [h] at hD
  clear hm h k1 k2 k3 k4
  go_enter Try.func30, Try.ntmps30
  go_wp2_with (first
    | (go_at_call 112; (with_reducible refine (hM.out _).mono ?_); rintro e v1 ⟨rfl, hB1⟩; have hZ1 := hB1.size; (try simp at hZ1); (try have zl1 : w.heap.size < v1.heap.size := by omega); (try have ze1 : w.heap.size ≤ v1.heap.size := by omega); (try have zn1 : ¬ w.heap.size = v1.heap.size := by omega); (try have zm1 : ¬ v1.heap.size = w.heap.size := by omega); have hA1 : Blk v1 (w.heap.size) 49 #[.int .i64 m.p, .int .i64 m.q, .int .i64 m.r, .int .i64 m.s] := Blk.call (by (repeat (first | with_reducible assumption | (with_reducible apply Blk.new_at; (first | rfl | (simp; done))) | with_reducible apply Blk.store3 | with_reducible apply Blk.store4 | (with_reducible apply Blk.farp; (first | omega | (simp <;> omega))) | with_reducible apply Blk.allocp | with_reducible apply Blk.drew | with_reducible apply Blk.drewN))) hB1; have cA1 := hA1.cell; have fA1 := hA1.frozen; have lA1 := hA1.lt; have mA1 := Nat.ne_of_gt lA1; have nA1 := Nat.ne_of_lt lA1)
    | (go_at_call 123; (with_reducible refine (hD.out _).mono ?_); rintro e v2 ⟨rfl, hB2⟩; have hZ2 := hB2.size; (try simp at hZ2); (try have zl2 : w.heap.size < v2.heap.size := by omega); (try have ze2 : w.heap.size ≤ v2.heap.size := by omega); (try have zn2 : ¬ w.heap.size = v2.heap.size := by omega); (try have zm2 : ¬ v2.heap.size = w.heap.size := by omega); have hA2 : Blk v2 (w.heap.size) 49 #[.int .i64 m.p, .int .i64 m.q, .int .i64 m.r, .int .i64 m.s] := Blk.call (by (repeat (first | with_reducible assumption | (with_reducible apply Blk.new_at; (first | rfl | (simp; done))) | with_reducible apply Blk.store3 | with_reducible apply Blk.store4 | (with_reducible apply Blk.farp; (first | omega | (simp <;> omega))) | with_reducible apply Blk.allocp | with_reducible apply Blk.drew | with_reducible apply Blk.drewN))) hB2; have cA2 := hA2.cell; have fA2 := hA2.frozen; have lA2 := hA2.lt; have mA2 := Nat.ne_of_gt lA2; have nA2 := Nat.ne_of_lt lA2))
  go_ret2
  exact ⟨rfl, (by repeat (first | with_reducible exact Below.refl _ _ | with_reducible assumption | with_reducible apply Below.drew | with_reducible apply below_drewN | (with_reducible apply below_setp; (first | omega | (simp <;> omega))) | (with_reducible apply below_allocp; (first | omega | (simp <;> omega))) | (with_reducible refine below_viap (by assumption) ?_ ?_; (first | omega | (simp <;> omega)))))⟩
set_option maxHeartbeats 800000 in
theorem implDisc_f (f : Fm) (w : World) (h : isDefB f.a f.b f.c = true) :
    Calls Try.prog 34 #[.agg #[.int .i64 f.a, .int .i64 f.b, .int .i64 f.c]] w fun e w' => e = .returned (.tuple #[.int .i64 (disc f), .bool true]) ∧ Below w.heap.size w w' := by
  have hF := Lib.hid (fun w => IsForm_any f.a f.b f.c w)
  rw [idef_form h] at hF
  obtain ⟨p1, p2, p3⟩ := fm_prods (idef_form h)
  have hD := Lib.hid (fun w => idisc_any f.a f.b f.c w p1 p2 p3)
  have e : disc ⟨f.a, f.b, f.c⟩ = disc f := rfl
  rw [e] at hD
  clear h p1 p2 p3 e
  generalize disc f = D at *
  go_enter Try.func34, Try.ntmps34
  go_wp2_with (first
    | (go_at_call 110; (with_reducible refine (hF.out _).mono ?_); rintro e v1 ⟨rfl, hB1⟩; have hZ1 := hB1.size; (try simp at hZ1); (try have zl1 : w.heap.size < v1.heap.size := by omega); (try have ze1 : w.heap.size ≤ v1.heap.size := by omega); (try have zn1 : ¬ w.heap.size = v1.heap.size := by omega); (try have zm1 : ¬ v1.heap.size = w.heap.size := by omega); have hA1 : Blk v1 (w.heap.size) 35 #[.int .i64 f.a, .int .i64 f.b, .int .i64 f.c] := Blk.call (by (repeat (first | with_reducible assumption | (with_reducible apply Blk.new_at; (first | rfl | (simp; done))) | with_reducible apply Blk.store3 | with_reducible apply Blk.store4 | (with_reducible apply Blk.farp; (first | omega | (simp <;> omega))) | with_reducible apply Blk.allocp | with_reducible apply Blk.drew | with_reducible apply Blk.drewN))) hB1; have cA1 := hA1.cell; have fA1 := hA1.frozen; have lA1 := hA1.lt; have mA1 := Nat.ne_of_gt lA1; have nA1 := Nat.ne_of_lt lA1)
    | (go_at_call 128; (with_reducible refine (hD.out _).mono ?_); rintro e v2 ⟨rfl, hB2⟩; have hZ2 := hB2.size; (try simp at hZ2); (try have zl2 : w.heap.size < v2.heap.size := by omega); (try have ze2 : w.heap.size ≤ v2.heap.size := by omega); (try have zn2 : ¬ w.heap.size = v2.heap.size := by omega); (try have zm2 : ¬ v2.heap.size = w.heap.size := by omega); have hA2 : Blk v2 (w.heap.size) 35 #[.int .i64 f.a, .int .i64 f.b, .int .i64 f.c] := Blk.call (by (repeat (first | with_reducible assumption | (with_reducible apply Blk.new_at; (first | rfl | (simp; done))) | with_reducible apply Blk.store3 | with_reducible apply Blk.store4 | (with_reducible apply Blk.farp; (first | omega | (simp <;> omega))) | with_reducible apply Blk.allocp | with_reducible apply Blk.drew | with_reducible apply Blk.drewN))) hB2; have cA2 := hA2.cell; have fA2 := hA2.frozen; have lA2 := hA2.lt; have mA2 := Nat.ne_of_gt lA2; have nA2 := Nat.ne_of_lt lA2))
  go_ret2
  exact ⟨rfl, (by repeat (first | with_reducible exact Below.refl _ _ | with_reducible assumption | with_reducible apply Below.drew | with_reducible apply below_drewN | (with_reducible apply below_setp; (first | omega | (simp <;> omega))) | (with_reducible apply below_allocp; (first | omega | (simp <;> omega))) | (with_reducible refine below_viap (by assumption) ?_ ?_; (first | omega | (simp <;> omega)))))⟩
def prB (f : Fm) : Bool := ((Int.gcd f.a (Int.gcd f.b f.c) : Int) == 1)
set_option maxHeartbeats 800000 in
theorem implPrim_f (f : Fm) (w : World) (h : isDefB f.a f.b f.c = true) :
    Calls Try.prog 35 #[.agg #[.int .i64 f.a, .int .i64 f.b, .int .i64 f.c]] w fun e w' => e = .returned (.tuple #[.bool (prB f), .bool true]) ∧ Below w.heap.size w w' := by
  have hF := Lib.hid (fun w => IsForm_any f.a f.b f.c w)
  rw [idef_form h] at hF
  obtain ⟨⟨fa1, fa2⟩, ⟨fb1, fb2⟩, ⟨fc1, fc2⟩⟩ := isFm_bd (idef_form h)
  have hC := Lib.hid (fun w => content_any f.a f.b f.c w ⟨by omega, by omega⟩ ⟨by omega, by omega⟩ ⟨by omega, by omega⟩)
  unfold prB
  clear h fa1 fa2 fb1 fb2 fc1 fc2
  generalize (Int.gcd f.a (Int.gcd f.b f.c) : Int) = D at *
  go_enter Try.func35, Try.ntmps35
  go_wp2_with (first
    | (go_at_call 110; (with_reducible refine (hF.out _).mono ?_); rintro e v1 ⟨rfl, hB1⟩; have hZ1 := hB1.size; (try simp at hZ1); (try have zl1 : w.heap.size < v1.heap.size := by omega); (try have ze1 : w.heap.size ≤ v1.heap.size := by omega); (try have zn1 : ¬ w.heap.size = v1.heap.size := by omega); (try have zm1 : ¬ v1.heap.size = w.heap.size := by omega); have hA1 : Blk v1 (w.heap.size) 35 #[.int .i64 f.a, .int .i64 f.b, .int .i64 f.c] := Blk.call (by (repeat (first | with_reducible assumption | (with_reducible apply Blk.new_at; (first | rfl | (simp; done))) | with_reducible apply Blk.store3 | with_reducible apply Blk.store4 | (with_reducible apply Blk.farp; (first | omega | (simp <;> omega))) | with_reducible apply Blk.allocp | with_reducible apply Blk.drew | with_reducible apply Blk.drewN))) hB1; have cA1 := hA1.cell; have fA1 := hA1.frozen; have lA1 := hA1.lt; have mA1 := Nat.ne_of_gt lA1; have nA1 := Nat.ne_of_lt lA1)
    | (go_at_call 129; (with_reducible refine (hC.out _).mono ?_); rintro e v2 ⟨rfl, hB2⟩; have hZ2 := hB2.size; (try simp at hZ2); (try have zl2 : w.heap.size < v2.heap.size := by omega); (try have ze2 : w.heap.size ≤ v2.heap.size := by omega); (try have zn2 : ¬ w.heap.size = v2.heap.size := by omega); (try have zm2 : ¬ v2.heap.size = w.heap.size := by omega); have hA2 : Blk v2 (w.heap.size) 35 #[.int .i64 f.a, .int .i64 f.b, .int .i64 f.c] := Blk.call (by (repeat (first | with_reducible assumption | (with_reducible apply Blk.new_at; (first | rfl | (simp; done))) | with_reducible apply Blk.store3 | with_reducible apply Blk.store4 | (with_reducible apply Blk.farp; (first | omega | (simp <;> omega))) | with_reducible apply Blk.allocp | with_reducible apply Blk.drew | with_reducible apply Blk.drewN))) hB2; have cA2 := hA2.cell; have fA2 := hA2.frozen; have lA2 := hA2.lt; have mA2 := Nat.ne_of_gt lA2; have nA2 := Nat.ne_of_lt lA2))
  go_ret2
  exact ⟨rfl, (by repeat (first | with_reducible exact Below.refl _ _ | with_reducible assumption | with_reducible apply Below.drew | with_reducible apply below_drewN | (with_reducible apply below_setp; (first | omega | (simp <;> omega))) | (with_reducible apply below_allocp; (first | omega | (simp <;> omega))) | (with_reducible refine below_viap (by assumption) ?_ ?_; (first | omega | (simp <;> omega)))))⟩
def acN (d : Int) : Int := if d = -3 then 6 else if d = -4 then 4 else 2
/-- What AutomorphCount answers. -/
def AcR (d n : Int) (ok : Bool) : Prop := (isDisc d = false ∧ n = 0 ∧ ok = false) ∨ (isDisc d = true ∧ n = acN d ∧ ok = true)
set_option maxHeartbeats 800000 in
theorem autN_any (d : Int) (w : World) (h : isDisc d = true) :
    Calls Try.prog 16 #[.int .i64 d] w fun e w' => e = .returned (.tuple #[.int .i64 (acN d), .bool true]) ∧ w = w' := by
  unfold acN
  by_cases h3 : d = -3
  · subst h3
    go_enter Try.func16, Try.ntmps16
    go_wp2_with (go_at_call 86; (with_reducible refine (negDisc_eq (-3) true _ h).mono ?_); rintro e v ⟨rfl, rfl⟩)
    go_ret2
    exact ⟨rfl, rfl⟩
  · rw [if_neg h3]
    have e3 : (d == -3) = false := by rw [beq_eq_false_iff_ne]; exact h3
    by_cases h4 : d = -4
    · subst h4
      go_enter Try.func16, Try.ntmps16
      go_wp2_with (go_at_call 86; (with_reducible refine (negDisc_eq (-4) true _ h).mono ?_); rintro e v ⟨rfl, rfl⟩)
      go_ret2
      exact ⟨rfl, rfl⟩
    · rw [if_neg h4]
      have e4 : (d == -4) = false := by rw [beq_eq_false_iff_ne]; exact h4
      go_enter Try.func16, Try.ntmps16
      go_wp2_with (go_at_call 86; (with_reducible refine (negDisc_eq d true _ h).mono ?_); rintro e v ⟨rfl, rfl⟩)
      go_ret2
      exact ⟨rfl, rfl⟩
set_option maxHeartbeats 800000 in
theorem implAC2_any (d n : Int) (ok : Bool) (w : World) (h : AcR d n ok) :
    Calls Try.prog 16 #[.int .i64 d] w fun e w' => e = .returned (.tuple #[.int .i64 n, .bool ok]) ∧ w = w' := by
  rcases h with ⟨h1, rfl, rfl⟩ | ⟨h1, rfl, rfl⟩
  · go_enter Try.func16, Try.ntmps16
    go_wp2_with (go_at_call 86; (with_reducible refine (negDisc_eq d false _ h1).mono ?_); rintro e v ⟨rfl, rfl⟩)
    go_ret2
    exact ⟨rfl, rfl⟩
  · exact autN_any d w h1
end Go.Proofs.Yteicampphegolaa
