/- Contracts of GenusValues, of the program and of the reference. -/
import Derived.Test.YtjfcaafmlghjlaaNB
import Derived.Test.YtjfcaafmlghjlaaN11
import Derived.Test.YtjfcaafmlghjlaaUB
namespace Go.Proofs.Ytjfcaafmlghjlaa
open Go.RowKit

/-- The first point whose value is coprime to 2d, and this value. -/
structure GP (d : Int) (f : Fm) (x y v : Int) : Prop where
  pt : MinPt (Good f.a f.b f.c (2 * d)) x y
  hx : x ≤ 4000
  hy : y ≤ 4000
  hv : v = atF f.a f.b f.c x y
  v0 : 0 ≤ v
  v1 : v ≤ 400000000000
theorem GP.ex {d : Int} {f : Fm} (D : Dsc d) (hf : f ∈ clsL d) : ∃ x y v, GP d f x y v := by
  obtain ⟨⟨A1, A2⟩, ⟨B1, B2⟩, ⟨C1, C2⟩⟩ := cls_bd D.lo hf
  obtain ⟨⟨_, _, f3, f4, _⟩, f5⟩ := mem_clsL D.lo hf
  have hlo := D.lo
  have hhi := D.hi
  obtain ⟨X, Y, hX, hY, hXY, hV⟩ := pt_any (n := 2 * d) (by omega) f5
  have hgd : Good f.a f.b f.c (2 * d) X Y := ⟨hXY, by unfold atF; exact hV⟩
  obtain ⟨x, y, hpt, hmx⟩ := good_min (max X Y).toNat hX.1 hY.1 (by omega) hgd
  have hpt' := hpt
  obtain ⟨x0, y0, ⟨hxy, hv⟩, _⟩ := hpt
  have hx3 : x ≤ 4000 := by omega
  have hy3 : y ≤ 4000 := by omega
  have he0 : 0 < atF f.a f.b f.c x y := by
    have := (fv_min (g := f) (p := x) (r := -y) (by omega) (by have := (isRed_iff _ _ _).1 f4; omega) (by have := (isRed_iff _ _ _).1 f4; omega) (by have := (isRed_iff _ _ _).1 f4; omega) (by
      rintro ⟨h1, h2⟩
      have h3 : y = 0 := by omega
      rw [h1, h3] at hxy; simp at hxy)).1
    have e2 : fv f x (-y) = atF f.a f.b f.c x y := by unfold fv atF; grind
    omega
  have hb := at_bd (a := f.a) (b := f.b) (c := f.c) (x := x) (y := y) ⟨by omega, by omega⟩ ⟨by omega, by omega⟩ ⟨by omega, by omega⟩ ⟨by omega, by omega⟩ ⟨by omega, by omega⟩
  exact ⟨x, y, _, hpt', hx3, hy3, rfl, by omega, hb.2⟩
theorem firstPoint_gp (d : Int) (f : Fm) (x y v : Int) (w : World) (D : Dsc d) (hf : f ∈ clsL d) (h : GP d f x y v) :
    Calls Try.prog 314 #[.agg #[.int .i64 f.a, .int .i64 f.b, .int .i64 f.c], .int .i64 (2 * d)] w fun e w' => e = .returned (.tuple #[.int .i64 x, .int .i64 y]) ∧ Below w.heap.size w w' := by
  obtain ⟨⟨A1, A2⟩, ⟨B1, B2⟩, ⟨C1, C2⟩⟩ := cls_bd D.lo hf
  have hlo := D.lo
  have hhi := D.hi
  have hp := h.pt
  obtain ⟨x0, y0, hg, _⟩ := h.pt
  have h1 := h.hx
  have h2 := h.hy
  refine (firstPoint_any f.a f.b f.c (2 * d) x y 4000 w ⟨by omega, by omega⟩ ⟨by omega, by omega⟩ ⟨by omega, by omega⟩ ⟨by omega, by omega⟩ ⟨x0, h1⟩ ⟨y0, h2⟩ (by omega) hg).mono ?_
  rintro e w' ⟨x', y', rfl, hm, hb⟩
  obtain ⟨rfl, rfl⟩ := hm.uniq hp
  exact ⟨rfl, hb⟩
theorem at_gp (d : Int) (f : Fm) (x y v : Int) (w : World) (D : Dsc d) (hf : f ∈ clsL d) (h : GP d f x y v) :
    Calls Try.prog 224 #[.agg #[.int .i64 f.a, .int .i64 f.b, .int .i64 f.c], .int .i64 x, .int .i64 y] w fun e w' => e = .returned (.int .i64 v) ∧ Below w.heap.size w w' := by
  obtain ⟨⟨A1, A2⟩, ⟨B1, B2⟩, ⟨C1, C2⟩⟩ := cls_bd D.lo hf
  obtain ⟨x0, y0, hg, _⟩ := h.pt
  have h1 := h.hx
  have h2 := h.hy
  rw [h.hv]
  exact at_any _ _ _ _ _ w (at_small ⟨by omega, by omega⟩ ⟨by omega, by omega⟩ ⟨by omega, by omega⟩ ⟨x0, by omega⟩ ⟨y0, by omega⟩)
theorem chValue_gp (d : Int) (f : Fm) (x y v : Int) (w : World) (D : Dsc d) (hf : f ∈ clsL d) (h : GP d f x y v) :
    Calls Try.prog 296 #[.agg #[.int .i64 f.a, .int .i64 f.b, .int .i64 f.c]] w fun e w' => e = .returned (.int .i64 v) ∧ Below w.heap.size w w' := by
  obtain ⟨⟨A1, A2⟩, ⟨B1, B2⟩, ⟨C1, C2⟩⟩ := cls_bd D.lo hf
  obtain ⟨⟨_, _, f3, f4, _⟩, f5⟩ := mem_clsL D.lo hf
  have hlo := D.lo
  have hhi := D.hi
  have hp := h.pt
  obtain ⟨x0, y0, hg, _⟩ := h.pt
  have h1 := h.hx
  have h2 := h.hy
  refine (chValueF_any f.a f.b f.c d x y 4000 w ⟨by omega, by omega⟩ ⟨by omega, by omega⟩ ⟨by omega, by omega⟩ ⟨by omega, by omega⟩ f3 ⟨x0, h1⟩ ⟨y0, h2⟩ (by omega) hg.2).mono ?_
  rintro e w' ⟨x', y', rfl, hm, hb⟩
  obtain ⟨rfl, rfl⟩ := (goodV_min (by omega) hm).uniq hp
  rw [h.hv]
  exact ⟨rfl, hb⟩

set_option maxRecDepth 100000 in
set_option maxHeartbeats 800000 in
theorem genusValues_any (d : Int) (f0 f : Fm) (x y v : Int) (w : World) (cf : CF d f0 f) (h : GP d f x y v) :
    Calls Try.prog 298 #[.agg #[.int .i64 f0.a, .int .i64 f0.b, .int .i64 f0.c]] w (RetI (vals (-d) v) w) := by
  have hR := Lib.hid (fun w => reduced_cf d f0 f w cf)
  have hD := Lib.hid (fun w => disc_cf d f f w (CF.of_mem cf.D cf.mem))
  have hF := Lib.hid (fun w => firstPoint_gp d f x y v w cf.D cf.mem h)
  have hA := Lib.hid (fun w => at_gp d f x y v w cf.D cf.mem h)
  have hlo := cf.D.lo
  have hhi := cf.D.hi
  have hV := Lib.hid (fun w => valuesAt_any d v w (by omega) (by omega) (by have := h.v0; omega) (by have := h.v1; omega))
  have hw1 : IntKind.i64.wrap (2 * d) = 2 * d := IntWalk.i64_in _ (by omega)
  clear cf h
  generalize vals (-d) v = L at *
  go_enter Try.func298, Try.ntmps298
  go_wp2_with (first
    | (go_at_call 134; (with_reducible refine (hR.out _).mono ?_); rintro e v1 ⟨rfl, hB1⟩; have hZ1 := hB1.size; (try simp at hZ1); (try have zl1 : w.heap.size < v1.heap.size := by omega); (try have ze1 : w.heap.size ≤ v1.heap.size := by omega); (try have zn1 : ¬ w.heap.size = v1.heap.size := by omega); (try have zm1 : ¬ v1.heap.size = w.heap.size := by omega); have hC1_0 := fun o => (calm_cells hB1).1 (w.heap.size) o (by first | omega | (simp <;> omega)); have hF1_0 := fun o => (calm_cells hB1).2 (w.heap.size) o (by first | omega | (simp <;> omega)); (try have hl1_0 : w.heap.size < v1.heap.size := by omega); (try have hm1_0 : ¬ w.heap.size = v1.heap.size := by omega); (try have hn1_0 : ¬ v1.heap.size = w.heap.size := by omega))
    | (go_at_call 145; (with_reducible refine (hD.out _).mono ?_); rintro e v2 ⟨rfl, hB2⟩; have hZ2 := hB2.size; (try simp at hZ2); (try have zl2 : w.heap.size < v2.heap.size := by omega); (try have ze2 : w.heap.size ≤ v2.heap.size := by omega); (try have zn2 : ¬ w.heap.size = v2.heap.size := by omega); (try have zm2 : ¬ v2.heap.size = w.heap.size := by omega); have hR2 : Blk v2 (v1.heap.size) 35 #[.int .i64 f.a, .int .i64 f.b, .int .i64 f.c] := Blk.call (by (repeat (first | with_reducible assumption | (with_reducible apply Blk.new_at; (first | rfl | (simp; done))) | with_reducible apply Blk.store3 | with_reducible apply Blk.store4 | (with_reducible apply Blk.farp; (first | omega | (simp <;> omega))) | with_reducible apply Blk.allocp | with_reducible apply Blk.drew | with_reducible apply Blk.drewN))) hB2; have cR2 := hR2.cell; have fR2 := hR2.frozen; have lR2 := hR2.lt; have mR2 := Nat.ne_of_gt lR2; have nR2 := Nat.ne_of_lt lR2)
    | (go_at_call 314; (with_reducible refine (hF.out _).mono ?_); rintro e v3 ⟨rfl, hB3⟩; have hZ3 := hB3.size; (try simp at hZ3); (try have zl3 : w.heap.size < v3.heap.size := by omega); (try have ze3 : w.heap.size ≤ v3.heap.size := by omega); (try have zn3 : ¬ w.heap.size = v3.heap.size := by omega); (try have zm3 : ¬ v3.heap.size = w.heap.size := by omega); have hR3 : Blk v3 (v1.heap.size) 35 #[.int .i64 f.a, .int .i64 f.b, .int .i64 f.c] := Blk.call (by (repeat (first | with_reducible assumption | (with_reducible apply Blk.new_at; (first | rfl | (simp; done))) | with_reducible apply Blk.store3 | with_reducible apply Blk.store4 | (with_reducible apply Blk.farp; (first | omega | (simp <;> omega))) | with_reducible apply Blk.allocp | with_reducible apply Blk.drew | with_reducible apply Blk.drewN))) hB3; have cR3 := hR3.cell; have fR3 := hR3.frozen; have lR3 := hR3.lt; have mR3 := Nat.ne_of_gt lR3; have nR3 := Nat.ne_of_lt lR3)
    | (go_at_call 224; (with_reducible refine (hA.out _).mono ?_); rintro e v4 ⟨rfl, hB4⟩; have hZ4 := hB4.size; (try simp at hZ4); (try have zl4 : w.heap.size < v4.heap.size := by omega); (try have ze4 : w.heap.size ≤ v4.heap.size := by omega); (try have zn4 : ¬ w.heap.size = v4.heap.size := by omega); (try have zm4 : ¬ v4.heap.size = w.heap.size := by omega); have hR4 : Blk v4 (v1.heap.size) 35 #[.int .i64 f.a, .int .i64 f.b, .int .i64 f.c] := Blk.call (by (repeat (first | with_reducible assumption | (with_reducible apply Blk.new_at; (first | rfl | (simp; done))) | with_reducible apply Blk.store3 | with_reducible apply Blk.store4 | (with_reducible apply Blk.farp; (first | omega | (simp <;> omega))) | with_reducible apply Blk.allocp | with_reducible apply Blk.drew | with_reducible apply Blk.drewN))) hB4; have cR4 := hR4.cell; have fR4 := hR4.frozen; have lR4 := hR4.lt; have mR4 := Nat.ne_of_gt lR4; have nR4 := Nat.ne_of_lt lR4)
    | (go_at_call 328; refine (hV.out _).mono ?_; rintro e v5 ⟨vl, rfl, howl, hB5⟩; have hZ5 := hB5.size))
  go_ret
  exact ⟨_, rfl, own_base (by omega) howl, (by repeat (first | with_reducible exact Below.refl _ _ | with_reducible assumption | with_reducible apply Below.drew | with_reducible apply below_drewN | (with_reducible apply below_setp; (first | omega | (simp <;> omega))) | (with_reducible apply below_allocp; (first | omega | (simp <;> omega))) | (with_reducible refine below_viap (by assumption) ?_ ?_; (first | omega | (simp <;> omega)))))⟩

set_option maxRecDepth 100000 in
set_option maxHeartbeats 800000 in
theorem chOf_any (d : Int) (f0 f : Fm) (x y v : Int) (w : World) (cf : CF d f0 f) (h : GP d f x y v) :
    Calls Try.prog 199 #[.agg #[.int .i64 f0.a, .int .i64 f0.b, .int .i64 f0.c]] w (RetI (vals (-d) v) w) := by
  have hR := Lib.hid (fun w => reClass_cf d f0 f w cf)
  have hD := Lib.hid (fun w => foDisc_cf d f0 f w cf)
  have hA := Lib.hid (fun w => chValue_gp d f x y v w cf.D cf.mem h)
  have hlo := cf.D.lo
  have hhi := cf.D.hi
  have hV := Lib.hid (fun w => chList_any d v w (by omega) (by omega) (by have := h.v0; omega) (by have := h.v1; omega))
  clear cf h
  generalize vals (-d) v = L at *
  go_enter Try.func199, Try.ntmps199
  go_wp2
  refine wp_region_calm 5 (Below (w.heap.size + 1) _) (by kernel_rfl) (by kernel_rfl) ((Below.refl _ _).drew) ?_
  simp only [List.take_succ_cons, List.take_zero, List.drop_succ_cons, List.drop_zero]
  repeat (first | (apply wpCalm_go; go_simp; (intro w' hw' hcc hff; go_simp; first | exact rfl | ((with_reducible refine (show Calls _ _ _ _ _ from by first | exact hR.out _ | exact hD.out _ | exact hA.out _).mono ?_); rintro ee w1 ⟨rfl, hb⟩; exact ⟨rfl, calm_call (by simp <;> omega) hw' hb⟩)); (intro K hK; go_simp; refine hK _ ?_; clear hK K)) | (apply wpCalm_skip; go_simp; (intro K hK; go_simp; refine hK _ ?_; clear hK K)))
  refine wpCalm_nil ?_
  intro w1 hw1
  have hcc := (calm_cells hw1).1
  have hff := (calm_cells hw1).2
  have hss := calm_size hw1
  have hsz := hw1.size
  (try simp at hsz)
  go_wp2_with (go_at_call 295; refine (hV.out _).mono ?_; rintro e v5 ⟨vl, rfl, howl, hB5⟩; have hZ5 := hB5.size)
  go_ret
  exact ⟨_, rfl, own_base (by omega) howl, (by repeat (first | with_reducible exact Below.refl _ _ | with_reducible assumption | with_reducible apply Below.drew | with_reducible apply below_drewN | (with_reducible apply below_setp; (first | omega | (simp <;> omega))) | (with_reducible apply below_allocp; (first | omega | (simp <;> omega))) | (with_reducible refine below_viap (by assumption) ?_ ?_; (first | omega | (simp <;> omega)))))⟩
/-- A list of integers in new memory comes back, and a truth value. -/
def RetI2 (L : List Int) (ok : Bool) (w : World) (e : Ending) (w' : World) : Prop := ∃ v, e = .returned (.tuple #[v, .bool ok]) ∧ w'.ownsRow w.heap.size 3 1 v L.length (cellsI L) ∧ Below w.heap.size w w'
/-- What GenusValues gives. -/
def GenV (a b c : Int) (L : List Int) (ok : Bool) : Prop :=
  (isCls a b c = false ∧ L = [] ∧ ok = false) ∨
  (isCls a b c = true ∧ ∃ x y v, GP (disc ⟨a, b, c⟩) (red ⟨a, b, c⟩) x y v ∧ L = vals (-disc ⟨a, b, c⟩) v ∧ ok = true)
theorem genV_ex (a b c : Int) : ∃ L ok, GenV a b c L ok ∧ L.length ≤ 10000000 := by
  cases hc : isCls a b c with
  | false => exact ⟨_, _, .inl ⟨hc, rfl, rfl⟩, by simp⟩
  | true =>
    have cf := CF.of_cls hc
    obtain ⟨x, y, v, h⟩ := GP.ex cf.D cf.mem
    have hlo := cf.D.lo
    exact ⟨_, _, .inr ⟨hc, x, y, v, h, rfl, rfl⟩, Nat.le_trans (vals_len _ _ (by omega)) (by decide)⟩

end Go.Proofs.Ytjfcaafmlghjlaa
