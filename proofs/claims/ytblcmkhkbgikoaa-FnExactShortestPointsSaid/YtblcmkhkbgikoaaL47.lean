/- For every form and lattice, the program's ShortestPoints returns what the reference's returns, in a list of its own that a second call leaves alone (the law FnExactShortestPoints returns true and leaves its arguments alone). Conditions: none. (written by gen_L47.py) -/
import Derived.Test.YtblcmkhkbgikoaaI6
import Derived.Test.YtblcmkhkbgikoaaW2
namespace Go.Proofs.Ytblcmkhkbgikoaa
open Go.RowKit Go.ChangeShapes Go.WideShapes Go.ChangeAt Go.Joins

set_option maxRecDepth 100000 in
set_option maxHeartbeats 6400000 in
theorem walk_FnExactShortestPoints (a b c A B D : Int) (w : World) :
    Calls Try.prog 3 #[.agg #[.int .i64 a, .int .i64 b, .int .i64 c], .agg #[.int .i64 A, .int .i64 B, .int .i64 D]] w fun e w' => e = .returned (.bool true) ∧ Below w.heap.size w w' := by
  obtain ⟨x, ok, P, hu, hl, hS, hI⟩ := sp_both ⟨a, b, c⟩ A B D
  have HS := Lib.hid hS
  have HI := Lib.hid hI
  have HU := Lib.hid hu
  have HL := Lib.hid hl
  unfold RetG at HS HI
  clear hS hI hu hl
  go_enter Try.func3, Try.ntmps3
  cases ok
  all_goals
    go_upto_region 1 with (fail)
    go_region_held3 (fun w' => w'.cell? ⟨w.heap.size, 0, none⟩ = some (.int .i64 a) ∧ w'.cell? ⟨w.heap.size, 1, none⟩ = some (.int .i64 b) ∧ w'.cell? ⟨w.heap.size, 2, none⟩ = some (.int .i64 c) ∧ w'.cell? ⟨w.heap.size + 1, 0, none⟩ = some (.int .i64 A) ∧ w'.cell? ⟨w.heap.size + 1, 1, none⟩ = some (.int .i64 B) ∧ w'.cell? ⟨w.heap.size + 1, 2, none⟩ = some (.int .i64 D)) (first | (go_keep; done) | (go_simp; done)) (first | (go_at_call 5; (with_reducible refine (toForm_any a b c _).mono ?_); rintro e v2a ⟨rfl, hb2a⟩; have hz2a := hb2a.size; (try simp at hz2a); have hX2a : Blk v2a w.heap.size 23 #[.int .i64 a, .int .i64 b, .int .i64 c] := Blk.call (by (repeat (first | with_reducible assumption | (with_reducible apply Blk.new_at; (first | rfl | (simp; done))) | with_reducible apply Blk.store3 | with_reducible apply Blk.store4 | (with_reducible apply Blk.farp; (first | omega | (simp <;> omega))) | with_reducible apply Blk.allocp | with_reducible apply Blk.drew | with_reducible apply Blk.drewN))) hb2a; have hY2a : Blk v2a (w.heap.size + 1) 25 #[.int .i64 A, .int .i64 B, .int .i64 D] := Blk.call (by (repeat (first | with_reducible assumption | (with_reducible apply Blk.new_at; (first | rfl | (simp; done))) | with_reducible apply Blk.store3 | with_reducible apply Blk.store4 | (with_reducible apply Blk.farp; (first | omega | (simp <;> omega))) | with_reducible apply Blk.allocp | with_reducible apply Blk.drew | with_reducible apply Blk.drewN))) hb2a; have cX2a := hX2a.cell; have fX2a := hX2a.frozen; have lX2a := hX2a.lt; have cY2a := hY2a.cell; have fY2a := hY2a.frozen; have lY2a := hY2a.lt; have bel2a : Below w.heap.size w v2a := below_via (by repeat (first | with_reducible exact Below.refl _ _ | with_reducible assumption | with_reducible apply Below.drew | with_reducible apply below_drewN | (with_reducible apply below_setp; (first | omega | (simp <;> omega))) | (with_reducible apply below_allocp; (first | omega | (simp <;> omega))) | (with_reducible refine below_viap (by assumption) ?_ ?_; (first | omega | (simp <;> omega))))) hb2a (by first | omega | (simp <;> omega))) | (go_at_call 6; (with_reducible refine (toLattice_any A B D _).mono ?_); rintro e v2b ⟨rfl, hb2b⟩; have hz2b := hb2b.size; (try simp at hz2b); have hX2b : Blk v2b w.heap.size 23 #[.int .i64 a, .int .i64 b, .int .i64 c] := Blk.call (by (repeat (first | with_reducible assumption | (with_reducible apply Blk.new_at; (first | rfl | (simp; done))) | with_reducible apply Blk.store3 | with_reducible apply Blk.store4 | (with_reducible apply Blk.farp; (first | omega | (simp <;> omega))) | with_reducible apply Blk.allocp | with_reducible apply Blk.drew | with_reducible apply Blk.drewN))) hb2b; have hY2b : Blk v2b (w.heap.size + 1) 25 #[.int .i64 A, .int .i64 B, .int .i64 D] := Blk.call (by (repeat (first | with_reducible assumption | (with_reducible apply Blk.new_at; (first | rfl | (simp; done))) | with_reducible apply Blk.store3 | with_reducible apply Blk.store4 | (with_reducible apply Blk.farp; (first | omega | (simp <;> omega))) | with_reducible apply Blk.allocp | with_reducible apply Blk.drew | with_reducible apply Blk.drewN))) hb2b; have cX2b := hX2b.cell; have fX2b := hX2b.frozen; have lX2b := hX2b.lt; have cY2b := hY2b.cell; have fY2b := hY2b.frozen; have lY2b := hY2b.lt; have bel2b : Below w.heap.size w v2b := below_via (by repeat (first | with_reducible exact Below.refl _ _ | with_reducible assumption | with_reducible apply Below.drew | with_reducible apply below_drewN | (with_reducible apply below_setp; (first | omega | (simp <;> omega))) | (with_reducible apply below_allocp; (first | omega | (simp <;> omega))) | (with_reducible refine below_viap (by assumption) ?_ ?_; (first | omega | (simp <;> omega))))) hb2b (by first | omega | (simp <;> omega))) | (go_at_call 4; (with_reducible refine (HS.out _).mono ?_); rintro e v2 ⟨K, vs, rfl, hK, hs2, hb2⟩; have hz2 := hb2.size; (try simp at hz2); have hX2 : Blk v2 w.heap.size 23 #[.int .i64 a, .int .i64 b, .int .i64 c] := hX2b.call hb2; have hY2 : Blk v2 (w.heap.size + 1) 25 #[.int .i64 A, .int .i64 B, .int .i64 D] := hY2b.call hb2; have cX2 := hX2.cell; have fX2 := hX2.frozen; have lX2 := hX2.lt; have cY2 := hY2.cell; have fY2 := hY2.frozen; have lY2 := hY2.lt; have bel2 : Below w.heap.size w v2 := below_via bel2b hb2 (by omega)))
    clear cX2a fX2a lX2a cY2a fY2a lY2a
    clear cX2b fX2b lX2b cY2b fY2b lY2b
    have hlen := HL.out K hK
    go_upto_region 2 with (fail)
    go_region_held3 (fun w' => w'.cell? ⟨w.heap.size, 0, none⟩ = some (.int .i64 a) ∧ w'.cell? ⟨w.heap.size, 1, none⟩ = some (.int .i64 b) ∧ w'.cell? ⟨w.heap.size, 2, none⟩ = some (.int .i64 c) ∧ w'.cell? ⟨w.heap.size + 1, 0, none⟩ = some (.int .i64 A) ∧ w'.cell? ⟨w.heap.size + 1, 1, none⟩ = some (.int .i64 B) ∧ w'.cell? ⟨w.heap.size + 1, 2, none⟩ = some (.int .i64 D)) (first | (go_keep; done) | (go_simp; done)) (first | (go_at_call 5; (with_reducible refine (toForm_any a b c _).mono ?_); rintro e v4a ⟨rfl, hb4a⟩; have hz4a := hb4a.size; (try simp at hz4a); have hX4a : Blk v4a w.heap.size 23 #[.int .i64 a, .int .i64 b, .int .i64 c] := Blk.call (by (repeat (first | with_reducible assumption | (with_reducible apply Blk.new_at; (first | rfl | (simp; done))) | with_reducible apply Blk.store3 | with_reducible apply Blk.store4 | (with_reducible apply Blk.farp; (first | omega | (simp <;> omega))) | with_reducible apply Blk.allocp | with_reducible apply Blk.drew | with_reducible apply Blk.drewN))) hb4a; have hY4a : Blk v4a (w.heap.size + 1) 25 #[.int .i64 A, .int .i64 B, .int .i64 D] := Blk.call (by (repeat (first | with_reducible assumption | (with_reducible apply Blk.new_at; (first | rfl | (simp; done))) | with_reducible apply Blk.store3 | with_reducible apply Blk.store4 | (with_reducible apply Blk.farp; (first | omega | (simp <;> omega))) | with_reducible apply Blk.allocp | with_reducible apply Blk.drew | with_reducible apply Blk.drewN))) hb4a; have cX4a := hX4a.cell; have fX4a := hX4a.frozen; have lX4a := hX4a.lt; have cY4a := hY4a.cell; have fY4a := hY4a.frozen; have lY4a := hY4a.lt; have bel4a : Below w.heap.size w v4a := below_via (by repeat (first | with_reducible exact Below.refl _ _ | with_reducible assumption | with_reducible apply Below.drew | with_reducible apply below_drewN | (with_reducible apply below_setp; (first | omega | (simp <;> omega))) | (with_reducible apply below_allocp; (first | omega | (simp <;> omega))) | (with_reducible refine below_viap (by assumption) ?_ ?_; (first | omega | (simp <;> omega))))) hb4a (by first | omega | (simp <;> omega))) | (go_at_call 6; (with_reducible refine (toLattice_any A B D _).mono ?_); rintro e v4b ⟨rfl, hb4b⟩; have hz4b := hb4b.size; (try simp at hz4b); have hX4b : Blk v4b w.heap.size 23 #[.int .i64 a, .int .i64 b, .int .i64 c] := Blk.call (by (repeat (first | with_reducible assumption | (with_reducible apply Blk.new_at; (first | rfl | (simp; done))) | with_reducible apply Blk.store3 | with_reducible apply Blk.store4 | (with_reducible apply Blk.farp; (first | omega | (simp <;> omega))) | with_reducible apply Blk.allocp | with_reducible apply Blk.drew | with_reducible apply Blk.drewN))) hb4b; have hY4b : Blk v4b (w.heap.size + 1) 25 #[.int .i64 A, .int .i64 B, .int .i64 D] := Blk.call (by (repeat (first | with_reducible assumption | (with_reducible apply Blk.new_at; (first | rfl | (simp; done))) | with_reducible apply Blk.store3 | with_reducible apply Blk.store4 | (with_reducible apply Blk.farp; (first | omega | (simp <;> omega))) | with_reducible apply Blk.allocp | with_reducible apply Blk.drew | with_reducible apply Blk.drewN))) hb4b; have cX4b := hX4b.cell; have fX4b := hX4b.frozen; have lX4b := hX4b.lt; have cY4b := hY4b.cell; have fY4b := hY4b.frozen; have lY4b := hY4b.lt; have bel4b : Below w.heap.size w v4b := below_via (by repeat (first | with_reducible exact Below.refl _ _ | with_reducible assumption | with_reducible apply Below.drew | with_reducible apply below_drewN | (with_reducible apply below_setp; (first | omega | (simp <;> omega))) | (with_reducible apply below_allocp; (first | omega | (simp <;> omega))) | (with_reducible refine below_viap (by assumption) ?_ ?_; (first | omega | (simp <;> omega))))) hb4b (by first | omega | (simp <;> omega))) | (go_at_call 7; (with_reducible refine (HI.out _).mono ?_); rintro e v4 ⟨K4, vi, rfl, hK4, hi4, hb4⟩; have hz4 := hb4.size; (try simp at hz4); have hX4 : Blk v4 w.heap.size 23 #[.int .i64 a, .int .i64 b, .int .i64 c] := hX4b.call hb4; have hY4 : Blk v4 (w.heap.size + 1) 25 #[.int .i64 A, .int .i64 B, .int .i64 D] := hY4b.call hb4; have cX4 := hX4.cell; have fX4 := hX4.frozen; have lX4 := hX4.lt; have cY4 := hY4.cell; have fY4 := hY4.frozen; have lY4 := hY4.lt; have bel4 : Below w.heap.size w v4 := below_via bel4b hb4 (by omega)))
    clear cX4a fX4a lX4a cY4a fY4a lY4a
    clear cX4b fX4b lX4b cY4b fY4b lY4b
    clear cX2 fX2 lX2 cY2 fY2 lY2
    obtain rfl := HU.out _ _ hK hK4
    have hs4 := own_call hb4 (own_call hb4b (own_call hb4a hs2))
    have hap := apart_lt3 hs2 hi4 (by omega)
    go_wp2_with fail
    refine (eqPointS_same vi vs _ _ K _ (by omega) hi4 hs4).mono ?_
    rintro e v5 ⟨rfl, hb5⟩
    have hz5 := hb5.size
    (try simp at hz5)
    have hX5 : Blk v5 w.heap.size 23 #[.int .i64 a, .int .i64 b, .int .i64 c] := hX4.call hb5
    have hY5 : Blk v5 (w.heap.size + 1) 25 #[.int .i64 A, .int .i64 B, .int .i64 D] := hY4.call hb5
    have cX5 := hX5.cell; have fX5 := hX5.frozen; have lX5 := hX5.lt; have cY5 := hY5.cell; have fY5 := hY5.frozen; have lY5 := hY5.lt
    clear cX4 fX4 lX4 cY4 fY4 lY4
    have bel5 : Below w.heap.size w v5 := below_via bel4 hb5 (by omega)
    have hs5 := own_call hb5 hs4
    have hi5 := own_call hb5 hi4
    go_wp2_with fail
    refine (markPointS_any vi _ K.length _ _ (by omega) hi5).mono ?_
    rintro e v6 ⟨rfl, hm6, hg6⟩
    have hs6 := hs5.kept hg6 hap
    have hge := own_ge hi5
    have hz6 := hg6.size
    have bel6 : Below w.heap.size w v6 := bel5.grown hg6 bel5.size (fun q hq => Nat.le_trans (by omega) (hge q hq))
    have hX6 : Blk v6 w.heap.size 23 #[.int .i64 a, .int .i64 b, .int .i64 c] := hX5.grown hg6 (fun he => by have := hge _ he.symm; omega)
    have hY6 : Blk v6 (w.heap.size + 1) 25 #[.int .i64 A, .int .i64 B, .int .i64 D] := hY5.grown hg6 (fun he => by have := hge _ he.symm; omega)
    have cX6 := hX6.cell; have fX6 := hX6.frozen; have lX6 := hX6.lt; have cY6 := hY6.cell; have fY6 := hY6.frozen; have lY6 := hY6.lt
    clear cX5 fX5 lX5 cY5 fY5 lY5
    go_wp2_with fail
    refine (heldPointS_any vi _ K.length _ (by omega) hm6).mono ?_
    rintro e u7 ⟨rfl, rfl⟩
    go_upto_region 13 with (fail)
    go_region_held3 (fun w' => w'.cell? ⟨w.heap.size, 0, none⟩ = some (.int .i64 a) ∧ w'.cell? ⟨w.heap.size, 1, none⟩ = some (.int .i64 b) ∧ w'.cell? ⟨w.heap.size, 2, none⟩ = some (.int .i64 c) ∧ w'.cell? ⟨w.heap.size + 1, 0, none⟩ = some (.int .i64 A) ∧ w'.cell? ⟨w.heap.size + 1, 1, none⟩ = some (.int .i64 B) ∧ w'.cell? ⟨w.heap.size + 1, 2, none⟩ = some (.int .i64 D)) (first | (go_keep; done) | (go_simp; done)) (first | (go_at_call 5; (with_reducible refine (toForm_any a b c _).mono ?_); rintro e v10a ⟨rfl, hb10a⟩; have hz10a := hb10a.size; (try simp at hz10a); have hX10a : Blk v10a w.heap.size 23 #[.int .i64 a, .int .i64 b, .int .i64 c] := Blk.call (by (repeat (first | with_reducible assumption | (with_reducible apply Blk.new_at; (first | rfl | (simp; done))) | with_reducible apply Blk.store3 | with_reducible apply Blk.store4 | (with_reducible apply Blk.farp; (first | omega | (simp <;> omega))) | with_reducible apply Blk.allocp | with_reducible apply Blk.drew | with_reducible apply Blk.drewN))) hb10a; have hY10a : Blk v10a (w.heap.size + 1) 25 #[.int .i64 A, .int .i64 B, .int .i64 D] := Blk.call (by (repeat (first | with_reducible assumption | (with_reducible apply Blk.new_at; (first | rfl | (simp; done))) | with_reducible apply Blk.store3 | with_reducible apply Blk.store4 | (with_reducible apply Blk.farp; (first | omega | (simp <;> omega))) | with_reducible apply Blk.allocp | with_reducible apply Blk.drew | with_reducible apply Blk.drewN))) hb10a; have cX10a := hX10a.cell; have fX10a := hX10a.frozen; have lX10a := hX10a.lt; have cY10a := hY10a.cell; have fY10a := hY10a.frozen; have lY10a := hY10a.lt; have bel10a : Below w.heap.size w v10a := below_via (by repeat (first | with_reducible exact Below.refl _ _ | with_reducible assumption | with_reducible apply Below.drew | with_reducible apply below_drewN | (with_reducible apply below_setp; (first | omega | (simp <;> omega))) | (with_reducible apply below_allocp; (first | omega | (simp <;> omega))) | (with_reducible refine below_viap (by assumption) ?_ ?_; (first | omega | (simp <;> omega))))) hb10a (by first | omega | (simp <;> omega))) | (go_at_call 6; (with_reducible refine (toLattice_any A B D _).mono ?_); rintro e v10b ⟨rfl, hb10b⟩; have hz10b := hb10b.size; (try simp at hz10b); have hX10b : Blk v10b w.heap.size 23 #[.int .i64 a, .int .i64 b, .int .i64 c] := Blk.call (by (repeat (first | with_reducible assumption | (with_reducible apply Blk.new_at; (first | rfl | (simp; done))) | with_reducible apply Blk.store3 | with_reducible apply Blk.store4 | (with_reducible apply Blk.farp; (first | omega | (simp <;> omega))) | with_reducible apply Blk.allocp | with_reducible apply Blk.drew | with_reducible apply Blk.drewN))) hb10b; have hY10b : Blk v10b (w.heap.size + 1) 25 #[.int .i64 A, .int .i64 B, .int .i64 D] := Blk.call (by (repeat (first | with_reducible assumption | (with_reducible apply Blk.new_at; (first | rfl | (simp; done))) | with_reducible apply Blk.store3 | with_reducible apply Blk.store4 | (with_reducible apply Blk.farp; (first | omega | (simp <;> omega))) | with_reducible apply Blk.allocp | with_reducible apply Blk.drew | with_reducible apply Blk.drewN))) hb10b; have cX10b := hX10b.cell; have fX10b := hX10b.frozen; have lX10b := hX10b.lt; have cY10b := hY10b.cell; have fY10b := hY10b.frozen; have lY10b := hY10b.lt; have bel10b : Below w.heap.size w v10b := below_via (by repeat (first | with_reducible exact Below.refl _ _ | with_reducible assumption | with_reducible apply Below.drew | with_reducible apply below_drewN | (with_reducible apply below_setp; (first | omega | (simp <;> omega))) | (with_reducible apply below_allocp; (first | omega | (simp <;> omega))) | (with_reducible refine below_viap (by assumption) ?_ ?_; (first | omega | (simp <;> omega))))) hb10b (by first | omega | (simp <;> omega))) | (go_at_call 7; (with_reducible refine (HI.out _).mono ?_); rintro e v10 ⟨K10, vj, rfl, hK10, hj10, hb10⟩; have hz10 := hb10.size; (try simp at hz10); have hX10 : Blk v10 w.heap.size 23 #[.int .i64 a, .int .i64 b, .int .i64 c] := hX10b.call hb10; have hY10 : Blk v10 (w.heap.size + 1) 25 #[.int .i64 A, .int .i64 B, .int .i64 D] := hY10b.call hb10; have cX10 := hX10.cell; have fX10 := hX10.frozen; have lX10 := hX10.lt; have cY10 := hY10.cell; have fY10 := hY10.frozen; have lY10 := hY10.lt; have bel10 : Below w.heap.size w v10 := below_via bel10b hb10 (by omega)))
    clear cX10a fX10a lX10a cY10a fY10a lY10a
    clear cX10b fX10b lX10b cY10b fY10b lY10b
    clear cX6 fX6 lX6 cY6 fY6 lY6
    obtain rfl := HU.out _ _ hK hK10
    have hs10 := own_call hb10 (own_call hb10b (own_call hb10a hs6))
    have hb10x : Below v6.heap.size v6 v10 := below_via ((Below.refl v6.heap.size v6).drew) (below_via hb10a (below_via hb10b hb10 hz10b) hz10a) (Nat.le_refl _)
    have hm10 := hm6.kept hb10x
    go_wp2_with fail
    refine (eqPointS_same vj vs _ _ K _ (by omega) hj10 hs10).mono ?_
    rintro e v11 ⟨rfl, hb11⟩
    have hz11 := hb11.size
    (try simp at hz11)
    have hX11 : Blk v11 w.heap.size 23 #[.int .i64 a, .int .i64 b, .int .i64 c] := hX10.call hb11
    have hY11 : Blk v11 (w.heap.size + 1) 25 #[.int .i64 A, .int .i64 B, .int .i64 D] := hY10.call hb11
    have cX11 := hX11.cell; have fX11 := hX11.frozen; have lX11 := hX11.lt; have cY11 := hY11.cell; have fY11 := hY11.frozen; have lY11 := hY11.lt
    clear cX10 fX10 lX10 cY10 fY10 lY10
    have bel11 : Below w.heap.size w v11 := below_via bel10 hb11 (by omega)
    have hm11 := hm10.kept hb11
    go_wp2_with fail
    refine (heldPointS_any vi _ K.length _ (by omega) hm11).mono ?_
    rintro e u7 ⟨rfl, rfl⟩
    go_wp2
    go_ret
    exact ⟨rfl, bel11⟩

theorem own_FnExactShortestPoints : ownKnob Try.prog.godebug = none := by kernel_rfl

set_option maxRecDepth 100000 in
theorem lifted_FnExactShortestPoints (os : Os) (started : os.Started) (H : Type) (enc : TypeId × Value → H) :
    ReturnsInHanded {} Try.checked os 3 .any (Rows.fnExactShortestPointsSpec.pre6 enc Try.prog Try.f3 Rows.fnExactShortestPointsRow.domain false) (Rows.fnExactShortestPointsSpec.post enc Try.prog Try.f3 false true false false) := by
  refine returnsInHanded_of_change (C := Try.checked) own_FnExactShortestPoints started (by kernel_rfl) Try.func3
    (ChangeSpec.witness6 (enc := enc) (C := Try.checked) false ⟨#[], #[.agg #[.int .i64 0, .int .i64 0, .int .i64 0], .agg #[.int .i64 0, .int .i64 0, .int .i64 0]], []⟩ 8 (by kernel_rfl) (by kernel_rfl) (by kernel_rfl) (by kernel_rfl)) ?_
  intro W base args ds gs before hval0 hW hcnd _
  have hval : ∀ (j : Nat) t v, Try.f3.params[j]? = some t → args[j]? = some v → Value.okWide Try.prog W .any base t v := hval0
  have hW' := hW
  obtain ⟨p, q, hA0, hV, rfl, hfz, hnd⟩ := hW
  have hA : DataW.TrodAll enc Try.prog W 0 (fun _ => true) true Try.f3.params.toList args.toList ds p := hA0
  rw [Try.params3] at hA hval
  obtain ⟨v0, vs0, d0, ds0, p0, q0, hargs, rfl, rfl, h0, r0⟩ := trodAll_cons hA
  obtain ⟨v1, vs1, d1, ds1, p1, q1, rfl, rfl, rfl, h1, r1⟩ := trodAll_cons r0
  obtain ⟨rfl, rfl, rfl⟩ := trodAll_nil r1
  obtain rfl : args = #[v0, v1] := by cases args; simp_all
  obtain ⟨rfl, rfl⟩ := trodVars_none hV
  obtain ⟨c0_0, c0_1, c0_2, y0_0, y0_1, y0_2, m0, rfl, rfl, rfl, g0_0, g0_1, g0_2⟩ := open_agg3 Try.underlying23 (by kernel_rfl) (show Try.prog.cellsOf 23 = 3 by kernel_rfl) (hval 0 23 v0 rfl rfl) h0
  obtain ⟨a0_0, e0_0, rfl, w0_0⟩ := DataW.trod_int Try.underlying3 g0_0
  obtain ⟨a0_1, e0_1, rfl, w0_1⟩ := DataW.trod_int Try.underlying3 g0_1
  obtain ⟨a0_2, e0_2, rfl, w0_2⟩ := DataW.trod_int Try.underlying3 g0_2
  simp at e0_0 e0_1 e0_2
  subst e0_0 e0_1 e0_2
  obtain ⟨c1_0, c1_1, c1_2, y1_0, y1_1, y1_2, m1, rfl, rfl, rfl, g1_0, g1_1, g1_2⟩ := open_agg3 Try.underlying25 (by kernel_rfl) (show Try.prog.cellsOf 25 = 3 by kernel_rfl) (hval 1 25 v1 rfl rfl) h1
  obtain ⟨a1_0, e1_0, rfl, w1_0⟩ := DataW.trod_int Try.underlying3 g1_0
  obtain ⟨a1_1, e1_1, rfl, w1_1⟩ := DataW.trod_int Try.underlying3 g1_1
  obtain ⟨a1_2, e1_2, rfl, w1_2⟩ := DataW.trod_int Try.underlying3 g1_2
  simp at e1_0 e1_1 e1_2
  subst e1_0 e1_1 e1_2
  clear hA0 hval0
  simp only [List.append_nil] at hW'
  refine (walk_FnExactShortestPoints a0_0 a0_1 a0_2 a1_0 a1_1 a1_2 W).mono fun e W' ⟨he, hg⟩ => ?_
  subst he
  exact ⟨_, rfl, post_of_below (pa := []) (pv := []) hW' (fun _ _ _ => (trodAll_cons_mk (shut_bool Try.underlying4 _) trodAll_mk0)) (fun sp _ => (trodAll_cons_mk (shut_agg3 (y0 := (.lit (.int .i64 a0_0), [])) (y1 := (.lit (.int .i64 a0_1), [])) (y2 := (.lit (.int .i64 a0_2), [])) Try.underlying23 (by kernel_rfl) (show Try.prog.cellsOf 23 = 3 by kernel_rfl) ⟨1, by simp [DataW.trod, Try.underlying3, w0_0]⟩ ⟨1, by simp [DataW.trod, Try.underlying3, w0_1]⟩ ⟨1, by simp [DataW.trod, Try.underlying3, w0_2]⟩) (trodAll_cons_mk (shut_agg3 (y0 := (.lit (.int .i64 a1_0), [])) (y1 := (.lit (.int .i64 a1_1), [])) (y2 := (.lit (.int .i64 a1_2), [])) Try.underlying25 (by kernel_rfl) (show Try.prog.cellsOf 25 = 3 by kernel_rfl) ⟨1, by simp [DataW.trod, Try.underlying3, w1_0]⟩ ⟨1, by simp [DataW.trod, Try.underlying3, w1_1]⟩ ⟨1, by simp [DataW.trod, Try.underlying3, w1_2]⟩) trodAll_mk0))) (fun _ _ => rfl) rfl
    hg (ok_one (by kernel_rfl) rfl (okWide_bool_mk Try.underlying4 _))⟩

theorem and2_FnExactShortestPoints {a b : Bool} (h : a = true) (k : b = true) : (a && b) = true := by rw [h, k]; rfl
set_option maxRecDepth 100000 in
theorem cl0_FnExactShortestPoints : (Rows.fnExactShortestPointsRow.wf (OpenSpec.ofChange Rows.fnExactShortestPointsSpec)) = true := by kernel_rfl
set_option maxRecDepth 100000 in
theorem cl1_FnExactShortestPoints : (laidOutB Try.pinned.checked.prog) = true := by kernel_rfl
set_option maxRecDepth 100000 in
theorem cl2_FnExactShortestPoints : (mapsRowed Try.pinned.checked.prog) = true := by kernel_rfl
set_option maxRecDepth 100000 in
theorem cl3_FnExactShortestPoints : (Try.f3.params.all (Try.pinned.checked.prog.readableRec ·)) = true := by kernel_rfl
set_option maxRecDepth 100000 in
theorem cl4_FnExactShortestPoints : (namedTie Try.pinned.checked.prog Rows.fnExactShortestPointsRow.named Rows.fnExactShortestPointsSpec.vars) = true := by kernel_rfl
set_option maxRecDepth 100000 in
theorem cl5_FnExactShortestPoints : (Rows.fnExactShortestPointsRow.stops == []) = true := by kernel_rfl
set_option maxRecDepth 100000 in
theorem cl6_FnExactShortestPoints : (Try.pinned.checked.prog.stops == []) = true := by kernel_rfl
set_option maxRecDepth 100000 in
theorem cl7_FnExactShortestPoints : (Rows.fnExactShortestPointsRow.knobs == []) = true := by kernel_rfl
set_option maxRecDepth 100000 in
theorem cl8_FnExactShortestPoints : (Try.pinned.checked.prog.stopKnobs == []) = true := by kernel_rfl
set_option maxRecDepth 100000 in
theorem cl9_FnExactShortestPoints : (Rows.fnExactShortestPointsRow.inPlace == Try.pinned.checked.prog.inPlace 3) = true := by kernel_rfl
set_option maxRecDepth 100000 in
theorem cl10_FnExactShortestPoints : (Rows.fnExactShortestPointsRow.unfollowed == Try.pinned.checked.prog.unfollowed 3) = true := by kernel_rfl
set_option maxRecDepth 100000 in
theorem cl11_FnExactShortestPoints : (Rows.fnExactShortestPointsRow.recurses == Try.pinned.checked.prog.recurses 3) = true := by kernel_rfl
set_option maxRecDepth 100000 in
theorem cl12_FnExactShortestPoints : (Rows.fnExactShortestPointsRow.named == Try.pinned.checked.prog.varsNamed 3) = true := by kernel_rfl
set_option maxRecDepth 100000 in
theorem cl13_FnExactShortestPoints : (Rows.fnExactShortestPointsRow.maps == (Try.f3.params.toList ++ Rows.fnExactShortestPointsSpec.plain.varTypes Try.pinned.checked.prog).any (Try.pinned.checked.prog.mapsRec ·)) = true := by kernel_rfl
set_option maxRecDepth 100000 in
theorem cl14_FnExactShortestPoints : (Rows.fnExactShortestPointsRow.ifaces == (Try.f3.params.toList ++ Rows.fnExactShortestPointsSpec.plain.varTypes Try.pinned.checked.prog).any (Try.pinned.checked.prog.ifacesRec ·)) = true := by kernel_rfl
set_option maxRecDepth 100000 in
theorem cl15_FnExactShortestPoints : (Rows.fnExactShortestPointsRow.mapsOut == Try.pinned.checked.prog.mapsAmong Try.f3.resultTypes.toList) = true := by kernel_rfl
set_option maxRecDepth 100000 in
theorem cl16_FnExactShortestPoints : (Rows.fnExactShortestPointsRow.loops == (Try.f3.params.toList ++ Rows.fnExactShortestPointsSpec.plain.varTypes Try.pinned.checked.prog).any (Try.pinned.checked.prog.loopsFrom ·)) = true := by kernel_rfl
set_option maxRecDepth 100000 in
theorem cl17_FnExactShortestPoints : (Rows.fnExactShortestPointsRow.wideKeys == (Try.f3.params.toList ++ Rows.fnExactShortestPointsSpec.plain.varTypes Try.pinned.checked.prog ++ Try.f3.resultTypes.toList).any (Try.pinned.checked.prog.wideKeysFrom ·)) = true := by kernel_rfl
set_option maxRecDepth 100000 in
theorem cl18_FnExactShortestPoints : (Rows.fnExactShortestPointsSpec.vars.all (Try.pinned.checked.prog.varReadable ·)) = true := by kernel_rfl
set_option maxRecDepth 100000 in
theorem cl19_FnExactShortestPoints : (Try.f3.resultTypes.all (fun t => Try.pinned.checked.prog.readableRec t && decide (t < Try.pinned.checked.prog.types.size))) = true := by kernel_rfl
set_option maxRecDepth 100000 in
theorem cl20_FnExactShortestPoints : (Rows.fnExactShortestPointsRow.ifacesOut == Try.f3.resultTypes.toList.any (Try.pinned.checked.prog.ifacesRec ·)) = true := by kernel_rfl
set_option maxRecDepth 100000 in
theorem cl21_FnExactShortestPoints : (Rows.fnExactShortestPointsRow.loopsOut == Try.f3.resultTypes.toList.any (Try.pinned.checked.prog.loopsFrom ·)) = true := by kernel_rfl
set_option maxRecDepth 100000 in
theorem cl22_FnExactShortestPoints : (Rows.fnExactShortestPointsRow.plainKeys == Try.pinned.checked.prog.plainKeys) = true := by kernel_rfl
set_option maxRecDepth 100000 in
theorem cl23_FnExactShortestPoints : (Rows.fnExactShortestPointsRow.shortTexts.isNone) = true := by kernel_rfl
set_option maxRecDepth 100000 in
theorem cl24_FnExactShortestPoints : (Try.pinned.checked.prog.stopsHeard) = true := by kernel_rfl
set_option maxRecDepth 100000 in
theorem cl25_FnExactShortestPoints : (Try.pinned.checked.prog.mayEnter) = true := by kernel_rfl
set_option maxRecDepth 100000 in
theorem cl26_FnExactShortestPoints : (Rows.fnExactShortestPointsRow.lifted == Try.pinned.checked.prog.liftsFinal) = true := by kernel_rfl
set_option maxRecDepth 100000 in
theorem cl27_FnExactShortestPoints : (Try.pinned.checked.prog.make == some Rows.fnExactShortestPointsRow.make) = true := by kernel_rfl
set_option maxRecDepth 100000 in
theorem cl28_FnExactShortestPoints : (Rows.fnExactShortestPointsRow.kinds == (if Rows.fnExactShortestPointsRow.domain.isEmpty then [] else Try.f3.params.toList.map fun t => match Try.pinned.checked.prog.underlying t with | some (.int k) => some k | _ => none)) = true := by kernel_rfl
set_option maxRecDepth 100000 in
theorem cl29_FnExactShortestPoints : (Rows.fnExactShortestPointsRow.pinned == Rows.fnExactShortestPointsRow.pinnedBy) = true := by kernel_rfl
set_option maxRecDepth 100000 in
theorem cl30_FnExactShortestPoints : (Rows.fnExactShortestPointsRow.veiled == (Try.f3.params.toList ++ Rows.fnExactShortestPointsSpec.plain.varTypes Try.pinned.checked.prog ++ Try.f3.resultTypes.toList).any (Try.pinned.checked.prog.veiledRec ·)) = true := by kernel_rfl
set_option maxRecDepth 100000 in
theorem cl31_FnExactShortestPoints : (Rows.fnExactShortestPointsRow.veiledFits Try.pinned.checked.prog Try.f3.params.toList (Try.f3.params.toList ++ Rows.fnExactShortestPointsSpec.plain.varTypes Try.pinned.checked.prog ++ Try.f3.resultTypes.toList)) = true := by kernel_rfl
set_option maxRecDepth 100000 in
theorem closed_FnExactShortestPoints : joinedFacts Try.pinned.checked.prog 3 Try.f3 Rows.fnExactShortestPointsSpec Rows.fnExactShortestPointsRow = true := (and2_FnExactShortestPoints (and2_FnExactShortestPoints (and2_FnExactShortestPoints (and2_FnExactShortestPoints (and2_FnExactShortestPoints (and2_FnExactShortestPoints (and2_FnExactShortestPoints (and2_FnExactShortestPoints (and2_FnExactShortestPoints (and2_FnExactShortestPoints (and2_FnExactShortestPoints (and2_FnExactShortestPoints (and2_FnExactShortestPoints (and2_FnExactShortestPoints (and2_FnExactShortestPoints (and2_FnExactShortestPoints (and2_FnExactShortestPoints (and2_FnExactShortestPoints (and2_FnExactShortestPoints (and2_FnExactShortestPoints (and2_FnExactShortestPoints (and2_FnExactShortestPoints (and2_FnExactShortestPoints (and2_FnExactShortestPoints (and2_FnExactShortestPoints (and2_FnExactShortestPoints (and2_FnExactShortestPoints (and2_FnExactShortestPoints (and2_FnExactShortestPoints (and2_FnExactShortestPoints (and2_FnExactShortestPoints cl0_FnExactShortestPoints cl1_FnExactShortestPoints) cl2_FnExactShortestPoints) cl3_FnExactShortestPoints) cl4_FnExactShortestPoints) cl5_FnExactShortestPoints) cl6_FnExactShortestPoints) cl7_FnExactShortestPoints) cl8_FnExactShortestPoints) cl9_FnExactShortestPoints) cl10_FnExactShortestPoints) cl11_FnExactShortestPoints) cl12_FnExactShortestPoints) cl13_FnExactShortestPoints) cl14_FnExactShortestPoints) cl15_FnExactShortestPoints) cl16_FnExactShortestPoints) cl17_FnExactShortestPoints) cl18_FnExactShortestPoints) cl19_FnExactShortestPoints) cl20_FnExactShortestPoints) cl21_FnExactShortestPoints) cl22_FnExactShortestPoints) cl23_FnExactShortestPoints) cl24_FnExactShortestPoints) cl25_FnExactShortestPoints) cl26_FnExactShortestPoints) cl27_FnExactShortestPoints) cl28_FnExactShortestPoints) cl29_FnExactShortestPoints) cl30_FnExactShortestPoints) cl31_FnExactShortestPoints)


/-- The statement. -/
theorem holds_FnExactShortestPoints : Rows.FnExactShortestPointsSaid :=
  OpenClaim.holds_of_wide 3 Try.f3 rfl rfl rfl rfl rfl rfl rfl ⟨rfl, rfl, rfl, rfl, rfl⟩ rfl rfl rfl rfl rfl (by kernel_rfl) Try.func3 closed_FnExactShortestPoints
    (of_decide_eq_true (by kernel_rfl)) (by unfold Func.isWrapper; first | (rw [if_pos (by decide +kernel)]; kernel_rfl) | (rw [if_neg (by decide +kernel)]; exact ⟨rfl, rfl⟩))
    (fun os started H enc _ => lifted_FnExactShortestPoints os started H enc)
#print axioms holds_FnExactShortestPoints
end Go.Proofs.Ytblcmkhkbgikoaa
