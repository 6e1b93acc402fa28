/- Parts DN DO laid together by tp.py. -/
import Derived.Test.YtkpiiicefmkhcaaDZ
import Derived.Test.YtkpiiicefmkhcaaOV
import Derived.Test.YtkpiiicefmkhcaaOY
import Derived.Deep.DeepCutAuto
import Derived.Test.YtkpiiicefmkhcaaVH
namespace Go.Proofs.Ytkpiiicefmkhcaa
section
open Go.RowKit

/-- A node with small coordinates. -/
def NdK (K : Nat) (n : Nd) : Prop := NdG n.u n.v n.w ∧ ∀ x, (x = n.u ∨ x = n.v ∨ x = n.w) → (-(K : Int) ≤ x.1 ∧ x.1 ≤ K) ∧ (-(K : Int) ≤ x.2 ∧ x.2 ≤ K)
theorem NdK.num {K : Nat} {n : Nd} (h : NdK K n) (hk : K ≤ 1000000) : numN n := by
  have a := h.2 n.u (by simp); have b := h.2 n.v (by simp); have c := h.2 n.w (by simp)
  unfold numN; omega
theorem NdK.all {K : Nat} {n : Nd} {p q r : Int × Int} (h : NdK K n) (i : Is3 n p q r) : ∀ x, (x = p ∨ x = q ∨ x = r) → (-(K : Int) ≤ x.1 ∧ x.1 ≤ K) ∧ (-(K : Int) ≤ x.2 ∧ x.2 ≤ K) := by
  have a := (i.all (P := fun x => (-(K : Int) ≤ x.1 ∧ x.1 ≤ K) ∧ (-(K : Int) ≤ x.2 ∧ x.2 ≤ K))).1 ⟨h.2 n.u (by simp), h.2 n.v (by simp), h.2 n.w (by simp)⟩
  rintro x (rfl | rfl | rfl)
  · exact a.1
  · exact a.2.1
  · exact a.2.2
theorem nw_bd {p q o : Int × Int} {K : Int} (hp : (-K ≤ p.1 ∧ p.1 ≤ K) ∧ (-K ≤ p.2 ∧ p.2 ≤ K)) (hq : (-K ≤ q.1 ∧ q.1 ≤ K) ∧ (-K ≤ q.2 ∧ q.2 ≤ K)) : (-(2 * K) ≤ (nwP p q o).1 ∧ (nwP p q o).1 ≤ 2 * K) ∧ (-(2 * K) ≤ (nwP p q o).2 ∧ (nwP p q o).2 ≤ 2 * K) := by
  unfold nwP
  split
  · rcases can_cases (p.1 - q.1) (p.2 - q.2) with h | h <;> rw [h] <;> simp only <;> omega
  · rcases can_cases (p.1 + q.1) (p.2 + q.2) with h | h <;> rw [h] <;> simp only <;> omega
theorem NdK.next {K : Nat} {n : Nd} (h : NdK K n) {i : Nat} (h1 : 1 ≤ i) (h3 : i ≤ 3) : NdK (2 * K) (nxN n i) := by
  have is := sp_is n i h1 h3
  have g := is.good h.1
  have a := h.all is
  have is2 : Is3 (nxN n i) (spP n i) (spQ n i) (nwP (spP n i) (spQ n i) (spO n i)) := srt3_is _ _ _
  refine ⟨is2.bad (nw_good g), ?_⟩
  have b1 := a (spP n i) (by simp)
  have b2 := a (spQ n i) (by simp)
  have b3 := nw_bd (o := spO n i) b1 b2
  have c := (is2.all (P := fun x => (-((2 * K : Nat) : Int) ≤ x.1 ∧ x.1 ≤ ((2 * K : Nat) : Int)) ∧ (-((2 * K : Nat) : Int) ≤ x.2 ∧ x.2 ≤ ((2 * K : Nat) : Int)))).2 ⟨by omega, by omega, by omega⟩
  rintro x (rfl | rfl | rfl)
  · exact c.1
  · exact c.2.1
  · exact c.2.2
theorem root_ndK : NdK 1 ⟨(0, 1), (1, 0), (1, 1)⟩ := by
  refine ⟨⟨⟨by decide, by decide⟩, ⟨by decide, by decide⟩, ⟨by decide, by decide⟩, by decide, by decide, by decide⟩, ?_⟩
  rintro x (rfl | rfl | rfl) <;> decide
section
variable {zs : List Int} {v : Value} {B G n m : Nat} {w0 w w1 w2 : World}
set_option maxRecDepth 100000 in
set_option maxHeartbeats 3200000 in
theorem plain_d (h : Drw zs v B G n w0 w) (hB : B ≤ G) (hn : n + 18 ≤ 100000000) :
    Calls Try.prog 137 #[.pointer (some ⟨G, 0, none⟩)] w fun e w' => ∃ p : Int × Int, e = .returned (.agg #[.int .i64 p.1, .int .i64 p.2]) ∧ True ∧ Drw zs v B G (n + 18) w0 w' ∧ w.grownBy w' (some G) := by
  have H := Lib.hid h
  have lG0 := h.lt
  have hD0 := Lib.hid (Drw.start h.rd h.cur)
  clear h
  have hfin : Hid (∀ (x y : Int) (w' : World), Drw zs v B G (n + 18) w w' → ∃ p : Int × Int, Ending.returned (.agg #[.int .i64 x, .int .i64 y]) = .returned (.agg #[.int .i64 p.1, .int .i64 p.2]) ∧ True ∧ Drw zs v B G (n + 18) w0 w' ∧ w.grownBy w' (some G)) :=
    Lib.hid (fun x y w' hd => ⟨(x, y), rfl, trivial, H.out.next hB hd.cur hd.gr, hd.gr⟩)
  go_enter Try.func137, Try.ntmps137
  go_wp2_with fail
  refine (pick_d (by repeat (first | with_reducible assumption | (with_reducible apply Hid.out; assumption) | with_reducible apply Drw.drewN | with_reducible apply Drw.drew | with_reducible apply Drw.alloc | (with_reducible refine Drw.setp ?_ ?_ ?_ ?_; (first | omega | (simp <;> omega)); (first | omega | (simp <;> omega)); (first | omega | (simp <;> omega))))) hB 12 (by omega) (by omega)).mono ?_
  rintro e v1 ⟨x1, rfl, hx1, hD1', hG1⟩
  have hD1 := Lib.hid hD1'
  have lG1 := hD1'.lt
  have zG1 := hG1.size
  (try simp at zG1)
  have hA1 : Blk v1 (w.heap.size) 37 #[.int .i64 0, .int .i64 0] := Blk.grown (by (repeat (first | with_reducible assumption | (with_reducible apply Blk.new_at; (first | rfl | (simp; done))) | with_reducible apply Blk.store3 | with_reducible apply Blk.store4 | (with_reducible apply Blk.farp; (first | omega | (simp <;> omega))) | with_reducible apply Blk.allocp | with_reducible apply Blk.drew | with_reducible apply Blk.drewN))) hG1 (by simp <;> omega)
  have cA1 := hA1.cell; have fA1 := hA1.frozen; have lA1 := hA1.lt; have mA1 := Nat.ne_of_gt lA1; have nA1 := Nat.ne_of_lt lA1
  clear hD1' hG1
  by_cases e0 : x1 = 0
  · subst e0
    clear hx1
    go_wp2_with fail
    refine (number_d (by repeat (first | with_reducible assumption | (with_reducible apply Hid.out; assumption) | with_reducible apply Drw.drewN | with_reducible apply Drw.drew | with_reducible apply Drw.alloc | (with_reducible refine Drw.setp ?_ ?_ ?_ ?_; (first | omega | (simp <;> omega)); (first | omega | (simp <;> omega)); (first | omega | (simp <;> omega))))) hB (by omega)).mono ?_
    rintro e v2 ⟨x2, rfl, hx2, hD2', hG2⟩
    have hD2 := Lib.hid hD2'
    have lG2 := hD2'.lt
    have zG2 := hG2.size
    (try simp at zG2)
    have hA2 : Blk v2 (w.heap.size) 37 #[.int .i64 0, .int .i64 0] := Blk.grown (by (repeat (first | with_reducible assumption | (with_reducible apply Blk.new_at; (first | rfl | (simp; done))) | with_reducible apply Blk.store3 | with_reducible apply Blk.store4 | (with_reducible apply Blk.farp; (first | omega | (simp <;> omega))) | with_reducible apply Blk.allocp | with_reducible apply Blk.drew | with_reducible apply Blk.drewN))) hG2 (by simp <;> omega)
    have cA2 := hA2.cell; have fA2 := hA2.frozen; have lA2 := hA2.lt; have mA2 := Nat.ne_of_gt lA2; have nA2 := Nat.ne_of_lt lA2
    clear hD2' hG2
    go_wp2_with fail
    refine (number_d (by repeat (first | with_reducible assumption | (with_reducible apply Hid.out; assumption) | with_reducible apply Drw.drewN | with_reducible apply Drw.drew | with_reducible apply Drw.alloc | (with_reducible refine Drw.setp ?_ ?_ ?_ ?_; (first | omega | (simp <;> omega)); (first | omega | (simp <;> omega)); (first | omega | (simp <;> omega))))) hB (by omega)).mono ?_
    rintro e v3 ⟨x3, rfl, hx3, hD3', hG3⟩
    have hD3 := Lib.hid hD3'
    have lG3 := hD3'.lt
    have zG3 := hG3.size
    (try simp at zG3)
    have hA3 : Blk v3 (w.heap.size) 37 #[.int .i64 0, .int .i64 0] := Blk.grown (by (repeat (first | with_reducible assumption | (with_reducible apply Blk.new_at; (first | rfl | (simp; done))) | with_reducible apply Blk.store3 | with_reducible apply Blk.store4 | (with_reducible apply Blk.farp; (first | omega | (simp <;> omega))) | with_reducible apply Blk.allocp | with_reducible apply Blk.drew | with_reducible apply Blk.drewN))) hG3 (by simp <;> omega)
    have cA3 := hA3.cell; have fA3 := hA3.frozen; have lA3 := hA3.lt; have mA3 := Nat.ne_of_gt lA3; have nA3 := Nat.ne_of_lt lA3
    clear hD3' hG3
    go_wp2
    exact bodyPost_ret (v := .agg #[.int .i64 x2, .int .i64 x3]) (by simp [results, Try.results137, go_sem, *]) rfl (hfin.out _ _ _ (Drw.more (n := n + 2 + 8 + 8) (by repeat (first | with_reducible assumption | (with_reducible apply Hid.out; assumption) | with_reducible apply Drw.drewN | with_reducible apply Drw.drew | with_reducible apply Drw.alloc | (with_reducible refine Drw.setp ?_ ?_ ?_ ?_; (first | omega | (simp <;> omega)); (first | omega | (simp <;> omega)); (first | omega | (simp <;> omega))))) (by omega)))
  · have n0 : (x1 == 0) = false := by rw [beq_eq_false_iff_ne]; exact e0
    by_cases e1 : x1 = 1
    · subst e1
      clear hx1 e0 n0
      go_wp2_with fail
      refine (pick_d (by repeat (first | with_reducible assumption | (with_reducible apply Hid.out; assumption) | with_reducible apply Drw.drewN | with_reducible apply Drw.drew | with_reducible apply Drw.alloc | (with_reducible refine Drw.setp ?_ ?_ ?_ ?_; (first | omega | (simp <;> omega)); (first | omega | (simp <;> omega)); (first | omega | (simp <;> omega))))) hB 20001 (by omega) (by omega)).mono ?_
      rintro e v2 ⟨x2, rfl, hx2, hD2', hG2⟩
      have hD2 := Lib.hid hD2'
      have lG2 := hD2'.lt
      have zG2 := hG2.size
      (try simp at zG2)
      have hA2 : Blk v2 (w.heap.size) 37 #[.int .i64 0, .int .i64 0] := Blk.grown (by (repeat (first | with_reducible assumption | (with_reducible apply Blk.new_at; (first | rfl | (simp; done))) | with_reducible apply Blk.store3 | with_reducible apply Blk.store4 | (with_reducible apply Blk.farp; (first | omega | (simp <;> omega))) | with_reducible apply Blk.allocp | with_reducible apply Blk.drew | with_reducible apply Blk.drewN))) hG2 (by simp <;> omega)
      have cA2 := hA2.cell; have fA2 := hA2.frozen; have lA2 := hA2.lt; have mA2 := Nat.ne_of_gt lA2; have nA2 := Nat.ne_of_lt lA2
      clear hD2' hG2
      go_wp2_with fail
      refine (pick_d (by repeat (first | with_reducible assumption | (with_reducible apply Hid.out; assumption) | with_reducible apply Drw.drewN | with_reducible apply Drw.drew | with_reducible apply Drw.alloc | (with_reducible refine Drw.setp ?_ ?_ ?_ ?_; (first | omega | (simp <;> omega)); (first | omega | (simp <;> omega)); (first | omega | (simp <;> omega))))) hB 2001 (by omega) (by omega)).mono ?_
      rintro e v3 ⟨x3, rfl, hx3, hD3', hG3⟩
      have hD3 := Lib.hid hD3'
      have lG3 := hD3'.lt
      have zG3 := hG3.size
      (try simp at zG3)
      have hA3 : Blk v3 (w.heap.size) 37 #[.int .i64 0, .int .i64 0] := Blk.grown (by (repeat (first | with_reducible assumption | (with_reducible apply Blk.new_at; (first | rfl | (simp; done))) | with_reducible apply Blk.store3 | with_reducible apply Blk.store4 | (with_reducible apply Blk.farp; (first | omega | (simp <;> omega))) | with_reducible apply Blk.allocp | with_reducible apply Blk.drew | with_reducible apply Blk.drewN))) hG3 (by simp <;> omega)
      have cA3 := hA3.cell; have fA3 := hA3.frozen; have lA3 := hA3.lt; have mA3 := Nat.ne_of_gt lA3; have nA3 := Nat.ne_of_lt lA3
      clear hD3' hG3
      go_wp2_with fail
      refine (among_d (w := v3) (by repeat (first | with_reducible assumption | (with_reducible apply Hid.out; assumption) | with_reducible apply Drw.drewN | with_reducible apply Drw.drew | with_reducible apply Drw.alloc | (with_reducible refine Drw.setp ?_ ?_ ?_ ?_; (first | omega | (simp <;> omega)); (first | omega | (simp <;> omega)); (first | omega | (simp <;> omega))))) hB [10000, -10000, 10001, 0, x3 - 1000] (fun _ => True) (by simp) (by simp) (by simp) (by omega)).mono ?_
      rintro e v4 ⟨x4, rfl, hx4, hD4', hG4⟩
      have hD4 := Lib.hid hD4'
      have lG4 := hD4'.lt
      have zG4 := hG4.size
      have hA4 : Blk v4 w.heap.size 37 #[.int .i64 0, .int .i64 0] := Blk.grown (by (repeat (first | with_reducible assumption | (with_reducible apply Blk.new_at; (first | rfl | (simp; done))) | with_reducible apply Blk.store3 | with_reducible apply Blk.store4 | (with_reducible apply Blk.farp; (first | omega | (simp <;> omega))) | with_reducible apply Blk.allocp | with_reducible apply Blk.drew | with_reducible apply Blk.drewN))) hG4 (by simp <;> omega)
      have cA4 := hA4.cell; have fA4 := hA4.frozen; have lA4 := hA4.lt; have mA4 := Nat.ne_of_gt lA4; have nA4 := Nat.ne_of_lt lA4
      clear hD4' hG4
      go_wp2
      exact bodyPost_ret (v := .agg #[.int .i64 (x2 - 10000), .int .i64 x4]) (by simp [results, Try.results137, go_sem, *]) rfl (hfin.out _ _ _ (Drw.more (n := n + 2 + 2 + 2 + 2) (by repeat (first | with_reducible assumption | (with_reducible apply Hid.out; assumption) | with_reducible apply Drw.drewN | with_reducible apply Drw.drew | with_reducible apply Drw.alloc | (with_reducible refine Drw.setp ?_ ?_ ?_ ?_; (first | omega | (simp <;> omega)); (first | omega | (simp <;> omega)); (first | omega | (simp <;> omega))))) (by omega)))
    · have n1 : (x1 == 1) = false := by rw [beq_eq_false_iff_ne]; exact e1
      clear hx1 e0 e1
      go_wp2_with fail
      refine (pick_d (by repeat (first | with_reducible assumption | (with_reducible apply Hid.out; assumption) | with_reducible apply Drw.drewN | with_reducible apply Drw.drew | with_reducible apply Drw.alloc | (with_reducible refine Drw.setp ?_ ?_ ?_ ?_; (first | omega | (simp <;> omega)); (first | omega | (simp <;> omega)); (first | omega | (simp <;> omega))))) hB 41 (by omega) (by omega)).mono ?_
      rintro e v2 ⟨x2, rfl, hx2, hD2', hG2⟩
      have hD2 := Lib.hid hD2'
      have lG2 := hD2'.lt
      have zG2 := hG2.size
      (try simp at zG2)
      have hA2 : Blk v2 (w.heap.size) 37 #[.int .i64 0, .int .i64 0] := Blk.grown (by (repeat (first | with_reducible assumption | (with_reducible apply Blk.new_at; (first | rfl | (simp; done))) | with_reducible apply Blk.store3 | with_reducible apply Blk.store4 | (with_reducible apply Blk.farp; (first | omega | (simp <;> omega))) | with_reducible apply Blk.allocp | with_reducible apply Blk.drew | with_reducible apply Blk.drewN))) hG2 (by simp <;> omega)
      have cA2 := hA2.cell; have fA2 := hA2.frozen; have lA2 := hA2.lt; have mA2 := Nat.ne_of_gt lA2; have nA2 := Nat.ne_of_lt lA2
      clear hD2' hG2
      go_wp2_with fail
      refine (pick_d (by repeat (first | with_reducible assumption | (with_reducible apply Hid.out; assumption) | with_reducible apply Drw.drewN | with_reducible apply Drw.drew | with_reducible apply Drw.alloc | (with_reducible refine Drw.setp ?_ ?_ ?_ ?_; (first | omega | (simp <;> omega)); (first | omega | (simp <;> omega)); (first | omega | (simp <;> omega))))) hB 41 (by omega) (by omega)).mono ?_
      rintro e v3 ⟨x3, rfl, hx3, hD3', hG3⟩
      have hD3 := Lib.hid hD3'
      have lG3 := hD3'.lt
      have zG3 := hG3.size
      (try simp at zG3)
      have hA3 : Blk v3 (w.heap.size) 37 #[.int .i64 0, .int .i64 0] := Blk.grown (by (repeat (first | with_reducible assumption | (with_reducible apply Blk.new_at; (first | rfl | (simp; done))) | with_reducible apply Blk.store3 | with_reducible apply Blk.store4 | (with_reducible apply Blk.farp; (first | omega | (simp <;> omega))) | with_reducible apply Blk.allocp | with_reducible apply Blk.drew | with_reducible apply Blk.drewN))) hG3 (by simp <;> omega)
      have cA3 := hA3.cell; have fA3 := hA3.frozen; have lA3 := hA3.lt; have mA3 := Nat.ne_of_gt lA3; have nA3 := Nat.ne_of_lt lA3
      clear hD3' hG3
      go_wp2
      exact bodyPost_ret (v := .agg #[.int .i64 (x2 - 20), .int .i64 (x3 - 20)]) (by simp [results, Try.results137, go_sem, *]) rfl (hfin.out _ _ _ (Drw.more (n := n + 2 + 2 + 2) (by repeat (first | with_reducible assumption | (with_reducible apply Hid.out; assumption) | with_reducible apply Drw.drewN | with_reducible apply Drw.drew | with_reducible apply Drw.alloc | (with_reducible refine Drw.setp ?_ ?_ ?_ ?_; (first | omega | (simp <;> omega)); (first | omega | (simp <;> omega)); (first | omega | (simp <;> omega))))) (by omega)))
end
set_option maxRecDepth 100000 in
theorem tpRoot_any (w : World) : Calls Try.prog 136 #[] w fun e w' => e = .returned (.agg #[.int .i64 0, .int .i64 1, .int .i64 1, .int .i64 0, .int .i64 1, .int .i64 1]) ∧ Below w.heap.size w w' := by
  go_enter Try.func136, Try.ntmps136
  go_wp2
  exact bodyPost_ret (v := .agg #[.int .i64 0, .int .i64 1, .int .i64 1, .int .i64 0, .int .i64 1, .int .i64 1]) (by simp [results, Try.results136, go_sem, *]) rfl ⟨rfl, (by repeat (first | with_reducible exact Below.refl _ _ | with_reducible assumption | with_reducible apply Below.drew | with_reducible apply below_drewN | (with_reducible apply below_setp; (first | omega | (simp <;> omega))) | (with_reducible apply below_allocp; (first | omega | (simp <;> omega))) | (with_reducible refine below_viap (by assumption) ?_ ?_; (first | omega | (simp <;> omega)))))⟩
theorem Blk.far6 {w : World} {g N : Nat} {t : TypeId} {cs : Array Value} (h : Blk w g t cs) (hne : g ≠ N) (a b c d e f : Value) : Blk ((((((w.setCell ⟨N, 0, none⟩ a).setCell ⟨N, 1, none⟩ b).setCell ⟨N, 2, none⟩ c).setCell ⟨N, 3, none⟩ d).setCell ⟨N, 4, none⟩ e).setCell ⟨N, 5, none⟩ f) g t cs :=
  (((((h.far (p := ⟨N, 0, none⟩) hne a).far (p := ⟨N, 1, none⟩) hne b).far (p := ⟨N, 2, none⟩) hne c).far (p := ⟨N, 3, none⟩) hne d).far (p := ⟨N, 4, none⟩) hne e).far (p := ⟨N, 5, none⟩) hne f
theorem Drw.set6 {zs : List Int} {v : Value} {B G n N : Nat} {w w1 : World} (h : Drw zs v B G n w w1) (hp : B ≤ N) (hG : G ≠ N) (hw : w.heap.size ≤ N) (a b c d e f : Value) : Drw zs v B G n w ((((((w1.setCell ⟨N, 0, none⟩ a).setCell ⟨N, 1, none⟩ b).setCell ⟨N, 2, none⟩ c).setCell ⟨N, 3, none⟩ d).setCell ⟨N, 4, none⟩ e).setCell ⟨N, 5, none⟩ f) :=
  (((((h.set_ (p := ⟨N, 0, none⟩) hp hG hw (u := a)).set_ (p := ⟨N, 1, none⟩) hp hG hw (u := b)).set_ (p := ⟨N, 2, none⟩) hp hG hw (u := c)).set_ (p := ⟨N, 3, none⟩) hp hG hw (u := d)).set_ (p := ⟨N, 4, none⟩) hp hG hw (u := e)).set_ (p := ⟨N, 5, none⟩) hp hG hw (u := f)
/-- A step of the draw. -/
def StpD (K : Nat) (w : World) (e : Ending) (w' : World) : Prop := ∃ s1 s2 t1 t2 u1 u2 : Int, e = .returned (.agg #[.int .i64 s1, .int .i64 s2, .int .i64 t1, .int .i64 t2, .int .i64 u1, .int .i64 u2]) ∧ NdK (2 * K) ⟨(s1, s2), (t1, t2), (u1, u2)⟩ ∧ Below w.heap.size w w'
theorem step_d (K : Nat) (x a1 a2 b1 b2 c1 c2 : Int) (w : World) (h : NdK K ⟨(a1, a2), (b1, b2), (c1, c2)⟩) (hK : 2 * K ≤ 1000000) (hx : 0 ≤ x ∧ x < 3) :
    Calls Try.prog 73 #[.agg #[.int .i64 a1, .int .i64 a2, .int .i64 b1, .int .i64 b2, .int .i64 c1, .int .i64 c2], .int .i64 (1 + x)] w (StpD K w) := by
  obtain ⟨i, hi⟩ : ∃ i : Nat, 1 + x = (i : Int) := ⟨(1 + x).toNat, by omega⟩
  rw [hi]
  have h2 := h.next (i := i) (by omega) (by omega)
  obtain ⟨p1, p2, q1, q2, o1, o2, r1, r2, D⟩ := stD_ex (i := i) (by omega) (h.num (by omega)) (h2.num hK)
  obtain ⟨⟨⟨s1, s2⟩, ⟨t1, t2⟩, ⟨u1, u2⟩⟩, hm⟩ : ∃ m, nxN ⟨(a1, a2), (b1, b2), (c1, c2)⟩ i = m := ⟨_, rfl⟩
  rw [hm] at D h2
  refine (specStep_any i a1 a2 b1 b2 c1 c2 s1 s2 t1 t2 u1 u2 p1 p2 q1 q2 o1 o2 r1 r2 w D).mono ?_
  rintro e w' ⟨rfl, hb⟩
  exact ⟨s1, s2, t1, t2, u1, u2, rfl, h2, hb⟩
section
variable {zs : List Int} {v : Value} {B G n m : Nat} {w0 w w1 w2 : World}
/-- The state of the draw's loop. -/
def NdSt (zs : List Int) (v : Value) (B G n N : Nat) (w : World) (vk : Value) (wr : World) : Prop :=
  ∃ (k K : Nat) (a1 a2 b1 b2 c1 c2 : Int), vk = .int .i64 k ∧ k ≤ 7 ∧ 1 ≤ K ∧ K * 2 ^ k ≤ 128 ∧ NdK K ⟨(a1, a2), (b1, b2), (c1, c2)⟩ ∧ Drw zs v B G (n + 2 + 2 * (7 - k)) w wr ∧ Blk wr w.heap.size 39 #[.int .i64 0, .int .i64 0, .int .i64 0, .int .i64 0, .int .i64 0, .int .i64 0] ∧ Blk wr N 39 #[.int .i64 a1, .int .i64 a2, .int .i64 b1, .int .i64 b2, .int .i64 c1, .int .i64 c2] ∧ w.heap.size < N
set_option maxRecDepth 100000 in
set_option maxHeartbeats 6400000 in
theorem node_d (h : Drw zs v B G n w0 w) (hB : B ≤ G) (hn : n + 36 ≤ 100000000) :
    Calls Try.prog 64 #[.pointer (some ⟨G, 0, none⟩)] w fun e w' => ∃ x : (Int × Int) × (Int × Int) × (Int × Int), e = .returned (.agg #[.int .i64 x.1.1, .int .i64 x.1.2, .int .i64 x.2.1.1, .int .i64 x.2.1.2, .int .i64 x.2.2.1, .int .i64 x.2.2.2]) ∧ True ∧ Drw zs v B G (n + 36) w0 w' ∧ w.grownBy w' (some G) := by
  have H := Lib.hid h
  have lG0 := h.lt
  have hD0 := Lib.hid (Drw.start h.rd h.cur)
  clear h
  have hfin : Hid (∀ (a1 a2 b1 b2 c1 c2 : Int) (w' : World), Drw zs v B G (n + 36) w w' → ∃ x : (Int × Int) × (Int × Int) × (Int × Int), Ending.returned (.agg #[.int .i64 a1, .int .i64 a2, .int .i64 b1, .int .i64 b2, .int .i64 c1, .int .i64 c2]) = .returned (.agg #[.int .i64 x.1.1, .int .i64 x.1.2, .int .i64 x.2.1.1, .int .i64 x.2.1.2, .int .i64 x.2.2.1, .int .i64 x.2.2.2]) ∧ True ∧ Drw zs v B G (n + 36) w0 w' ∧ w.grownBy w' (some G)) :=
    Lib.hid (fun a1 a2 b1 b2 c1 c2 w' hd => ⟨((a1, a2), (b1, b2), (c1, c2)), rfl, trivial, H.out.next hB hd.cur hd.gr, hd.gr⟩)
  go_enter Try.func64, Try.ntmps64
  go_wp2_with fail
  refine (tpRoot_any _).mono ?_
  rintro e v1 ⟨rfl, hB1⟩
  have hZ1 := hB1.size
  simp at hZ1
  have hR1 : Blk v1 w.heap.size 39 #[.int .i64 0, .int .i64 0, .int .i64 0, .int .i64 0, .int .i64 0, .int .i64 0] := Blk.call (by (repeat (first | with_reducible assumption | (with_reducible apply Blk.new_at; (first | rfl | (simp; done))) | with_reducible apply Blk.store3 | with_reducible apply Blk.store4 | (with_reducible apply Blk.farp; (first | omega | (simp <;> omega))) | with_reducible apply Blk.allocp | with_reducible apply Blk.drew | with_reducible apply Blk.drewN))) hB1
  have cR1 := hR1.cell; have fR1 := hR1.frozen; have lR1 := hR1.lt; have mR1 := Nat.ne_of_gt lR1; have nR1 := Nat.ne_of_lt lR1
  have hD1 := Lib.hid (show Drw zs v B G n w v1 from Drw.call (w := w.alloc (.cells #[.int .i64 0, .int .i64 0, .int .i64 0, .int .i64 0, .int .i64 0, .int .i64 0] 39)) (by repeat (first | with_reducible assumption | (with_reducible apply Hid.out; assumption) | with_reducible apply Drw.drewN | with_reducible apply Drw.drew | with_reducible apply Drw.alloc | (with_reducible refine Drw.setp ?_ ?_ ?_ ?_; (first | omega | (simp <;> omega)); (first | omega | (simp <;> omega)); (first | omega | (simp <;> omega))))) hB hB1)
  have lG1 : G < v1.heap.size := by omega
  clear hB1 hD0
  go_wp2_with fail
  refine (pick_d (by repeat (first | with_reducible assumption | (with_reducible apply Hid.out; assumption) | with_reducible apply Drw.drewN | with_reducible apply Drw.drew | with_reducible apply Drw.alloc | (with_reducible refine Drw.setp ?_ ?_ ?_ ?_; (first | omega | (simp <;> omega)); (first | omega | (simp <;> omega)); (first | omega | (simp <;> omega))))) hB 8 (by omega) (by omega)).mono ?_
  rintro e v2 ⟨x2, rfl, hx2, hD2', hG2⟩
  have hD2 := Lib.hid hD2'
  have lG2 := hD2'.lt
  have zG2 := hG2.size
  (try simp at zG2)
  have hR2 : Blk v2 (w.heap.size) 39 #[.int .i64 0, .int .i64 0, .int .i64 0, .int .i64 0, .int .i64 0, .int .i64 0] := Blk.grown (by (repeat (first | with_reducible assumption | (with_reducible apply Blk.new_at; (first | rfl | (simp; done))) | with_reducible apply Blk.store3 | with_reducible apply Blk.store4 | (with_reducible apply Blk.farp; (first | omega | (simp <;> omega))) | with_reducible apply Blk.allocp | with_reducible apply Blk.drew | with_reducible apply Blk.drewN))) hG2 (by simp <;> omega)
  have cR2 := hR2.cell; have fR2 := hR2.frozen; have lR2 := hR2.lt; have mR2 := Nat.ne_of_gt lR2; have nR2 := Nat.ne_of_lt lR2
  have hN2 : Blk v2 (v1.heap.size) 39 #[.int .i64 0, .int .i64 1, .int .i64 1, .int .i64 0, .int .i64 1, .int .i64 1] := Blk.grown (by (repeat (first | with_reducible assumption | (with_reducible apply Blk.new_at; (first | rfl | (simp; done))) | with_reducible apply Blk.store3 | with_reducible apply Blk.store4 | (with_reducible apply Blk.farp; (first | omega | (simp <;> omega))) | with_reducible apply Blk.allocp | with_reducible apply Blk.drew | with_reducible apply Blk.drewN))) hG2 (by simp <;> omega)
  have cN2 := hN2.cell; have fN2 := hN2.frozen; have lN2 := hN2.lt; have mN2 := Nat.ne_of_gt lN2; have nN2 := Nat.ne_of_lt lN2
  clear hD2' hG2
  obtain ⟨k0, rfl⟩ : ∃ k0 : Nat, x2 = (k0 : Int) := ⟨x2.toNat, by omega⟩
  have hk0 : k0 ≤ 7 := by omega
  have hD3 := Lib.hid (show Drw zs v B G (n + 2 + 2 * (7 - k0)) w v2 from Hid.out hD2 |>.more (by omega))
  have hpw : 1 * 2 ^ k0 ≤ 128 := by
    have := Nat.pow_le_pow_right (show 0 < 2 by omega) hk0
    omega
  have Hpw := Lib.hid hpw
  generalize hNN : v1.heap.size = N at *
  clear hNN hpw hx2 hD1 hD2 cR1 fR1 lR1 mR1 nR1 hR1
  go_wp2
  go_loopw [4] (fun vk wr => NdSt zs v B G n N w vk wr) (fun vk _ => (intOf vk).toNat)
  case atStart => exact ⟨k0, 1, 0, 1, 1, 0, 1, 1, rfl, hk0, Nat.le_refl _, Hpw.out, root_ndK, hD3.out, hR2, hN2, by omega⟩
  case round =>
    clear hD3 hR2 cR2 fR2 lR2 mR2 nR2 hN2 cN2 fN2 lN2 mN2 nN2 zG2 lG2 Hpw hk0
    obtain ⟨k, K, a1, a2, b1, b2, c1, c2, rfl, hk, hK1, hKk, hNd, hD, hR, hN, hwN⟩ := hrel
    have lG := hD.lt
    have HD := Lib.hid hD
    have HN := Lib.hid hNd
    have HK := Lib.hid hKk
    have cR := hR.cell; have fR := hR.frozen; have lR := hR.lt; have mR := Nat.ne_of_gt lR; have nR := Nat.ne_of_lt lR
    have cN := hN.cell; have fN := hN.frozen; have lN := hN.lt; have mN := Nat.ne_of_gt lN; have nN := Nat.ne_of_lt lN
    clear hD hNd hKk
    by_cases h0 : 0 < k
    · have t0 : (0 : Int) < (k : Int) := by omega
      have hK2 : 2 * K ≤ 128 := by
        have h5 := HK.out
        obtain ⟨j, rfl⟩ : ∃ j, k = j + 1 := ⟨k - 1, by omega⟩
        rw [Nat.pow_succ] at h5
        have h6 : 1 ≤ 2 ^ j := Nat.pow_pos (by omega)
        have h7 : K * (2 ^ j * 2) = 2 * (K * 2 ^ j) := by grind
        have h8 : K * 1 ≤ K * 2 ^ j := Nat.mul_le_mul_left K h6
        omega
      go_upto_region 5 with (fail)
      go_region_with (first | (go_at_call 118; refine (pick_d (n := n + 2 + 2 * (7 - k)) (w0 := w) (by repeat (first | with_reducible assumption | (with_reducible apply Hid.out; assumption) | with_reducible apply Drw.drewN | with_reducible apply Drw.drew | with_reducible apply Drw.alloc | (with_reducible refine Drw.setp ?_ ?_ ?_ ?_; (first | omega | (simp <;> omega)); (first | omega | (simp <;> omega)); (first | omega | (simp <;> omega))))) hB 3 (by omega) (by omega)).mono ?_; rintro e v3 ⟨x3, rfl, hx3, hD3', hG3⟩; have hD3 := Lib.hid hD3'; have lG3 := hD3'.lt; have zG3 := hG3.size; (try simp at zG3); have hR3 : Blk v3 (w.heap.size) 39 #[.int .i64 0, .int .i64 0, .int .i64 0, .int .i64 0, .int .i64 0, .int .i64 0] := Blk.grown (by (repeat (first | with_reducible assumption | (with_reducible apply Blk.new_at; (first | rfl | (simp; done))) | with_reducible apply Blk.store3 | with_reducible apply Blk.store4 | (with_reducible apply Blk.farp; (first | omega | (simp <;> omega))) | with_reducible apply Blk.allocp | with_reducible apply Blk.drew | with_reducible apply Blk.drewN))) hG3 (by simp <;> omega); have cR3 := hR3.cell; have fR3 := hR3.frozen; have lR3 := hR3.lt; have mR3 := Nat.ne_of_gt lR3; have nR3 := Nat.ne_of_lt lR3; have hN3 : Blk v3 N 39 #[.int .i64 a1, .int .i64 a2, .int .i64 b1, .int .i64 b2, .int .i64 c1, .int .i64 c2] := Blk.grown (by (repeat (first | with_reducible assumption | (with_reducible apply Blk.new_at; (first | rfl | (simp; done))) | with_reducible apply Blk.store3 | with_reducible apply Blk.store4 | (with_reducible apply Blk.farp; (first | omega | (simp <;> omega))) | with_reducible apply Blk.allocp | with_reducible apply Blk.drew | with_reducible apply Blk.drewN))) hG3 (by simp <;> omega); have cN3 := hN3.cell; have fN3 := hN3.frozen; have lN3 := hN3.lt; have mN3 := Nat.ne_of_gt lN3; have nN3 := Nat.ne_of_lt lN3; have w3 : IntKind.i64.wrap (1 + x3) = 1 + x3 := IntWalk.i64_in _ (by omega); clear hD3' hG3) | (go_at_call 73; refine (step_d K x3 a1 a2 b1 b2 c1 c2 _ HN.out (by omega) (by omega)).mono ?_; rintro e v4 ⟨s1, s2, t1, t2, u1, u2, rfl, hN4, hB4⟩; have HN4 := Lib.hid hN4; have hD4 := Lib.hid (Drw.call hD3.out hB hB4); have hZ4 := hB4.size; (try simp at hZ4); have hR4 : Blk v4 (w.heap.size) 39 #[.int .i64 0, .int .i64 0, .int .i64 0, .int .i64 0, .int .i64 0, .int .i64 0] := Blk.call (by (repeat (first | with_reducible assumption | (with_reducible apply Blk.new_at; (first | rfl | (simp; done))) | with_reducible apply Blk.store3 | with_reducible apply Blk.store4 | (with_reducible apply Blk.farp; (first | omega | (simp <;> omega))) | with_reducible apply Blk.allocp | with_reducible apply Blk.drew | with_reducible apply Blk.drewN))) hB4; have cR4 := hR4.cell; have fR4 := hR4.frozen; have lR4 := hR4.lt; have mR4 := Nat.ne_of_gt lR4; have nR4 := Nat.ne_of_lt lR4; have hN4b : Blk v4 N 39 #[.int .i64 a1, .int .i64 a2, .int .i64 b1, .int .i64 b2, .int .i64 c1, .int .i64 c2] := Blk.call (by (repeat (first | with_reducible assumption | (with_reducible apply Blk.new_at; (first | rfl | (simp; done))) | with_reducible apply Blk.store3 | with_reducible apply Blk.store4 | (with_reducible apply Blk.farp; (first | omega | (simp <;> omega))) | with_reducible apply Blk.allocp | with_reducible apply Blk.drew | with_reducible apply Blk.drewN))) hB4; have cN4 := hN4b.cell; have fN4 := hN4b.frozen; have lN4 := hN4b.lt; have mN4 := Nat.ne_of_gt lN4; have nN4 := Nat.ne_of_lt lN4; clear hN4 hB4))
      all_goals
        have hM := Blk.store6 (a := .int .i64 s1) (b := .int .i64 s2) (c := .int .i64 t1) (d := .int .i64 t2) (e := .int .i64 u1) (f := .int .i64 u2) hN4b
        have hS1 := Blk.far6 hR4 (N := N) (by omega) (.int .i64 s1) (.int .i64 s2) (.int .i64 t1) (.int .i64 t2) (.int .i64 u1) (.int .i64 u2)
        have hS2 := Drw.set6 hD4.out (N := N) (by omega) (by omega) (by omega) (.int .i64 s1) (.int .i64 s2) (.int .i64 t1) (.int .i64 t2) (.int .i64 u1) (.int .i64 u2)
        obtain ⟨v5, hv5⟩ : ∃ v, v = (((((v4.setCell ⟨N, 0, none⟩ (.int .i64 s1)).setCell ⟨N, 1, none⟩ (.int .i64 s2)).setCell ⟨N, 2, none⟩ (.int .i64 t1)).setCell ⟨N, 3, none⟩ (.int .i64 t2)).setCell ⟨N, 4, none⟩ (.int .i64 u1)).setCell ⟨N, 5, none⟩ (.int .i64 u2) := ⟨_, rfl⟩
        rw [← hv5] at hM hS1 hS2
        rw [← hv5]
        have hS3 := Lib.hid hS2
        have HK5 : Hid (2 * K * 2 ^ (k - 1) ≤ 128) := Lib.hid (by
          have h5 := HK.out
          obtain ⟨j, rfl⟩ : ∃ j, k = j + 1 := ⟨k - 1, by omega⟩
          rw [Nat.pow_succ] at h5
          have h7 : K * (2 ^ j * 2) = 2 * K * 2 ^ j := by grind
          rw [Nat.add_sub_cancel]
          omega)
        clear hv5 hS2 hN4b cN4 fN4 lN4 mN4 nN4 hR4 cR4 fR4 lR4 mR4 nR4 hD4 hZ4 hR3 cR3 fR3 lR3 mR3 nR3 hN3 cN3 fN3 lN3 mN3 nN3 hD3 w3
        go_wp2
        go_roundw
        case rel => exact ⟨k - 1, 2 * K, s1, s2, t1, t2, u1, u2, by first | go_num | (congr 1; omega), by omega, by omega, HK5.out, HN4.out, hS3.out.more (by omega), hS1, hM, hwN⟩
        case measure => simp [intOf] <;> omega
    · obtain rfl : k = 0 := by omega
      have HD0 := Lib.hid (show Drw zs v B G (n + 16) w wr from HD.out.more (by omega))
      have hK8 : K ≤ 128 := by have := HK.out; rw [Nat.pow_zero, Nat.mul_one] at this; exact this
      have bc := HN.out.2 (c1, c2) (by simp)
      obtain ⟨⟨bc1, bc2⟩, bc3, bc4⟩ := bc
      simp only at bc1 bc2 bc3 bc4
      have bc1' : -128 ≤ c1 := by omega
      have bc2' : c1 ≤ 128 := by omega
      have bc3' : -128 ≤ c2 := by omega
      have bc4' : c2 ≤ 128 := by omega
      clear HD HK HN bc1 bc2 bc3 bc4 hK8 hK1 h0 hk
      go_wp2_with fail
      refine (pick_d (by repeat (first | with_reducible assumption | (with_reducible apply Hid.out; assumption) | with_reducible apply Drw.drewN | with_reducible apply Drw.drew | with_reducible apply Drw.alloc | (with_reducible refine Drw.setp ?_ ?_ ?_ ?_; (first | omega | (simp <;> omega)); (first | omega | (simp <;> omega)); (first | omega | (simp <;> omega))))) hB 14 (by omega) (by omega)).mono ?_
      rintro e v5 ⟨x5, rfl, hx5, hD5', hG5⟩
      have hD5 := Lib.hid hD5'
      have lG5 := hD5'.lt
      have zG5 := hG5.size
      (try simp at zG5)
      have hR5 : Blk v5 (w.heap.size) 39 #[.int .i64 0, .int .i64 0, .int .i64 0, .int .i64 0, .int .i64 0, .int .i64 0] := Blk.grown (by (repeat (first | with_reducible assumption | (with_reducible apply Blk.new_at; (first | rfl | (simp; done))) | with_reducible apply Blk.store3 | with_reducible apply Blk.store4 | (with_reducible apply Blk.farp; (first | omega | (simp <;> omega))) | with_reducible apply Blk.allocp | with_reducible apply Blk.drew | with_reducible apply Blk.drewN))) hG5 (by simp <;> omega)
      have cR5 := hR5.cell; have fR5 := hR5.frozen; have lR5 := hR5.lt; have mR5 := Nat.ne_of_gt lR5; have nR5 := Nat.ne_of_lt lR5
      have hN5 : Blk v5 (N) 39 #[.int .i64 a1, .int .i64 a2, .int .i64 b1, .int .i64 b2, .int .i64 c1, .int .i64 c2] := Blk.grown (by (repeat (first | with_reducible assumption | (with_reducible apply Blk.new_at; (first | rfl | (simp; done))) | with_reducible apply Blk.store3 | with_reducible apply Blk.store4 | (with_reducible apply Blk.farp; (first | omega | (simp <;> omega))) | with_reducible apply Blk.allocp | with_reducible apply Blk.drew | with_reducible apply Blk.drewN))) hG5 (by simp <;> omega)
      have cN5 := hN5.cell; have fN5 := hN5.frozen; have lN5 := hN5.lt; have mN5 := Nat.ne_of_gt lN5; have nN5 := Nat.ne_of_lt lN5
      clear hD5' hG5
      clear HD0 cR fR lR mR nR cN fN lN mN nN hR hN
      by_cases e0 : x5 = 0
      · subst e0
        clear hx5
        go_wp2_with fail
        refine (plain_d (by repeat (first | with_reducible assumption | (with_reducible apply Hid.out; assumption) | with_reducible apply Drw.drewN | with_reducible apply Drw.drew | with_reducible apply Drw.alloc | (with_reducible refine Drw.setp ?_ ?_ ?_ ?_; (first | omega | (simp <;> omega)); (first | omega | (simp <;> omega)); (first | omega | (simp <;> omega))))) hB (by omega)).mono ?_
        rintro e v6 ⟨p6, rfl, hx6, hD6', hG6⟩
        have hD6 := Lib.hid hD6'
        have lG6 := hD6'.lt
        have zG6 := hG6.size
        (try simp at zG6)
        have hR6 : Blk v6 (w.heap.size) 39 #[.int .i64 0, .int .i64 0, .int .i64 0, .int .i64 0, .int .i64 0, .int .i64 0] := Blk.grown (by (repeat (first | with_reducible assumption | (with_reducible apply Blk.new_at; (first | rfl | (simp; done))) | with_reducible apply Blk.store3 | with_reducible apply Blk.store4 | (with_reducible apply Blk.farp; (first | omega | (simp <;> omega))) | with_reducible apply Blk.allocp | with_reducible apply Blk.drew | with_reducible apply Blk.drewN))) hG6 (by simp <;> omega)
        have cR6 := hR6.cell; have fR6 := hR6.frozen; have lR6 := hR6.lt; have mR6 := Nat.ne_of_gt lR6; have nR6 := Nat.ne_of_lt lR6
        have hN6 : Blk v6 (N) 39 #[.int .i64 a1, .int .i64 a2, .int .i64 b1, .int .i64 b2, .int .i64 c1, .int .i64 c2] := Blk.grown (by (repeat (first | with_reducible assumption | (with_reducible apply Blk.new_at; (first | rfl | (simp; done))) | with_reducible apply Blk.store3 | with_reducible apply Blk.store4 | (with_reducible apply Blk.farp; (first | omega | (simp <;> omega))) | with_reducible apply Blk.allocp | with_reducible apply Blk.drew | with_reducible apply Blk.drewN))) hG6 (by simp <;> omega)
        have cN6 := hN6.cell; have fN6 := hN6.frozen; have lN6 := hN6.lt; have mN6 := Nat.ne_of_gt lN6; have nN6 := Nat.ne_of_lt lN6
        clear hD6' hG6
        obtain ⟨p1, p2⟩ := p6
        go_wp2
        exact bodyPost_ret (v := .agg #[.int .i64 a1, .int .i64 a2, .int .i64 p1, .int .i64 p2, .int .i64 c1, .int .i64 c2]) (by simp [results, Try.results64, go_sem, *]) rfl (hfin.out _ _ _ _ _ _ _ (Drw.more (n := n + 16 + 2 + 18) (by repeat (first | with_reducible assumption | (with_reducible apply Hid.out; assumption) | with_reducible apply Drw.drewN | with_reducible apply Drw.drew | with_reducible apply Drw.alloc | (with_reducible refine Drw.setp ?_ ?_ ?_ ?_; (first | omega | (simp <;> omega)); (first | omega | (simp <;> omega)); (first | omega | (simp <;> omega))))) (by omega)))
      · have n0 : (x5 == 0) = false := by rw [beq_eq_false_iff_ne]; exact e0
        by_cases e1 : x5 = 1
        · subst e1
          clear hx5 e0 n0
          go_wp2
          exact bodyPost_ret (v := .agg #[.int .i64 b1, .int .i64 b2, .int .i64 a1, .int .i64 a2, .int .i64 c1, .int .i64 c2]) (by simp [results, Try.results64, go_sem, *]) rfl (hfin.out _ _ _ _ _ _ _ (Drw.more (n := n + 16 + 2) (by repeat (first | with_reducible assumption | (with_reducible apply Hid.out; assumption) | with_reducible apply Drw.drewN | with_reducible apply Drw.drew | with_reducible apply Drw.alloc | (with_reducible refine Drw.setp ?_ ?_ ?_ ?_; (first | omega | (simp <;> omega)); (first | omega | (simp <;> omega)); (first | omega | (simp <;> omega))))) (by omega)))
        · have n1 : (x5 == 1) = false := by rw [beq_eq_false_iff_ne]; exact e1
          by_cases e2 : x5 = 2
          · subst e2
            clear hx5 e0 n0 e1 n1
            go_wp2
            exact bodyPost_ret (v := .agg #[.int .i64 a1, .int .i64 a2, .int .i64 b1, .int .i64 b2, .int .i64 (-c1), .int .i64 (-c2)]) (by simp [results, Try.results64, go_sem, *]) rfl (hfin.out _ _ _ _ _ _ _ (Drw.more (n := n + 16 + 2) (by repeat (first | with_reducible assumption | (with_reducible apply Hid.out; assumption) | with_reducible apply Drw.drewN | with_reducible apply Drw.drew | with_reducible apply Drw.alloc | (with_reducible refine Drw.setp ?_ ?_ ?_ ?_; (first | omega | (simp <;> omega)); (first | omega | (simp <;> omega)); (first | omega | (simp <;> omega))))) (by omega)))
          · have n2 : (x5 == 2) = false := by rw [beq_eq_false_iff_ne]; exact e2
            by_cases e3 : x5 = 3
            · subst e3
              clear hx5 e0 n0 e1 n1 e2 n2
              go_wp2_with fail
              refine (among_d (w := v5) (by repeat (first | with_reducible assumption | (with_reducible apply Hid.out; assumption) | with_reducible apply Drw.drewN | with_reducible apply Drw.drew | with_reducible apply Drw.alloc | (with_reducible refine Drw.setp ?_ ?_ ?_ ?_; (first | omega | (simp <;> omega)); (first | omega | (simp <;> omega)); (first | omega | (simp <;> omega))))) hB [999999, 1000000, -1000000] (fun _ => True) (by simp) (by decide) (by decide) (by omega)).mono ?_
              rintro e v6 ⟨x6, rfl, _, hD6', hG6⟩
              have hD6 := Lib.hid hD6'
              have lG6 := hD6'.lt
              have zG6 := hG6.size
              have hR6 : Blk v6 (w.heap.size) 39 #[.int .i64 0, .int .i64 0, .int .i64 0, .int .i64 0, .int .i64 0, .int .i64 0] := Blk.grown (by (repeat (first | with_reducible assumption | (with_reducible apply Blk.new_at; (first | rfl | (simp; done))) | with_reducible apply Blk.store3 | with_reducible apply Blk.store4 | (with_reducible apply Blk.farp; (first | omega | (simp <;> omega))) | with_reducible apply Blk.allocp | with_reducible apply Blk.drew | with_reducible apply Blk.drewN))) hG6 (by simp <;> omega)
              have cR6 := hR6.cell; have fR6 := hR6.frozen; have lR6 := hR6.lt; have mR6 := Nat.ne_of_gt lR6; have nR6 := Nat.ne_of_lt lR6
              have hN6 : Blk v6 (N) 39 #[.int .i64 a1, .int .i64 a2, .int .i64 b1, .int .i64 b2, .int .i64 c1, .int .i64 c2] := Blk.grown (by (repeat (first | with_reducible assumption | (with_reducible apply Blk.new_at; (first | rfl | (simp; done))) | with_reducible apply Blk.store3 | with_reducible apply Blk.store4 | (with_reducible apply Blk.farp; (first | omega | (simp <;> omega))) | with_reducible apply Blk.allocp | with_reducible apply Blk.drew | with_reducible apply Blk.drewN))) hG6 (by simp <;> omega)
              have cN6 := hN6.cell; have fN6 := hN6.frozen; have lN6 := hN6.lt; have mN6 := Nat.ne_of_gt lN6; have nN6 := Nat.ne_of_lt lN6
              clear hD6' hG6
              go_wp2_with fail
              refine (among_d (w := v6) (by repeat (first | with_reducible assumption | (with_reducible apply Hid.out; assumption) | with_reducible apply Drw.drewN | with_reducible apply Drw.drew | with_reducible apply Drw.alloc | (with_reducible refine Drw.setp ?_ ?_ ?_ ?_; (first | omega | (simp <;> omega)); (first | omega | (simp <;> omega)); (first | omega | (simp <;> omega))))) hB [1000000, 999999, -999999] (fun _ => True) (by simp) (by decide) (by decide) (by omega)).mono ?_
              rintro e v7 ⟨x7, rfl, _, hD7', hG7⟩
              have hD7 := Lib.hid hD7'
              have lG7 := hD7'.lt
              have zG7 := hG7.size
              have hR7 : Blk v7 (w.heap.size) 39 #[.int .i64 0, .int .i64 0, .int .i64 0, .int .i64 0, .int .i64 0, .int .i64 0] := Blk.grown (by (repeat (first | with_reducible assumption | (with_reducible apply Blk.new_at; (first | rfl | (simp; done))) | with_reducible apply Blk.store3 | with_reducible apply Blk.store4 | (with_reducible apply Blk.farp; (first | omega | (simp <;> omega))) | with_reducible apply Blk.allocp | with_reducible apply Blk.drew | with_reducible apply Blk.drewN))) hG7 (by simp <;> omega)
              have cR7 := hR7.cell; have fR7 := hR7.frozen; have lR7 := hR7.lt; have mR7 := Nat.ne_of_gt lR7; have nR7 := Nat.ne_of_lt lR7
              have hN7 : Blk v7 (N) 39 #[.int .i64 a1, .int .i64 a2, .int .i64 b1, .int .i64 b2, .int .i64 c1, .int .i64 c2] := Blk.grown (by (repeat (first | with_reducible assumption | (with_reducible apply Blk.new_at; (first | rfl | (simp; done))) | with_reducible apply Blk.store3 | with_reducible apply Blk.store4 | (with_reducible apply Blk.farp; (first | omega | (simp <;> omega))) | with_reducible apply Blk.allocp | with_reducible apply Blk.drew | with_reducible apply Blk.drewN))) hG7 (by simp <;> omega)
              have cN7 := hN7.cell; have fN7 := hN7.frozen; have lN7 := hN7.lt; have mN7 := Nat.ne_of_gt lN7; have nN7 := Nat.ne_of_lt lN7
              clear hD7' hG7
              obtain ⟨⟨⟨s1, s2⟩, ⟨t1, t2⟩, ⟨u1, u2⟩⟩, hs⟩ : ∃ m, srt3 (1, x6) (0, 1) (1, x7) = m := ⟨_, rfl⟩
              have hMk := Lib.hid (fun w => tpMake_any 1 x6 0 1 1 x7 s1 s2 t1 t2 u1 u2 w hs)
              clear hs
              go_wp2_with fail
              refine (hMk.out _).mono ?_
              rintro e v8 ⟨rfl, hB8⟩
              have hZ8 := hB8.size
              (try simp at hZ8)
              have hD8 := Lib.hid (show Drw zs v B G (n + 16 + 2 + 2 + 2) w v8 from Drw.call (Hid.out hD7) hB hB8)
              have lG8 : G < v8.heap.size := by omega
              have hR8 : Blk v8 (w.heap.size) 39 #[.int .i64 0, .int .i64 0, .int .i64 0, .int .i64 0, .int .i64 0, .int .i64 0] := Blk.call (by (repeat (first | with_reducible assumption | (with_reducible apply Blk.new_at; (first | rfl | (simp; done))) | with_reducible apply Blk.store3 | with_reducible apply Blk.store4 | (with_reducible apply Blk.farp; (first | omega | (simp <;> omega))) | with_reducible apply Blk.allocp | with_reducible apply Blk.drew | with_reducible apply Blk.drewN))) hB8
              have cR8 := hR8.cell; have fR8 := hR8.frozen; have lR8 := hR8.lt; have mR8 := Nat.ne_of_gt lR8; have nR8 := Nat.ne_of_lt lR8
              have hN8 : Blk v8 (N) 39 #[.int .i64 a1, .int .i64 a2, .int .i64 b1, .int .i64 b2, .int .i64 c1, .int .i64 c2] := Blk.call (by (repeat (first | with_reducible assumption | (with_reducible apply Blk.new_at; (first | rfl | (simp; done))) | with_reducible apply Blk.store3 | with_reducible apply Blk.store4 | (with_reducible apply Blk.farp; (first | omega | (simp <;> omega))) | with_reducible apply Blk.allocp | with_reducible apply Blk.drew | with_reducible apply Blk.drewN))) hB8
              have cN8 := hN8.cell; have fN8 := hN8.frozen; have lN8 := hN8.lt; have mN8 := Nat.ne_of_gt lN8; have nN8 := Nat.ne_of_lt lN8
              clear hB8 hD7 hD6 hD5
              go_wp2
              exact bodyPost_ret (v := .agg #[.int .i64 s1, .int .i64 s2, .int .i64 t1, .int .i64 t2, .int .i64 u1, .int .i64 u2]) (by simp [results, Try.results64, go_sem, *]) rfl (hfin.out _ _ _ _ _ _ _ (Drw.more (n := n + 16 + 2 + 2 + 2) (by repeat (first | with_reducible assumption | (with_reducible apply Hid.out; assumption) | with_reducible apply Drw.drewN | with_reducible apply Drw.drew | with_reducible apply Drw.alloc | (with_reducible refine Drw.setp ?_ ?_ ?_ ?_; (first | omega | (simp <;> omega)); (first | omega | (simp <;> omega)); (first | omega | (simp <;> omega))))) (by omega)))
            · have n3 : (x5 == 3) = false := by rw [beq_eq_false_iff_ne]; exact e3
              clear hx5 e0 e1 e2 e3
              go_wp2
              exact bodyPost_ret (v := .agg #[.int .i64 a1, .int .i64 a2, .int .i64 b1, .int .i64 b2, .int .i64 c1, .int .i64 c2]) (by simp [results, Try.results64, go_sem, *]) rfl (hfin.out _ _ _ _ _ _ _ (Drw.more (n := n + 16 + 2) (by repeat (first | with_reducible assumption | (with_reducible apply Hid.out; assumption) | with_reducible apply Drw.drewN | with_reducible apply Drw.drew | with_reducible apply Drw.alloc | (with_reducible refine Drw.setp ?_ ?_ ?_ ?_; (first | omega | (simp <;> omega)); (first | omega | (simp <;> omega)); (first | omega | (simp <;> omega))))) (by omega)))
end
end

section
open Go.RowKit

/-- What a draw of a form and a node gives. -/
def RetDN (w : World) (e : Ending) (w' : World) : Prop := ∃ (f : Fm) (a1 a2 b1 b2 c1 c2 : Int), e = .returned (.tuple #[.agg #[.int .i64 f.a, .int .i64 f.b, .int .i64 f.c], .agg #[.int .i64 a1, .int .i64 a2, .int .i64 b1, .int .i64 b2, .int .i64 c1, .int .i64 c2]]) ∧ Below w.heap.size w w'
set_option maxRecDepth 100000 in
set_option maxHeartbeats 6400000 in
theorem drawDT_any (zs : List Int) (v : Value) (B : Nat) (w : World) (hr : RdB zs v B w) (hB0 : B ≤ w.heap.size) :
    Calls Try.prog 16 #[v] w (RetDN w) := by
  obtain ⟨A, m, c, rfl⟩ := hr.shape
  have hD0 := Lib.hid (drw_start3 (.cells #[.int .i64 0, .int .i64 0, .int .i64 0] 35) (.cells #[.int .i64 0, .int .i64 0, .int .i64 0, .int .i64 0, .int .i64 0, .int .i64 0] 39) hr)
  have hB : B ≤ w.heap.size + 1 + 1 := by omega
  clear hr
  have hfin : Hid (∀ (x y z a1 a2 b1 b2 c1 c2 : Int) (w' : World), Drw zs (.slice A m c) B (w.heap.size + 1 + 1) 200 w w' → RetDN w (.returned (.tuple #[.agg #[.int .i64 x, .int .i64 y, .int .i64 z], .agg #[.int .i64 a1, .int .i64 a2, .int .i64 b1, .int .i64 b2, .int .i64 c1, .int .i64 c2]])) w') :=
    Lib.hid (fun x y z a1 a2 b1 b2 c1 c2 w' hd => ⟨⟨x, y, z⟩, a1, a2, b1, b2, c1, c2, rfl, below_cur3 hd.gr⟩)
  go_enter Try.func16, Try.ntmps16
  go_wp2_with fail
  refine (definite_d (by repeat (first | with_reducible assumption | (with_reducible apply Hid.out; assumption) | with_reducible apply Drw.drewN | with_reducible apply Drw.drew | with_reducible apply Drw.alloc | (with_reducible refine Drw.setp ?_ ?_ ?_ ?_; (first | omega | (simp <;> omega)); (first | omega | (simp <;> omega)); (first | omega | (simp <;> omega))))) hB (by omega)).mono ?_
  rintro e v1 ⟨f1, rfl, hx1, hD1', hG1⟩
  have hD1 := Lib.hid hD1'
  have lG1 := hD1'.lt
  have zG1 := hG1.size
  (try simp at zG1)
  have hA1 : Blk v1 (w.heap.size) 35 #[.int .i64 0, .int .i64 0, .int .i64 0] := Blk.grown (by (repeat (first | with_reducible assumption | (with_reducible apply Blk.new_at; (first | rfl | (simp; done))) | with_reducible apply Blk.store3 | with_reducible apply Blk.store4 | (with_reducible apply Blk.farp; (first | omega | (simp <;> omega))) | with_reducible apply Blk.allocp | with_reducible apply Blk.drew | with_reducible apply Blk.drewN))) hG1 (by simp <;> omega)
  have cA1 := hA1.cell; have fA1 := hA1.frozen; have lA1 := hA1.lt; have mA1 := Nat.ne_of_gt lA1; have nA1 := Nat.ne_of_lt lA1
  have hR1 : Blk v1 (w.heap.size + 1) 39 #[.int .i64 0, .int .i64 0, .int .i64 0, .int .i64 0, .int .i64 0, .int .i64 0] := Blk.grown (by (repeat (first | with_reducible assumption | (with_reducible apply Blk.new_at; (first | rfl | (simp; done))) | with_reducible apply Blk.store3 | with_reducible apply Blk.store4 | (with_reducible apply Blk.farp; (first | omega | (simp <;> omega))) | with_reducible apply Blk.allocp | with_reducible apply Blk.drew | with_reducible apply Blk.drewN))) hG1 (by simp <;> omega)
  have cR1 := hR1.cell; have fR1 := hR1.frozen; have lR1 := hR1.lt; have mR1 := Nat.ne_of_gt lR1; have nR1 := Nat.ne_of_lt lR1
  clear hD1' hG1
  clear hx1
  go_wp2_with fail
  go_region_with (go_at_call 64; refine (node_d (by repeat (first | with_reducible assumption | (with_reducible apply Hid.out; assumption) | with_reducible apply Drw.drewN | with_reducible apply Drw.drew | with_reducible apply Drw.alloc | (with_reducible refine Drw.setp ?_ ?_ ?_ ?_; (first | omega | (simp <;> omega)); (first | omega | (simp <;> omega)); (first | omega | (simp <;> omega))))) hB (by omega)).mono ?_; rintro e v4 ⟨x4, rfl, _, hD4', hG4⟩; have hD4 := Lib.hid hD4'; have lG4 := hD4'.lt; have zG4 := hG4.size; (try simp at zG4); have hA4 : Blk v4 (w.heap.size) 35 #[.int .i64 0, .int .i64 0, .int .i64 0] := Blk.grown (by (repeat (first | with_reducible assumption | (with_reducible apply Blk.new_at; (first | rfl | (simp; done))) | with_reducible apply Blk.store3 | with_reducible apply Blk.store4 | (with_reducible apply Blk.farp; (first | omega | (simp <;> omega))) | with_reducible apply Blk.allocp | with_reducible apply Blk.drew | with_reducible apply Blk.drewN))) hG4 (by simp <;> omega); have cA4 := hA4.cell; have fA4 := hA4.frozen; have lA4 := hA4.lt; have mA4 := Nat.ne_of_gt lA4; have nA4 := Nat.ne_of_lt lA4; have hR4 : Blk v4 (w.heap.size + 1) 39 #[.int .i64 0, .int .i64 0, .int .i64 0, .int .i64 0, .int .i64 0, .int .i64 0] := Blk.grown (by (repeat (first | with_reducible assumption | (with_reducible apply Blk.new_at; (first | rfl | (simp; done))) | with_reducible apply Blk.store3 | with_reducible apply Blk.store4 | (with_reducible apply Blk.farp; (first | omega | (simp <;> omega))) | with_reducible apply Blk.allocp | with_reducible apply Blk.drew | with_reducible apply Blk.drewN))) hG4 (by simp <;> omega); have cR4 := hR4.cell; have fR4 := hR4.frozen; have lR4 := hR4.lt; have mR4 := Nat.ne_of_gt lR4; have nR4 := Nat.ne_of_lt lR4; have hP4 : Blk v4 (v1.heap.size) 35 #[.int .i64 f1.a, .int .i64 f1.b, .int .i64 f1.c] := Blk.grown (by (repeat (first | with_reducible assumption | (with_reducible apply Blk.new_at; (first | rfl | (simp; done))) | with_reducible apply Blk.store3 | with_reducible apply Blk.store4 | (with_reducible apply Blk.farp; (first | omega | (simp <;> omega))) | with_reducible apply Blk.allocp | with_reducible apply Blk.drew | with_reducible apply Blk.drewN))) hG4 (by simp <;> omega); have cP4 := hP4.cell; have fP4 := hP4.frozen; have lP4 := hP4.lt; have mP4 := Nat.ne_of_gt lP4; have nP4 := Nat.ne_of_lt lP4)
  all_goals
    go_wp2
    exact bodyPost_ret (v := .tuple #[.agg #[.int .i64 f1.a, .int .i64 f1.b, .int .i64 f1.c], .agg #[.int .i64 x4.1.1, .int .i64 x4.1.2, .int .i64 x4.2.1.1, .int .i64 x4.2.1.2, .int .i64 x4.2.2.1, .int .i64 x4.2.2.2]]) (by simp [results, Try.results16, go_sem, *]) rfl (hfin.out _ _ _ _ _ _ _ _ _ _ (Drw.more (n := 0 + 32 + 36) (by repeat (first | with_reducible assumption | (with_reducible apply Hid.out; assumption) | with_reducible apply Drw.drewN | with_reducible apply Drw.drew | with_reducible apply Drw.alloc | (with_reducible refine Drw.setp ?_ ?_ ?_ ?_; (first | omega | (simp <;> omega)); (first | omega | (simp <;> omega)); (first | omega | (simp <;> omega))))) (by omega)))
end
end Go.Proofs.Ytkpiiicefmkhcaa
