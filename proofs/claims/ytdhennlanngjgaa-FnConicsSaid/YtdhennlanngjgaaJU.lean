/- Contracts: the draws of the law on conics (written by gen_JU.py). -/
import Derived.Test.YtdhennlanngjgaaDZ
import Derived.Test.YtdhennlanngjgaaDX
import Derived.Test.YtdhennlanngjgaaJI
import Derived.Deep.RegionHeld3
import Derived.Deep.OwnRows
namespace Go.Proofs.Ytdhennlanngjgaa
open Go.RowKit

theorem drw_start {zs : List Int} {v : Value} {B : Nat} {w : World} (hr : RdB zs v B w) : Drw zs v B w.heap.size 0 (w.alloc (.cells #[v, .int .i64 0, .int .u64 0] 61)) (w.alloc (.cells #[v, .int .i64 0, .int .u64 0] 61)) :=
  Drw.start (hr.grown (grown_alloc _ _ none) (fun k hk => by cases hk)) cur_start
theorem drw_start2 {zs : List Int} {v : Value} {B : Nat} {w : World} (r : Obj) (hr : RdB zs v B w) : Drw zs v B (w.heap.size + 1) 0 w ((w.alloc r).alloc (.cells #[v, .int .i64 0, .int .u64 0] 61)) := by
  have h := drw_start (w := w.alloc r) (hr.grown (grown_alloc _ _ none) (fun k hk => by cases hk))
  refine ⟨h.rd, by simpa using h.cur, (grown_alloc _ _ _).trans (grown_alloc _ _ _)⟩
theorem below_cur2 {w w' : World} (h : w.grownBy w' (some (w.heap.size + 1))) : Below w.heap.size w w' :=
  (Below.refl w.heap.size w).grown h (Nat.le_refl _) (fun k hk => by injection hk with hk; omega)
theorem drw_start3 {zs : List Int} {v : Value} {B : Nat} {w : World} (r r2 : Obj) (hr : RdB zs v B w) : Drw zs v B (w.heap.size + 1 + 1) 0 w (((w.alloc r).alloc r2).alloc (.cells #[v, .int .i64 0, .int .u64 0] 61)) := by
  have h := drw_start2 (w := w.alloc r) r2 (hr.grown (grown_alloc _ _ none) (fun k hk => by cases hk))
  refine ⟨h.rd, by simpa using h.cur, (grown_alloc _ _ _).trans (by simpa using h.gr)⟩
theorem below_cur3 {w w' : World} (h : w.grownBy w' (some (w.heap.size + 1 + 1))) : Below w.heap.size w w' :=
  (Below.refl w.heap.size w).grown h (Nat.le_refl _) (fun k hk => by injection hk with hk; omega)
section
variable {zs : List Int} {v : Value} {B G n m : Nat} {w0 w w1 w2 : World}
theorem among_at (h : Drw zs v B G n w0 w) (hB : B ≤ G) (L : List Int) (P : Int → Prop) (hP : ∀ x ∈ L, P x) (h1 : 1 ≤ L.length) (h2 : L.length ≤ 1000) (hn : n + 2 ≤ 100000000) {N k : Nat} {xs : Array Value} (hN : N = w.heap.size) (hk : L.length = k) (hxs : (cellsI L).toArray = xs) :
    Calls Try.prog 67 #[.pointer (some ⟨G, 0, none⟩), .slice (some ⟨N, 0, none⟩) k k] (w.alloc (.cells xs 3)) fun e w' => ∃ x : Int, e = .returned (.int .i64 x) ∧ P x ∧ Drw zs v B G (n + 2) w0 w' ∧ w.grownBy w' (some G) := by
  subst hN hk hxs
  exact among_d h hB L P hP h1 h2 hn
end

theorem made3 : madeCells #[(.int .i64 0 : Value)] 3 = #[.int .i64 0, .int .i64 0, .int .i64 0] := by kernel_rfl
theorem mulb {x a M : Int} (h : -M ≤ x ∧ x ≤ M) (ha : 0 ≤ a ∧ a ≤ 6) (hM : 0 ≤ M) : -(M * 6) ≤ x * a ∧ x * a ≤ M * 6 := by
  have e : (x * a).natAbs = x.natAbs * a.natAbs := Int.natAbs_mul x a
  have h2 : x.natAbs * a.natAbs ≤ M.toNat * 6 := Nat.mul_le_mul (by omega) (by omega)
  omega
theorem mulb9 {x a : Int} (h : -100 ≤ x ∧ x ≤ 100) (ha : 0 ≤ a ∧ a ≤ 9) : -900 ≤ x * a ∧ x * a ≤ 900 := by
  have e : (x * a).natAbs = x.natAbs * a.natAbs := Int.natAbs_mul x a
  have h2 : x.natAbs * a.natAbs ≤ 100 * 9 := Nat.mul_le_mul (by omega) (by omega)
  omega
def W3 (p : Int × Int × Int) : Prop := W64 p.1 ∧ W64 p.2.1 ∧ W64 p.2.2
theorem w3_of {x y z : Int} (hx : -4611686018427387904 ≤ x ∧ x ≤ 4611686018427387904) (hy : -4611686018427387904 ≤ y ∧ y ≤ 4611686018427387904) (hz : -4611686018427387904 ≤ z ∧ z ≤ 4611686018427387904) : W3 (x, y, z) := by
  unfold W3 W64; simp only; omega
/-- The state of the loop that draws the three numbers. -/
def TlSt (zs : List Int) (v : Value) (B G n j : Nat) (w wr : World) : Prop := ∃ x y z : Int, (-100 ≤ x ∧ x ≤ 100) ∧ (-100 ≤ y ∧ y ≤ 100) ∧ (-100 ≤ z ∧ z ≤ 100) ∧ Hid (Blk wr (w.heap.size + 1) 3 #[.int .i64 x, .int .i64 y, .int .i64 z]) ∧ Hid (Blk wr w.heap.size 25 #[.int .i64 0, .int .i64 0, .int .i64 0]) ∧ Hid (Drw zs v B G (n + 8 * j) w wr)
section
variable {zs : List Int} {v : Value} {B G n m : Nat} {w0 w w1 w2 : World}
set_option maxRecDepth 100000 in
set_option maxHeartbeats 12800000 in
theorem triple_d (h : Drw zs v B G n w0 w) (hB : B ≤ G) (hn : n + 40 ≤ 100000000) :
    Calls Try.prog 40 #[.pointer (some ⟨G, 0, none⟩)] w fun e w' => ∃ p : Int × Int × Int, e = .returned (.agg #[.int .i64 p.1, .int .i64 p.2.1, .int .i64 p.2.2]) ∧ W3 p ∧ Drw zs v B G (n + 40) w0 w' ∧ w.grownBy w' (some G) := by
  have H := Lib.hid h
  have lG0 := h.lt
  have hD0 := Lib.hid (Drw.start (n := n) h.rd h.cur)
  clear h
  have hfin : Hid (∀ (x y z : Int) (w' : World), W3 (x, y, z) → Drw zs v B G (n + 40) w w' → ∃ p : Int × Int × Int, Ending.returned (.agg #[.int .i64 x, .int .i64 y, .int .i64 z]) = .returned (.agg #[.int .i64 p.1, .int .i64 p.2.1, .int .i64 p.2.2]) ∧ W3 p ∧ Drw zs v B G (n + 40) w0 w' ∧ w.grownBy w' (some G)) :=
    Lib.hid (fun x y z w' h3 hd => ⟨(x, y, z), rfl, h3, H.out.next hB hd.cur hd.gr, hd.gr⟩)
  have hmk := run_make_row' (P := Try.prog) 29 3 (.int .i64 0) 8 Try.underlying29 infoInt rfl .i64 .i64 3 (by omega) (by omega)
  rw [made3, show ((3 : Nat) : Int) = 3 from rfl] at hmk
  go_enter Try.func40, Try.ntmps40
  go_wp2
  have hA1 : Blk ((w.alloc (.cells #[.int .i64 0, .int .i64 0, .int .i64 0] 25)).alloc (.cells #[.int .i64 0, .int .i64 0, .int .i64 0] 3)) w.heap.size 25 #[.int .i64 0, .int .i64 0, .int .i64 0] := by (repeat (first | with_reducible assumption | (with_reducible apply Blk.new_at; (first | rfl | (simp; done))) | with_reducible apply Blk.store3 | with_reducible apply Blk.store4 | (with_reducible apply Blk.farp; (first | omega | (simp <;> omega))) | with_reducible apply Blk.allocp | with_reducible apply Blk.drew | with_reducible apply Blk.drewN))
  have hS1 : Blk ((w.alloc (.cells #[.int .i64 0, .int .i64 0, .int .i64 0] 25)).alloc (.cells #[.int .i64 0, .int .i64 0, .int .i64 0] 3)) (w.heap.size + 1) 3 #[.int .i64 0, .int .i64 0, .int .i64 0] := by (repeat (first | with_reducible assumption | (with_reducible apply Blk.new_at; (first | rfl | (simp; done))) | with_reducible apply Blk.store3 | with_reducible apply Blk.store4 | (with_reducible apply Blk.farp; (first | omega | (simp <;> omega))) | with_reducible apply Blk.allocp | with_reducible apply Blk.drew | with_reducible apply Blk.drewN))
  have hD1' : Drw zs v B G n w ((w.alloc (.cells #[.int .i64 0, .int .i64 0, .int .i64 0] 25)).alloc (.cells #[.int .i64 0, .int .i64 0, .int .i64 0] 3)) := (by repeat (first | with_reducible assumption | (with_reducible apply Hid.out; assumption) | with_reducible apply Drw.drewN | with_reducible apply Drw.drew | with_reducible apply Drw.alloc | (with_reducible refine Drw.setp ?_ ?_ ?_ ?_; (first | omega | (simp <;> omega)); (first | omega | (simp <;> omega)); (first | omega | (simp <;> omega)))))
  have hD1 : Drw zs v B G (n + 8 * 0) w ((w.alloc (.cells #[.int .i64 0, .int .i64 0, .int .i64 0] 25)).alloc (.cells #[.int .i64 0, .int .i64 0, .int .i64 0] 3)) := Drw.more hD1' (by omega)
  clear hD1' hmk
  go_loopw [11] (fun vi wr => (vi = .int .i64 0 ∧ TlSt zs v B G n 0 w wr) ∨ (vi = .int .i64 1 ∧ TlSt zs v B G n 1 w wr) ∨ (vi = .int .i64 2 ∧ TlSt zs v B G n 2 w wr) ∨ (vi = .int .i64 3 ∧ TlSt zs v B G n 3 w wr)) (fun vi _ => 3 - (intOf vi).toNat)
  case atStart => exact .inl ⟨rfl, 0, 0, 0, by omega, by omega, by omega, Lib.hid hS1, Lib.hid hA1, Lib.hid hD1⟩
  case round =>
    clear hA1 hS1 hD1
    obtain ⟨v0, rfl⟩ : ∃ v0 : World, v0 = wr := ⟨_, rfl⟩
    rcases hrel with ⟨rfl, x, y, z, hx, hy, hz, hS, hA, hD⟩ | ⟨rfl, x, y, z, hx, hy, hz, hS, hA, hD⟩ | ⟨rfl, x, y, z, hx, hy, hz, hS, hA, hD⟩ | ⟨rfl, x, y, z, hx, hy, hz, hS, hA, hD⟩
    · skip
      have hS0 := hS.out; have hA0 := hA.out
      have cS0 := hS0.cell; have fS0 := hS0.frozen; have lS0 := hS0.lt; have mS0 := Nat.ne_of_gt lS0; have nS0 := Nat.ne_of_lt lS0
      have cA0 := hA0.cell; have fA0 := hA0.frozen; have lA0 := hA0.lt; have mA0 := Nat.ne_of_gt lA0; have nA0 := Nat.ne_of_lt lA0
      have lG := hD.out.lt
      clear hS hA
      go_wp2_with fail
      refine (pick_d (by repeat (first | with_reducible assumption | (with_reducible apply Hid.out; assumption) | with_reducible apply Drw.drewN | with_reducible apply Drw.drew | with_reducible apply Drw.alloc | (with_reducible refine Drw.setp ?_ ?_ ?_ ?_; (first | omega | (simp <;> omega)); (first | omega | (simp <;> omega)); (first | omega | (simp <;> omega))))) hB 20 (by omega) (by omega)).mono ?_
      rintro e v1 ⟨x1, rfl, hx1, hD1', hG1⟩
      have hD1 := Lib.hid hD1'
      have lG1 := hD1'.lt
      have zG1 := hG1.size
      (try simp at zG1)
      have hA1 : Blk v1 (w.heap.size) 25 #[.int .i64 0, .int .i64 0, .int .i64 0] := Blk.grown (by (repeat (first | with_reducible assumption | (with_reducible apply Blk.new_at; (first | rfl | (simp; done))) | with_reducible apply Blk.store3 | with_reducible apply Blk.store4 | (with_reducible apply Blk.farp; (first | omega | (simp <;> omega))) | with_reducible apply Blk.allocp | with_reducible apply Blk.drew | with_reducible apply Blk.drewN))) hG1 (by simp <;> omega)
      have cA1 := hA1.cell; have fA1 := hA1.frozen; have lA1 := hA1.lt; have mA1 := Nat.ne_of_gt lA1; have nA1 := Nat.ne_of_lt lA1
      have hS1 : Blk v1 (w.heap.size + 1) 3 #[.int .i64 x, .int .i64 y, .int .i64 z] := Blk.grown (by (repeat (first | with_reducible assumption | (with_reducible apply Blk.new_at; (first | rfl | (simp; done))) | with_reducible apply Blk.store3 | with_reducible apply Blk.store4 | (with_reducible apply Blk.farp; (first | omega | (simp <;> omega))) | with_reducible apply Blk.allocp | with_reducible apply Blk.drew | with_reducible apply Blk.drewN))) hG1 (by simp <;> omega)
      have cS1 := hS1.cell; have fS1 := hS1.frozen; have lS1 := hS1.lt; have mS1 := Nat.ne_of_gt lS1; have nS1 := Nat.ne_of_lt lS1
      clear hD1' hG1
      clear cS0 cA0 fS0 fA0 lS0 lA0 mS0 mA0 nS0 nA0 hS0 hA0
      go_wp2_with fail
      refine (pick_d (by repeat (first | with_reducible assumption | (with_reducible apply Hid.out; assumption) | with_reducible apply Drw.drewN | with_reducible apply Drw.drew | with_reducible apply Drw.alloc | (with_reducible refine Drw.setp ?_ ?_ ?_ ?_; (first | omega | (simp <;> omega)); (first | omega | (simp <;> omega)); (first | omega | (simp <;> omega))))) hB 20 (by omega) (by omega)).mono ?_
      rintro e v2 ⟨x2, rfl, hx2, hD2', hG2⟩
      have hD2 := Lib.hid hD2'
      have lG2 := hD2'.lt
      have zG2 := hG2.size
      (try simp at zG2)
      have hA2 : Blk v2 (w.heap.size) 25 #[.int .i64 0, .int .i64 0, .int .i64 0] := Blk.grown (by (repeat (first | with_reducible assumption | (with_reducible apply Blk.new_at; (first | rfl | (simp; done))) | with_reducible apply Blk.store3 | with_reducible apply Blk.store4 | (with_reducible apply Blk.farp; (first | omega | (simp <;> omega))) | with_reducible apply Blk.allocp | with_reducible apply Blk.drew | with_reducible apply Blk.drewN))) hG2 (by simp <;> omega)
      have cA2 := hA2.cell; have fA2 := hA2.frozen; have lA2 := hA2.lt; have mA2 := Nat.ne_of_gt lA2; have nA2 := Nat.ne_of_lt lA2
      have hS2 : Blk v2 (w.heap.size + 1) 3 #[.int .i64 x, .int .i64 y, .int .i64 z] := Blk.grown (by (repeat (first | with_reducible assumption | (with_reducible apply Blk.new_at; (first | rfl | (simp; done))) | with_reducible apply Blk.store3 | with_reducible apply Blk.store4 | (with_reducible apply Blk.farp; (first | omega | (simp <;> omega))) | with_reducible apply Blk.allocp | with_reducible apply Blk.drew | with_reducible apply Blk.drewN))) hG2 (by simp <;> omega)
      have cS2 := hS2.cell; have fS2 := hS2.frozen; have lS2 := hS2.lt; have mS2 := Nat.ne_of_gt lS2; have nS2 := Nat.ne_of_lt lS2
      clear hD2' hG2
      go_wp2_with fail
      refine (pick_d (by repeat (first | with_reducible assumption | (with_reducible apply Hid.out; assumption) | with_reducible apply Drw.drewN | with_reducible apply Drw.drew | with_reducible apply Drw.alloc | (with_reducible refine Drw.setp ?_ ?_ ?_ ?_; (first | omega | (simp <;> omega)); (first | omega | (simp <;> omega)); (first | omega | (simp <;> omega))))) hB 60 (by omega) (by omega)).mono ?_
      rintro e v3 ⟨x3, rfl, hx3, hD3', hG3⟩
      have hD3 := Lib.hid hD3'
      have lG3 := hD3'.lt
      have zG3 := hG3.size
      (try simp at zG3)
      have hA3 : Blk v3 (w.heap.size) 25 #[.int .i64 0, .int .i64 0, .int .i64 0] := Blk.grown (by (repeat (first | with_reducible assumption | (with_reducible apply Blk.new_at; (first | rfl | (simp; done))) | with_reducible apply Blk.store3 | with_reducible apply Blk.store4 | (with_reducible apply Blk.farp; (first | omega | (simp <;> omega))) | with_reducible apply Blk.allocp | with_reducible apply Blk.drew | with_reducible apply Blk.drewN))) hG3 (by simp <;> omega)
      have cA3 := hA3.cell; have fA3 := hA3.frozen; have lA3 := hA3.lt; have mA3 := Nat.ne_of_gt lA3; have nA3 := Nat.ne_of_lt lA3
      have hS3 : Blk v3 (w.heap.size + 1) 3 #[.int .i64 x, .int .i64 y, .int .i64 z] := Blk.grown (by (repeat (first | with_reducible assumption | (with_reducible apply Blk.new_at; (first | rfl | (simp; done))) | with_reducible apply Blk.store3 | with_reducible apply Blk.store4 | (with_reducible apply Blk.farp; (first | omega | (simp <;> omega))) | with_reducible apply Blk.allocp | with_reducible apply Blk.drew | with_reducible apply Blk.drewN))) hG3 (by simp <;> omega)
      have cS3 := hS3.cell; have fS3 := hS3.frozen; have lS3 := hS3.lt; have mS3 := Nat.ne_of_gt lS3; have nS3 := Nat.ne_of_lt lS3
      clear hD3' hG3
      go_wp2_with fail
      refine (among_at (w := v3) (by repeat (first | with_reducible assumption | (with_reducible apply Hid.out; assumption) | with_reducible apply Drw.drewN | with_reducible apply Drw.drew | with_reducible apply Drw.alloc | (with_reducible refine Drw.setp ?_ ?_ ?_ ?_; (first | omega | (simp <;> omega)); (first | omega | (simp <;> omega)); (first | omega | (simp <;> omega))))) hB [1, -1, 1 + x1, -1 - x2, 1 + x3] (fun x => -100 ≤ x ∧ x ≤ 100) (by simp only [List.mem_cons, List.not_mem_nil, or_false]; rintro x (rfl | rfl | rfl | rfl | rfl) <;> omega) (by simp) (by simp) (by omega) rfl rfl rfl).mono ?_
      rintro e v4 ⟨x4, rfl, hx4, hD4', hG4⟩
      have hD4 := Lib.hid hD4'
      have lG4 := hD4'.lt
      have zG4 := hG4.size
      (try simp at zG4)
      have hA4 : Blk v4 (w.heap.size) 25 #[.int .i64 0, .int .i64 0, .int .i64 0] := Blk.grown (by (repeat (first | with_reducible assumption | (with_reducible apply Blk.new_at; (first | rfl | (simp; done))) | with_reducible apply Blk.store3 | with_reducible apply Blk.store4 | (with_reducible apply Blk.farp; (first | omega | (simp <;> omega))) | with_reducible apply Blk.allocp | with_reducible apply Blk.drew | with_reducible apply Blk.drewN))) hG4 (by simp <;> omega)
      have cA4 := hA4.cell; have fA4 := hA4.frozen; have lA4 := hA4.lt; have mA4 := Nat.ne_of_gt lA4; have nA4 := Nat.ne_of_lt lA4
      have hS4 : Blk v4 (w.heap.size + 1) 3 #[.int .i64 x, .int .i64 y, .int .i64 z] := Blk.grown (by (repeat (first | with_reducible assumption | (with_reducible apply Blk.new_at; (first | rfl | (simp; done))) | with_reducible apply Blk.store3 | with_reducible apply Blk.store4 | (with_reducible apply Blk.farp; (first | omega | (simp <;> omega))) | with_reducible apply Blk.allocp | with_reducible apply Blk.drew | with_reducible apply Blk.drewN))) hG4 (by simp <;> omega)
      have cS4 := hS4.cell; have fS4 := hS4.frozen; have lS4 := hS4.lt; have mS4 := Nat.ne_of_gt lS4; have nS4 := Nat.ne_of_lt lS4
      clear hD4' hG4
      have hD5 : Drw zs v B G (n + 8 * 1) w v4 := by have := hD4.out; exact Drw.more this (by omega)
      clear hx1 hx2 hx3
      go_wp2
      go_roundw
      case rel => exact .inr (.inl ⟨rfl, x4, y, z, hx4, hy, hz, Lib.hid (by repeat (first | with_reducible assumption | with_reducible apply Blk.s0 | with_reducible apply Blk.s1 | with_reducible apply Blk.s2 | (with_reducible apply Blk.farp; (first | omega | (simp <;> omega))) | with_reducible apply Blk.allocp | with_reducible apply Blk.drew | with_reducible apply Blk.drewN)), Lib.hid (by repeat (first | with_reducible assumption | with_reducible apply Blk.s0 | with_reducible apply Blk.s1 | with_reducible apply Blk.s2 | (with_reducible apply Blk.farp; (first | omega | (simp <;> omega))) | with_reducible apply Blk.allocp | with_reducible apply Blk.drew | with_reducible apply Blk.drewN)), Lib.hid ((by repeat (first | with_reducible assumption | (with_reducible apply Hid.out; assumption) | with_reducible apply Drw.drewN | with_reducible apply Drw.drew | with_reducible apply Drw.alloc | (with_reducible refine Drw.setp ?_ ?_ ?_ ?_; (first | omega | (simp <;> omega)); (first | omega | (simp <;> omega)); (first | omega | (simp <;> omega))))))⟩)
      case measure => simp [intOf]
    · skip
      have hS0 := hS.out; have hA0 := hA.out
      have cS0 := hS0.cell; have fS0 := hS0.frozen; have lS0 := hS0.lt; have mS0 := Nat.ne_of_gt lS0; have nS0 := Nat.ne_of_lt lS0
      have cA0 := hA0.cell; have fA0 := hA0.frozen; have lA0 := hA0.lt; have mA0 := Nat.ne_of_gt lA0; have nA0 := Nat.ne_of_lt lA0
      have lG := hD.out.lt
      clear hS hA
      go_wp2_with fail
      refine (pick_d (by repeat (first | with_reducible assumption | (with_reducible apply Hid.out; assumption) | with_reducible apply Drw.drewN | with_reducible apply Drw.drew | with_reducible apply Drw.alloc | (with_reducible refine Drw.setp ?_ ?_ ?_ ?_; (first | omega | (simp <;> omega)); (first | omega | (simp <;> omega)); (first | omega | (simp <;> omega))))) hB 20 (by omega) (by omega)).mono ?_
      rintro e v1 ⟨x1, rfl, hx1, hD1', hG1⟩
      have hD1 := Lib.hid hD1'
      have lG1 := hD1'.lt
      have zG1 := hG1.size
      (try simp at zG1)
      have hA1 : Blk v1 (w.heap.size) 25 #[.int .i64 0, .int .i64 0, .int .i64 0] := Blk.grown (by (repeat (first | with_reducible assumption | (with_reducible apply Blk.new_at; (first | rfl | (simp; done))) | with_reducible apply Blk.store3 | with_reducible apply Blk.store4 | (with_reducible apply Blk.farp; (first | omega | (simp <;> omega))) | with_reducible apply Blk.allocp | with_reducible apply Blk.drew | with_reducible apply Blk.drewN))) hG1 (by simp <;> omega)
      have cA1 := hA1.cell; have fA1 := hA1.frozen; have lA1 := hA1.lt; have mA1 := Nat.ne_of_gt lA1; have nA1 := Nat.ne_of_lt lA1
      have hS1 : Blk v1 (w.heap.size + 1) 3 #[.int .i64 x, .int .i64 y, .int .i64 z] := Blk.grown (by (repeat (first | with_reducible assumption | (with_reducible apply Blk.new_at; (first | rfl | (simp; done))) | with_reducible apply Blk.store3 | with_reducible apply Blk.store4 | (with_reducible apply Blk.farp; (first | omega | (simp <;> omega))) | with_reducible apply Blk.allocp | with_reducible apply Blk.drew | with_reducible apply Blk.drewN))) hG1 (by simp <;> omega)
      have cS1 := hS1.cell; have fS1 := hS1.frozen; have lS1 := hS1.lt; have mS1 := Nat.ne_of_gt lS1; have nS1 := Nat.ne_of_lt lS1
      clear hD1' hG1
      clear cS0 cA0 fS0 fA0 lS0 lA0 mS0 mA0 nS0 nA0 hS0 hA0
      go_wp2_with fail
      refine (pick_d (by repeat (first | with_reducible assumption | (with_reducible apply Hid.out; assumption) | with_reducible apply Drw.drewN | with_reducible apply Drw.drew | with_reducible apply Drw.alloc | (with_reducible refine Drw.setp ?_ ?_ ?_ ?_; (first | omega | (simp <;> omega)); (first | omega | (simp <;> omega)); (first | omega | (simp <;> omega))))) hB 20 (by omega) (by omega)).mono ?_
      rintro e v2 ⟨x2, rfl, hx2, hD2', hG2⟩
      have hD2 := Lib.hid hD2'
      have lG2 := hD2'.lt
      have zG2 := hG2.size
      (try simp at zG2)
      have hA2 : Blk v2 (w.heap.size) 25 #[.int .i64 0, .int .i64 0, .int .i64 0] := Blk.grown (by (repeat (first | with_reducible assumption | (with_reducible apply Blk.new_at; (first | rfl | (simp; done))) | with_reducible apply Blk.store3 | with_reducible apply Blk.store4 | (with_reducible apply Blk.farp; (first | omega | (simp <;> omega))) | with_reducible apply Blk.allocp | with_reducible apply Blk.drew | with_reducible apply Blk.drewN))) hG2 (by simp <;> omega)
      have cA2 := hA2.cell; have fA2 := hA2.frozen; have lA2 := hA2.lt; have mA2 := Nat.ne_of_gt lA2; have nA2 := Nat.ne_of_lt lA2
      have hS2 : Blk v2 (w.heap.size + 1) 3 #[.int .i64 x, .int .i64 y, .int .i64 z] := Blk.grown (by (repeat (first | with_reducible assumption | (with_reducible apply Blk.new_at; (first | rfl | (simp; done))) | with_reducible apply Blk.store3 | with_reducible apply Blk.store4 | (with_reducible apply Blk.farp; (first | omega | (simp <;> omega))) | with_reducible apply Blk.allocp | with_reducible apply Blk.drew | with_reducible apply Blk.drewN))) hG2 (by simp <;> omega)
      have cS2 := hS2.cell; have fS2 := hS2.frozen; have lS2 := hS2.lt; have mS2 := Nat.ne_of_gt lS2; have nS2 := Nat.ne_of_lt lS2
      clear hD2' hG2
      go_wp2_with fail
      refine (pick_d (by repeat (first | with_reducible assumption | (with_reducible apply Hid.out; assumption) | with_reducible apply Drw.drewN | with_reducible apply Drw.drew | with_reducible apply Drw.alloc | (with_reducible refine Drw.setp ?_ ?_ ?_ ?_; (first | omega | (simp <;> omega)); (first | omega | (simp <;> omega)); (first | omega | (simp <;> omega))))) hB 60 (by omega) (by omega)).mono ?_
      rintro e v3 ⟨x3, rfl, hx3, hD3', hG3⟩
      have hD3 := Lib.hid hD3'
      have lG3 := hD3'.lt
      have zG3 := hG3.size
      (try simp at zG3)
      have hA3 : Blk v3 (w.heap.size) 25 #[.int .i64 0, .int .i64 0, .int .i64 0] := Blk.grown (by (repeat (first | with_reducible assumption | (with_reducible apply Blk.new_at; (first | rfl | (simp; done))) | with_reducible apply Blk.store3 | with_reducible apply Blk.store4 | (with_reducible apply Blk.farp; (first | omega | (simp <;> omega))) | with_reducible apply Blk.allocp | with_reducible apply Blk.drew | with_reducible apply Blk.drewN))) hG3 (by simp <;> omega)
      have cA3 := hA3.cell; have fA3 := hA3.frozen; have lA3 := hA3.lt; have mA3 := Nat.ne_of_gt lA3; have nA3 := Nat.ne_of_lt lA3
      have hS3 : Blk v3 (w.heap.size + 1) 3 #[.int .i64 x, .int .i64 y, .int .i64 z] := Blk.grown (by (repeat (first | with_reducible assumption | (with_reducible apply Blk.new_at; (first | rfl | (simp; done))) | with_reducible apply Blk.store3 | with_reducible apply Blk.store4 | (with_reducible apply Blk.farp; (first | omega | (simp <;> omega))) | with_reducible apply Blk.allocp | with_reducible apply Blk.drew | with_reducible apply Blk.drewN))) hG3 (by simp <;> omega)
      have cS3 := hS3.cell; have fS3 := hS3.frozen; have lS3 := hS3.lt; have mS3 := Nat.ne_of_gt lS3; have nS3 := Nat.ne_of_lt lS3
      clear hD3' hG3
      go_wp2_with fail
      refine (among_at (w := v3) (by repeat (first | with_reducible assumption | (with_reducible apply Hid.out; assumption) | with_reducible apply Drw.drewN | with_reducible apply Drw.drew | with_reducible apply Drw.alloc | (with_reducible refine Drw.setp ?_ ?_ ?_ ?_; (first | omega | (simp <;> omega)); (first | omega | (simp <;> omega)); (first | omega | (simp <;> omega))))) hB [1, -1, 1 + x1, -1 - x2, 1 + x3] (fun x => -100 ≤ x ∧ x ≤ 100) (by simp only [List.mem_cons, List.not_mem_nil, or_false]; rintro x (rfl | rfl | rfl | rfl | rfl) <;> omega) (by simp) (by simp) (by omega) rfl rfl rfl).mono ?_
      rintro e v4 ⟨x4, rfl, hx4, hD4', hG4⟩
      have hD4 := Lib.hid hD4'
      have lG4 := hD4'.lt
      have zG4 := hG4.size
      (try simp at zG4)
      have hA4 : Blk v4 (w.heap.size) 25 #[.int .i64 0, .int .i64 0, .int .i64 0] := Blk.grown (by (repeat (first | with_reducible assumption | (with_reducible apply Blk.new_at; (first | rfl | (simp; done))) | with_reducible apply Blk.store3 | with_reducible apply Blk.store4 | (with_reducible apply Blk.farp; (first | omega | (simp <;> omega))) | with_reducible apply Blk.allocp | with_reducible apply Blk.drew | with_reducible apply Blk.drewN))) hG4 (by simp <;> omega)
      have cA4 := hA4.cell; have fA4 := hA4.frozen; have lA4 := hA4.lt; have mA4 := Nat.ne_of_gt lA4; have nA4 := Nat.ne_of_lt lA4
      have hS4 : Blk v4 (w.heap.size + 1) 3 #[.int .i64 x, .int .i64 y, .int .i64 z] := Blk.grown (by (repeat (first | with_reducible assumption | (with_reducible apply Blk.new_at; (first | rfl | (simp; done))) | with_reducible apply Blk.store3 | with_reducible apply Blk.store4 | (with_reducible apply Blk.farp; (first | omega | (simp <;> omega))) | with_reducible apply Blk.allocp | with_reducible apply Blk.drew | with_reducible apply Blk.drewN))) hG4 (by simp <;> omega)
      have cS4 := hS4.cell; have fS4 := hS4.frozen; have lS4 := hS4.lt; have mS4 := Nat.ne_of_gt lS4; have nS4 := Nat.ne_of_lt lS4
      clear hD4' hG4
      have hD5 : Drw zs v B G (n + 8 * 2) w v4 := by have := hD4.out; exact Drw.more this (by omega)
      clear hx1 hx2 hx3
      go_wp2
      go_roundw
      case rel => exact .inr (.inr (.inl ⟨rfl, x, x4, z, hx, hx4, hz, Lib.hid (by repeat (first | with_reducible assumption | with_reducible apply Blk.s0 | with_reducible apply Blk.s1 | with_reducible apply Blk.s2 | (with_reducible apply Blk.farp; (first | omega | (simp <;> omega))) | with_reducible apply Blk.allocp | with_reducible apply Blk.drew | with_reducible apply Blk.drewN)), Lib.hid (by repeat (first | with_reducible assumption | with_reducible apply Blk.s0 | with_reducible apply Blk.s1 | with_reducible apply Blk.s2 | (with_reducible apply Blk.farp; (first | omega | (simp <;> omega))) | with_reducible apply Blk.allocp | with_reducible apply Blk.drew | with_reducible apply Blk.drewN)), Lib.hid ((by repeat (first | with_reducible assumption | (with_reducible apply Hid.out; assumption) | with_reducible apply Drw.drewN | with_reducible apply Drw.drew | with_reducible apply Drw.alloc | (with_reducible refine Drw.setp ?_ ?_ ?_ ?_; (first | omega | (simp <;> omega)); (first | omega | (simp <;> omega)); (first | omega | (simp <;> omega))))))⟩))
      case measure => simp [intOf]
    · skip
      have hS0 := hS.out; have hA0 := hA.out
      have cS0 := hS0.cell; have fS0 := hS0.frozen; have lS0 := hS0.lt; have mS0 := Nat.ne_of_gt lS0; have nS0 := Nat.ne_of_lt lS0
      have cA0 := hA0.cell; have fA0 := hA0.frozen; have lA0 := hA0.lt; have mA0 := Nat.ne_of_gt lA0; have nA0 := Nat.ne_of_lt lA0
      have lG := hD.out.lt
      clear hS hA
      go_wp2_with fail
      refine (pick_d (by repeat (first | with_reducible assumption | (with_reducible apply Hid.out; assumption) | with_reducible apply Drw.drewN | with_reducible apply Drw.drew | with_reducible apply Drw.alloc | (with_reducible refine Drw.setp ?_ ?_ ?_ ?_; (first | omega | (simp <;> omega)); (first | omega | (simp <;> omega)); (first | omega | (simp <;> omega))))) hB 20 (by omega) (by omega)).mono ?_
      rintro e v1 ⟨x1, rfl, hx1, hD1', hG1⟩
      have hD1 := Lib.hid hD1'
      have lG1 := hD1'.lt
      have zG1 := hG1.size
      (try simp at zG1)
      have hA1 : Blk v1 (w.heap.size) 25 #[.int .i64 0, .int .i64 0, .int .i64 0] := Blk.grown (by (repeat (first | with_reducible assumption | (with_reducible apply Blk.new_at; (first | rfl | (simp; done))) | with_reducible apply Blk.store3 | with_reducible apply Blk.store4 | (with_reducible apply Blk.farp; (first | omega | (simp <;> omega))) | with_reducible apply Blk.allocp | with_reducible apply Blk.drew | with_reducible apply Blk.drewN))) hG1 (by simp <;> omega)
      have cA1 := hA1.cell; have fA1 := hA1.frozen; have lA1 := hA1.lt; have mA1 := Nat.ne_of_gt lA1; have nA1 := Nat.ne_of_lt lA1
      have hS1 : Blk v1 (w.heap.size + 1) 3 #[.int .i64 x, .int .i64 y, .int .i64 z] := Blk.grown (by (repeat (first | with_reducible assumption | (with_reducible apply Blk.new_at; (first | rfl | (simp; done))) | with_reducible apply Blk.store3 | with_reducible apply Blk.store4 | (with_reducible apply Blk.farp; (first | omega | (simp <;> omega))) | with_reducible apply Blk.allocp | with_reducible apply Blk.drew | with_reducible apply Blk.drewN))) hG1 (by simp <;> omega)
      have cS1 := hS1.cell; have fS1 := hS1.frozen; have lS1 := hS1.lt; have mS1 := Nat.ne_of_gt lS1; have nS1 := Nat.ne_of_lt lS1
      clear hD1' hG1
      clear cS0 cA0 fS0 fA0 lS0 lA0 mS0 mA0 nS0 nA0 hS0 hA0
      go_wp2_with fail
      refine (pick_d (by repeat (first | with_reducible assumption | (with_reducible apply Hid.out; assumption) | with_reducible apply Drw.drewN | with_reducible apply Drw.drew | with_reducible apply Drw.alloc | (with_reducible refine Drw.setp ?_ ?_ ?_ ?_; (first | omega | (simp <;> omega)); (first | omega | (simp <;> omega)); (first | omega | (simp <;> omega))))) hB 20 (by omega) (by omega)).mono ?_
      rintro e v2 ⟨x2, rfl, hx2, hD2', hG2⟩
      have hD2 := Lib.hid hD2'
      have lG2 := hD2'.lt
      have zG2 := hG2.size
      (try simp at zG2)
      have hA2 : Blk v2 (w.heap.size) 25 #[.int .i64 0, .int .i64 0, .int .i64 0] := Blk.grown (by (repeat (first | with_reducible assumption | (with_reducible apply Blk.new_at; (first | rfl | (simp; done))) | with_reducible apply Blk.store3 | with_reducible apply Blk.store4 | (with_reducible apply Blk.farp; (first | omega | (simp <;> omega))) | with_reducible apply Blk.allocp | with_reducible apply Blk.drew | with_reducible apply Blk.drewN))) hG2 (by simp <;> omega)
      have cA2 := hA2.cell; have fA2 := hA2.frozen; have lA2 := hA2.lt; have mA2 := Nat.ne_of_gt lA2; have nA2 := Nat.ne_of_lt lA2
      have hS2 : Blk v2 (w.heap.size + 1) 3 #[.int .i64 x, .int .i64 y, .int .i64 z] := Blk.grown (by (repeat (first | with_reducible assumption | (with_reducible apply Blk.new_at; (first | rfl | (simp; done))) | with_reducible apply Blk.store3 | with_reducible apply Blk.store4 | (with_reducible apply Blk.farp; (first | omega | (simp <;> omega))) | with_reducible apply Blk.allocp | with_reducible apply Blk.drew | with_reducible apply Blk.drewN))) hG2 (by simp <;> omega)
      have cS2 := hS2.cell; have fS2 := hS2.frozen; have lS2 := hS2.lt; have mS2 := Nat.ne_of_gt lS2; have nS2 := Nat.ne_of_lt lS2
      clear hD2' hG2
      go_wp2_with fail
      refine (pick_d (by repeat (first | with_reducible assumption | (with_reducible apply Hid.out; assumption) | with_reducible apply Drw.drewN | with_reducible apply Drw.drew | with_reducible apply Drw.alloc | (with_reducible refine Drw.setp ?_ ?_ ?_ ?_; (first | omega | (simp <;> omega)); (first | omega | (simp <;> omega)); (first | omega | (simp <;> omega))))) hB 60 (by omega) (by omega)).mono ?_
      rintro e v3 ⟨x3, rfl, hx3, hD3', hG3⟩
      have hD3 := Lib.hid hD3'
      have lG3 := hD3'.lt
      have zG3 := hG3.size
      (try simp at zG3)
      have hA3 : Blk v3 (w.heap.size) 25 #[.int .i64 0, .int .i64 0, .int .i64 0] := Blk.grown (by (repeat (first | with_reducible assumption | (with_reducible apply Blk.new_at; (first | rfl | (simp; done))) | with_reducible apply Blk.store3 | with_reducible apply Blk.store4 | (with_reducible apply Blk.farp; (first | omega | (simp <;> omega))) | with_reducible apply Blk.allocp | with_reducible apply Blk.drew | with_reducible apply Blk.drewN))) hG3 (by simp <;> omega)
      have cA3 := hA3.cell; have fA3 := hA3.frozen; have lA3 := hA3.lt; have mA3 := Nat.ne_of_gt lA3; have nA3 := Nat.ne_of_lt lA3
      have hS3 : Blk v3 (w.heap.size + 1) 3 #[.int .i64 x, .int .i64 y, .int .i64 z] := Blk.grown (by (repeat (first | with_reducible assumption | (with_reducible apply Blk.new_at; (first | rfl | (simp; done))) | with_reducible apply Blk.store3 | with_reducible apply Blk.store4 | (with_reducible apply Blk.farp; (first | omega | (simp <;> omega))) | with_reducible apply Blk.allocp | with_reducible apply Blk.drew | with_reducible apply Blk.drewN))) hG3 (by simp <;> omega)
      have cS3 := hS3.cell; have fS3 := hS3.frozen; have lS3 := hS3.lt; have mS3 := Nat.ne_of_gt lS3; have nS3 := Nat.ne_of_lt lS3
      clear hD3' hG3
      go_wp2_with fail
      refine (among_at (w := v3) (by repeat (first | with_reducible assumption | (with_reducible apply Hid.out; assumption) | with_reducible apply Drw.drewN | with_reducible apply Drw.drew | with_reducible apply Drw.alloc | (with_reducible refine Drw.setp ?_ ?_ ?_ ?_; (first | omega | (simp <;> omega)); (first | omega | (simp <;> omega)); (first | omega | (simp <;> omega))))) hB [1, -1, 1 + x1, -1 - x2, 1 + x3] (fun x => -100 ≤ x ∧ x ≤ 100) (by simp only [List.mem_cons, List.not_mem_nil, or_false]; rintro x (rfl | rfl | rfl | rfl | rfl) <;> omega) (by simp) (by simp) (by omega) rfl rfl rfl).mono ?_
      rintro e v4 ⟨x4, rfl, hx4, hD4', hG4⟩
      have hD4 := Lib.hid hD4'
      have lG4 := hD4'.lt
      have zG4 := hG4.size
      (try simp at zG4)
      have hA4 : Blk v4 (w.heap.size) 25 #[.int .i64 0, .int .i64 0, .int .i64 0] := Blk.grown (by (repeat (first | with_reducible assumption | (with_reducible apply Blk.new_at; (first | rfl | (simp; done))) | with_reducible apply Blk.store3 | with_reducible apply Blk.store4 | (with_reducible apply Blk.farp; (first | omega | (simp <;> omega))) | with_reducible apply Blk.allocp | with_reducible apply Blk.drew | with_reducible apply Blk.drewN))) hG4 (by simp <;> omega)
      have cA4 := hA4.cell; have fA4 := hA4.frozen; have lA4 := hA4.lt; have mA4 := Nat.ne_of_gt lA4; have nA4 := Nat.ne_of_lt lA4
      have hS4 : Blk v4 (w.heap.size + 1) 3 #[.int .i64 x, .int .i64 y, .int .i64 z] := Blk.grown (by (repeat (first | with_reducible assumption | (with_reducible apply Blk.new_at; (first | rfl | (simp; done))) | with_reducible apply Blk.store3 | with_reducible apply Blk.store4 | (with_reducible apply Blk.farp; (first | omega | (simp <;> omega))) | with_reducible apply Blk.allocp | with_reducible apply Blk.drew | with_reducible apply Blk.drewN))) hG4 (by simp <;> omega)
      have cS4 := hS4.cell; have fS4 := hS4.frozen; have lS4 := hS4.lt; have mS4 := Nat.ne_of_gt lS4; have nS4 := Nat.ne_of_lt lS4
      clear hD4' hG4
      have hD5 : Drw zs v B G (n + 8 * 3) w v4 := by have := hD4.out; exact Drw.more this (by omega)
      clear hx1 hx2 hx3
      go_wp2
      go_roundw
      case rel => exact .inr (.inr (.inr (⟨rfl, x, y, x4, hx, hy, hx4, Lib.hid (by repeat (first | with_reducible assumption | with_reducible apply Blk.s0 | with_reducible apply Blk.s1 | with_reducible apply Blk.s2 | (with_reducible apply Blk.farp; (first | omega | (simp <;> omega))) | with_reducible apply Blk.allocp | with_reducible apply Blk.drew | with_reducible apply Blk.drewN)), Lib.hid (by repeat (first | with_reducible assumption | with_reducible apply Blk.s0 | with_reducible apply Blk.s1 | with_reducible apply Blk.s2 | (with_reducible apply Blk.farp; (first | omega | (simp <;> omega))) | with_reducible apply Blk.allocp | with_reducible apply Blk.drew | with_reducible apply Blk.drewN)), Lib.hid ((by repeat (first | with_reducible assumption | (with_reducible apply Hid.out; assumption) | with_reducible apply Drw.drewN | with_reducible apply Drw.drew | with_reducible apply Drw.alloc | (with_reducible refine Drw.setp ?_ ?_ ?_ ?_; (first | omega | (simp <;> omega)); (first | omega | (simp <;> omega)); (first | omega | (simp <;> omega))))))⟩)))
      case measure => simp [intOf]
    · skip
      have hS0 := hS.out; have hA0 := hA.out
      have cS0 := hS0.cell; have fS0 := hS0.frozen; have lS0 := hS0.lt; have mS0 := Nat.ne_of_gt lS0; have nS0 := Nat.ne_of_lt lS0
      have cA0 := hA0.cell; have fA0 := hA0.frozen; have lA0 := hA0.lt; have mA0 := Nat.ne_of_gt lA0; have nA0 := Nat.ne_of_lt lA0
      have lG := hD.out.lt
      clear hS hA
      go_wp2_with fail
      refine (pick_d (by repeat (first | with_reducible assumption | (with_reducible apply Hid.out; assumption) | with_reducible apply Drw.drewN | with_reducible apply Drw.drew | with_reducible apply Drw.alloc | (with_reducible refine Drw.setp ?_ ?_ ?_ ?_; (first | omega | (simp <;> omega)); (first | omega | (simp <;> omega)); (first | omega | (simp <;> omega))))) hB 12 (by omega) (by omega)).mono ?_
      rintro e v1 ⟨x1, rfl, hx1, hD1', hG1⟩
      have hD1 := Lib.hid hD1'
      have lG1 := hD1'.lt
      have zG1 := hG1.size
      (try simp at zG1)
      have hA1 : Blk v1 (w.heap.size) 25 #[.int .i64 0, .int .i64 0, .int .i64 0] := Blk.grown (by (repeat (first | with_reducible assumption | (with_reducible apply Blk.new_at; (first | rfl | (simp; done))) | with_reducible apply Blk.store3 | with_reducible apply Blk.store4 | (with_reducible apply Blk.farp; (first | omega | (simp <;> omega))) | with_reducible apply Blk.allocp | with_reducible apply Blk.drew | with_reducible apply Blk.drewN))) hG1 (by simp <;> omega)
      have cA1 := hA1.cell; have fA1 := hA1.frozen; have lA1 := hA1.lt; have mA1 := Nat.ne_of_gt lA1; have nA1 := Nat.ne_of_lt lA1
      have hS1 : Blk v1 (w.heap.size + 1) 3 #[.int .i64 x, .int .i64 y, .int .i64 z] := Blk.grown (by (repeat (first | with_reducible assumption | (with_reducible apply Blk.new_at; (first | rfl | (simp; done))) | with_reducible apply Blk.store3 | with_reducible apply Blk.store4 | (with_reducible apply Blk.farp; (first | omega | (simp <;> omega))) | with_reducible apply Blk.allocp | with_reducible apply Blk.drew | with_reducible apply Blk.drewN))) hG1 (by simp <;> omega)
      have cS1 := hS1.cell; have fS1 := hS1.frozen; have lS1 := hS1.lt; have mS1 := Nat.ne_of_gt lS1; have nS1 := Nat.ne_of_lt lS1
      clear hD1' hG1
      have hD1c : Hid (Drw zs v B G (n + 8 + 8 + 8 + 2) w v1) := Lib.hid (Drw.more hD1.out (by omega))
      clear hD1
      by_cases e0 : x1 = 0
      · subst e0
        clear hx1
        go_wp2_with fail
        refine (pick_d (by repeat (first | with_reducible assumption | (with_reducible apply Hid.out; assumption) | with_reducible apply Drw.drewN | with_reducible apply Drw.drew | with_reducible apply Drw.alloc | (with_reducible refine Drw.setp ?_ ?_ ?_ ?_; (first | omega | (simp <;> omega)); (first | omega | (simp <;> omega)); (first | omega | (simp <;> omega))))) hB 3 (by omega) (by omega)).mono ?_
        rintro e v2 ⟨x2, rfl, hx2, hD2', hG2⟩
        have hD2 := Lib.hid hD2'
        have lG2 := hD2'.lt
        have zG2 := hG2.size
        (try simp at zG2)
        have hA2 : Blk v2 (w.heap.size) 25 #[.int .i64 0, .int .i64 0, .int .i64 0] := Blk.grown (by (repeat (first | with_reducible assumption | (with_reducible apply Blk.new_at; (first | rfl | (simp; done))) | with_reducible apply Blk.store3 | with_reducible apply Blk.store4 | (with_reducible apply Blk.farp; (first | omega | (simp <;> omega))) | with_reducible apply Blk.allocp | with_reducible apply Blk.drew | with_reducible apply Blk.drewN))) hG2 (by simp <;> omega)
        have cA2 := hA2.cell; have fA2 := hA2.frozen; have lA2 := hA2.lt; have mA2 := Nat.ne_of_gt lA2; have nA2 := Nat.ne_of_lt lA2
        have hS2 : Blk v2 (w.heap.size + 1) 3 #[.int .i64 x, .int .i64 y, .int .i64 z] := Blk.grown (by (repeat (first | with_reducible assumption | (with_reducible apply Blk.new_at; (first | rfl | (simp; done))) | with_reducible apply Blk.store3 | with_reducible apply Blk.store4 | (with_reducible apply Blk.farp; (first | omega | (simp <;> omega))) | with_reducible apply Blk.allocp | with_reducible apply Blk.drew | with_reducible apply Blk.drewN))) hG2 (by simp <;> omega)
        have cS2 := hS2.cell; have fS2 := hS2.frozen; have lS2 := hS2.lt; have mS2 := Nat.ne_of_gt lS2; have nS2 := Nat.ne_of_lt lS2
        clear hD2' hG2
        go_wp2_with fail
        refine (pick_d (by repeat (first | with_reducible assumption | (with_reducible apply Hid.out; assumption) | with_reducible apply Drw.drewN | with_reducible apply Drw.drew | with_reducible apply Drw.alloc | (with_reducible refine Drw.setp ?_ ?_ ?_ ?_; (first | omega | (simp <;> omega)); (first | omega | (simp <;> omega)); (first | omega | (simp <;> omega))))) hB 801 (by omega) (by omega)).mono ?_
        rintro e v3 ⟨x3, rfl, hx3, hD3', hG3⟩
        have hD3 := Lib.hid hD3'
        have lG3 := hD3'.lt
        have zG3 := hG3.size
        (try simp at zG3)
        have hA3 : Blk v3 (w.heap.size) 25 #[.int .i64 0, .int .i64 0, .int .i64 0] := Blk.grown (by (repeat (first | with_reducible assumption | (with_reducible apply Blk.new_at; (first | rfl | (simp; done))) | with_reducible apply Blk.store3 | with_reducible apply Blk.store4 | (with_reducible apply Blk.farp; (first | omega | (simp <;> omega))) | with_reducible apply Blk.allocp | with_reducible apply Blk.drew | with_reducible apply Blk.drewN))) hG3 (by simp <;> omega)
        have cA3 := hA3.cell; have fA3 := hA3.frozen; have lA3 := hA3.lt; have mA3 := Nat.ne_of_gt lA3; have nA3 := Nat.ne_of_lt lA3
        have hS3 : Blk v3 (w.heap.size + 1) 3 #[.int .i64 x, .int .i64 y, .int .i64 z] := Blk.grown (by (repeat (first | with_reducible assumption | (with_reducible apply Blk.new_at; (first | rfl | (simp; done))) | with_reducible apply Blk.store3 | with_reducible apply Blk.store4 | (with_reducible apply Blk.farp; (first | omega | (simp <;> omega))) | with_reducible apply Blk.allocp | with_reducible apply Blk.drew | with_reducible apply Blk.drewN))) hG3 (by simp <;> omega)
        have cS3 := hS3.cell; have fS3 := hS3.frozen; have lS3 := hS3.lt; have mS3 := Nat.ne_of_gt lS3; have nS3 := Nat.ne_of_lt lS3
        clear hD3' hG3
        go_wp2_with fail
        refine (among_at (w := v3) (by repeat (first | with_reducible assumption | (with_reducible apply Hid.out; assumption) | with_reducible apply Drw.drewN | with_reducible apply Drw.drew | with_reducible apply Drw.alloc | (with_reducible refine Drw.setp ?_ ?_ ?_ ?_; (first | omega | (simp <;> omega)); (first | omega | (simp <;> omega)); (first | omega | (simp <;> omega))))) hB [0, 400, -400, 401, -401, 4611686018427387904, x3 - 400] (fun x => -4611686018427387904 ≤ x ∧ x ≤ 4611686018427387904) (by simp only [List.mem_cons, List.not_mem_nil, or_false]; rintro x (rfl | rfl | rfl | rfl | rfl | rfl | rfl) <;> omega) (by simp) (by simp) (by omega) rfl rfl rfl).mono ?_
        rintro e v4 ⟨x4, rfl, hx4, hD4', hG4⟩
        have hD4 := Lib.hid hD4'
        have lG4 := hD4'.lt
        have zG4 := hG4.size
        (try simp at zG4)
        have hA4 : Blk v4 (w.heap.size) 25 #[.int .i64 0, .int .i64 0, .int .i64 0] := Blk.grown (by (repeat (first | with_reducible assumption | (with_reducible apply Blk.new_at; (first | rfl | (simp; done))) | with_reducible apply Blk.store3 | with_reducible apply Blk.store4 | (with_reducible apply Blk.farp; (first | omega | (simp <;> omega))) | with_reducible apply Blk.allocp | with_reducible apply Blk.drew | with_reducible apply Blk.drewN))) hG4 (by simp <;> omega)
        have cA4 := hA4.cell; have fA4 := hA4.frozen; have lA4 := hA4.lt; have mA4 := Nat.ne_of_gt lA4; have nA4 := Nat.ne_of_lt lA4
        have hS4 : Blk v4 (w.heap.size + 1) 3 #[.int .i64 x, .int .i64 y, .int .i64 z] := Blk.grown (by (repeat (first | with_reducible assumption | (with_reducible apply Blk.new_at; (first | rfl | (simp; done))) | with_reducible apply Blk.store3 | with_reducible apply Blk.store4 | (with_reducible apply Blk.farp; (first | omega | (simp <;> omega))) | with_reducible apply Blk.allocp | with_reducible apply Blk.drew | with_reducible apply Blk.drewN))) hG4 (by simp <;> omega)
        have cS4 := hS4.cell; have fS4 := hS4.frozen; have lS4 := hS4.lt; have mS4 := Nat.ne_of_gt lS4; have nS4 := Nat.ne_of_lt lS4
        clear hD4' hG4
        have hi : x2 = 0 ∨ x2 = 1 ∨ x2 = 2 := by omega
        clear hx2 hx3
        rcases hi with rfl | rfl | rfl
        · go_wp2
          go_region_held3 (fun w' => w'.cell? ⟨w.heap.size + 1, 0, none⟩ = some (.int .i64 (x4)) ∧ w'.cell? ⟨w.heap.size + 1, 1, none⟩ = some (.int .i64 (y)) ∧ w'.cell? ⟨w.heap.size + 1, 2, none⟩ = some (.int .i64 (z))) (first | (go_keep; done) | (go_simp; done)) (fail)
          all_goals
            go_wp2
            exact bodyPost_ret (v := .agg #[.int .i64 (x4), .int .i64 (y), .int .i64 (z)]) (by simp [results, Try.results40, go_sem, *]) rfl (hfin.out _ _ _ _ (w3_of (by omega) (by omega) (by omega)) (Drw.more (n := n + 8 + 8 + 8 + 2 + 2 + 2 + 2) (by repeat (first | with_reducible assumption | (with_reducible apply Hid.out; assumption) | with_reducible apply Drw.drewN | with_reducible apply Drw.drew | with_reducible apply Drw.alloc | (with_reducible refine Drw.setp ?_ ?_ ?_ ?_; (first | omega | (simp <;> omega)); (first | omega | (simp <;> omega)); (first | omega | (simp <;> omega))))) (by omega)))
        · go_wp2
          go_region_held3 (fun w' => w'.cell? ⟨w.heap.size + 1, 0, none⟩ = some (.int .i64 (x)) ∧ w'.cell? ⟨w.heap.size + 1, 1, none⟩ = some (.int .i64 (x4)) ∧ w'.cell? ⟨w.heap.size + 1, 2, none⟩ = some (.int .i64 (z))) (first | (go_keep; done) | (go_simp; done)) (fail)
          all_goals
            go_wp2
            exact bodyPost_ret (v := .agg #[.int .i64 (x), .int .i64 (x4), .int .i64 (z)]) (by simp [results, Try.results40, go_sem, *]) rfl (hfin.out _ _ _ _ (w3_of (by omega) (by omega) (by omega)) (Drw.more (n := n + 8 + 8 + 8 + 2 + 2 + 2 + 2) (by repeat (first | with_reducible assumption | (with_reducible apply Hid.out; assumption) | with_reducible apply Drw.drewN | with_reducible apply Drw.drew | with_reducible apply Drw.alloc | (with_reducible refine Drw.setp ?_ ?_ ?_ ?_; (first | omega | (simp <;> omega)); (first | omega | (simp <;> omega)); (first | omega | (simp <;> omega))))) (by omega)))
        · go_wp2
          go_region_held3 (fun w' => w'.cell? ⟨w.heap.size + 1, 0, none⟩ = some (.int .i64 (x)) ∧ w'.cell? ⟨w.heap.size + 1, 1, none⟩ = some (.int .i64 (y)) ∧ w'.cell? ⟨w.heap.size + 1, 2, none⟩ = some (.int .i64 (x4))) (first | (go_keep; done) | (go_simp; done)) (fail)
          all_goals
            go_wp2
            exact bodyPost_ret (v := .agg #[.int .i64 (x), .int .i64 (y), .int .i64 (x4)]) (by simp [results, Try.results40, go_sem, *]) rfl (hfin.out _ _ _ _ (w3_of (by omega) (by omega) (by omega)) (Drw.more (n := n + 8 + 8 + 8 + 2 + 2 + 2 + 2) (by repeat (first | with_reducible assumption | (with_reducible apply Hid.out; assumption) | with_reducible apply Drw.drewN | with_reducible apply Drw.drew | with_reducible apply Drw.alloc | (with_reducible refine Drw.setp ?_ ?_ ?_ ?_; (first | omega | (simp <;> omega)); (first | omega | (simp <;> omega)); (first | omega | (simp <;> omega))))) (by omega)))
      have n0 : (x1 == 0) = false := by rw [beq_eq_false_iff_ne]; exact e0
      by_cases e1 : x1 = 1
      · subst e1
        clear hx1
        go_wp2_with fail
        refine (among_at (w := v1) (by repeat (first | with_reducible assumption | (with_reducible apply Hid.out; assumption) | with_reducible apply Drw.drewN | with_reducible apply Drw.drew | with_reducible apply Drw.alloc | (with_reducible refine Drw.setp ?_ ?_ ?_ ?_; (first | omega | (simp <;> omega)); (first | omega | (simp <;> omega)); (first | omega | (simp <;> omega))))) hB [2, 3, 4, 5, 6, 9] (fun x => 0 ≤ x ∧ x ≤ 9) (by simp) (by simp) (by simp) (by omega) rfl rfl rfl).mono ?_
        rintro e v2 ⟨x2, rfl, hx2, hD2', hG2⟩
        have hD2 := Lib.hid hD2'
        have lG2 := hD2'.lt
        have zG2 := hG2.size
        (try simp at zG2)
        have hA2 : Blk v2 (w.heap.size) 25 #[.int .i64 0, .int .i64 0, .int .i64 0] := Blk.grown (by (repeat (first | with_reducible assumption | (with_reducible apply Blk.new_at; (first | rfl | (simp; done))) | with_reducible apply Blk.store3 | with_reducible apply Blk.store4 | (with_reducible apply Blk.farp; (first | omega | (simp <;> omega))) | with_reducible apply Blk.allocp | with_reducible apply Blk.drew | with_reducible apply Blk.drewN))) hG2 (by simp <;> omega)
        have cA2 := hA2.cell; have fA2 := hA2.frozen; have lA2 := hA2.lt; have mA2 := Nat.ne_of_gt lA2; have nA2 := Nat.ne_of_lt lA2
        have hS2 : Blk v2 (w.heap.size + 1) 3 #[.int .i64 x, .int .i64 y, .int .i64 z] := Blk.grown (by (repeat (first | with_reducible assumption | (with_reducible apply Blk.new_at; (first | rfl | (simp; done))) | with_reducible apply Blk.store3 | with_reducible apply Blk.store4 | (with_reducible apply Blk.farp; (first | omega | (simp <;> omega))) | with_reducible apply Blk.allocp | with_reducible apply Blk.drew | with_reducible apply Blk.drewN))) hG2 (by simp <;> omega)
        have cS2 := hS2.cell; have fS2 := hS2.frozen; have lS2 := hS2.lt; have mS2 := Nat.ne_of_gt lS2; have nS2 := Nat.ne_of_lt lS2
        clear hD2' hG2
        have b1 := mulb9 hx hx2
        have b2 := mulb9 hy hx2
        obtain ⟨X, hX⟩ : ∃ X, x * x2 = X := ⟨_, rfl⟩
        obtain ⟨Y, hY⟩ : ∃ Y, y * x2 = Y := ⟨_, rfl⟩
        rw [hX] at b1
        rw [hY] at b2
        have V1 : wrap64 X = X := IntWalk.wrap64_in _ (by omega)
        have V2 : wrap64 Y = Y := IntWalk.wrap64_in _ (by omega)
        go_wp2
        go_region_held3 (fun w' => w'.cell? ⟨w.heap.size + 1, 0, none⟩ = some (.int .i64 (X)) ∧ w'.cell? ⟨w.heap.size + 1, 1, none⟩ = some (.int .i64 (Y)) ∧ w'.cell? ⟨w.heap.size + 1, 2, none⟩ = some (.int .i64 (z))) (first | (go_keep; done) | (go_simp; done)) (fail)
        all_goals
          go_wp2
          exact bodyPost_ret (v := .agg #[.int .i64 (X), .int .i64 (Y), .int .i64 (z)]) (by simp [results, Try.results40, go_sem, *]) rfl (hfin.out _ _ _ _ (w3_of (by omega) (by omega) (by omega)) (Drw.more (n := n + 8 + 8 + 8 + 2 + 2) (by repeat (first | with_reducible assumption | (with_reducible apply Hid.out; assumption) | with_reducible apply Drw.drewN | with_reducible apply Drw.drew | with_reducible apply Drw.alloc | (with_reducible refine Drw.setp ?_ ?_ ?_ ?_; (first | omega | (simp <;> omega)); (first | omega | (simp <;> omega)); (first | omega | (simp <;> omega))))) (by omega)))
      have n1 : (x1 == 1) = false := by rw [beq_eq_false_iff_ne]; exact e1
      by_cases e2 : x1 = 2
      · subst e2
        clear hx1
        go_wp2_with fail
        refine (pick_d (by repeat (first | with_reducible assumption | (with_reducible apply Hid.out; assumption) | with_reducible apply Drw.drewN | with_reducible apply Drw.drew | with_reducible apply Drw.alloc | (with_reducible refine Drw.setp ?_ ?_ ?_ ?_; (first | omega | (simp <;> omega)); (first | omega | (simp <;> omega)); (first | omega | (simp <;> omega))))) hB 6 (by omega) (by omega)).mono ?_
        rintro e v2 ⟨x2, rfl, hx2, hD2', hG2⟩
        have hD2 := Lib.hid hD2'
        have lG2 := hD2'.lt
        have zG2 := hG2.size
        (try simp at zG2)
        have hA2 : Blk v2 (w.heap.size) 25 #[.int .i64 0, .int .i64 0, .int .i64 0] := Blk.grown (by (repeat (first | with_reducible assumption | (with_reducible apply Blk.new_at; (first | rfl | (simp; done))) | with_reducible apply Blk.store3 | with_reducible apply Blk.store4 | (with_reducible apply Blk.farp; (first | omega | (simp <;> omega))) | with_reducible apply Blk.allocp | with_reducible apply Blk.drew | with_reducible apply Blk.drewN))) hG2 (by simp <;> omega)
        have cA2 := hA2.cell; have fA2 := hA2.frozen; have lA2 := hA2.lt; have mA2 := Nat.ne_of_gt lA2; have nA2 := Nat.ne_of_lt lA2
        have hS2 : Blk v2 (w.heap.size + 1) 3 #[.int .i64 x, .int .i64 y, .int .i64 z] := Blk.grown (by (repeat (first | with_reducible assumption | (with_reducible apply Blk.new_at; (first | rfl | (simp; done))) | with_reducible apply Blk.store3 | with_reducible apply Blk.store4 | (with_reducible apply Blk.farp; (first | omega | (simp <;> omega))) | with_reducible apply Blk.allocp | with_reducible apply Blk.drew | with_reducible apply Blk.drewN))) hG2 (by simp <;> omega)
        have cS2 := hS2.cell; have fS2 := hS2.frozen; have lS2 := hS2.lt; have mS2 := Nat.ne_of_gt lS2; have nS2 := Nat.ne_of_lt lS2
        clear hD2' hG2
        go_wp2_with fail
        refine (pick_d (by repeat (first | with_reducible assumption | (with_reducible apply Hid.out; assumption) | with_reducible apply Drw.drewN | with_reducible apply Drw.drew | with_reducible apply Drw.alloc | (with_reducible refine Drw.setp ?_ ?_ ?_ ?_; (first | omega | (simp <;> omega)); (first | omega | (simp <;> omega)); (first | omega | (simp <;> omega))))) hB 6 (by omega) (by omega)).mono ?_
        rintro e v3 ⟨x3, rfl, hx3, hD3', hG3⟩
        have hD3 := Lib.hid hD3'
        have lG3 := hD3'.lt
        have zG3 := hG3.size
        (try simp at zG3)
        have hA3 : Blk v3 (w.heap.size) 25 #[.int .i64 0, .int .i64 0, .int .i64 0] := Blk.grown (by (repeat (first | with_reducible assumption | (with_reducible apply Blk.new_at; (first | rfl | (simp; done))) | with_reducible apply Blk.store3 | with_reducible apply Blk.store4 | (with_reducible apply Blk.farp; (first | omega | (simp <;> omega))) | with_reducible apply Blk.allocp | with_reducible apply Blk.drew | with_reducible apply Blk.drewN))) hG3 (by simp <;> omega)
        have cA3 := hA3.cell; have fA3 := hA3.frozen; have lA3 := hA3.lt; have mA3 := Nat.ne_of_gt lA3; have nA3 := Nat.ne_of_lt lA3
        have hS3 : Blk v3 (w.heap.size + 1) 3 #[.int .i64 x, .int .i64 y, .int .i64 z] := Blk.grown (by (repeat (first | with_reducible assumption | (with_reducible apply Blk.new_at; (first | rfl | (simp; done))) | with_reducible apply Blk.store3 | with_reducible apply Blk.store4 | (with_reducible apply Blk.farp; (first | omega | (simp <;> omega))) | with_reducible apply Blk.allocp | with_reducible apply Blk.drew | with_reducible apply Blk.drewN))) hG3 (by simp <;> omega)
        have cS3 := hS3.cell; have fS3 := hS3.frozen; have lS3 := hS3.lt; have mS3 := Nat.ne_of_gt lS3; have nS3 := Nat.ne_of_lt lS3
        clear hD3' hG3
        have b1 := mulb (a := 1 + x2) hx (by omega) (by omega)
        have b2 := mulb (a := 1 + x2) b1 (by omega) (by omega)
        have b3 := mulb (a := x3) hy (by omega) (by omega)
        have b4 := mulb (a := x3) b3 (by omega) (by omega)
        have K1 := Lib.hid (show IntKind.i64.wrap (x * (1 + x2)) = x * (1 + x2) from IntWalk.i64_in _ (by omega))
        have K2 := Lib.hid (show IntKind.i64.wrap (x * (1 + x2) * (1 + x2)) = x * (1 + x2) * (1 + x2) from IntWalk.i64_in _ (by omega))
        have K3 := Lib.hid (show IntKind.i64.wrap (y * x3) = y * x3 from IntWalk.i64_in _ (by omega))
        have K4 := Lib.hid (show IntKind.i64.wrap (y * x3 * x3) = y * x3 * x3 from IntWalk.i64_in _ (by omega))
        have K5 := Lib.hid (show IntKind.i64.wrap (x * (1 + x2) * (1 + x2) + y * x3 * x3) = x * (1 + x2) * (1 + x2) + y * x3 * x3 from IntWalk.i64_in _ (by omega))
        have K6 := Lib.hid (show IntKind.i64.wrap (-(x * (1 + x2) * (1 + x2) + y * x3 * x3)) = -(x * (1 + x2) * (1 + x2) + y * x3 * x3) from IntWalk.i64_in _ (by omega))
        have HW := Lib.hid (w3_of (x := x) (y := y) (z := -(x * (1 + x2) * (1 + x2) + y * x3 * x3)) (by omega) (by omega) (by omega))
        have W2 : wrap64 (1 + x2) = 1 + x2 := IntWalk.wrap64_in _ (by omega)
        clear b1 b2 b3 b4
        have k1 := K1.out; have k2 := K2.out; have k3 := K3.out; have k4 := K4.out; have k5 := K5.out; have k6 := K6.out
        clear K1 K2 K3 K4 K5 K6
        go_wp2_with fail
        go_region_held3 (fun w' => w'.cell? ⟨w.heap.size + 1, 0, none⟩ = some (.int .i64 (x)) ∧ w'.cell? ⟨w.heap.size + 1, 1, none⟩ = some (.int .i64 (y))) (first | (go_keep; done) | (go_simp; done)) (fail)
        have hS6 : Blk (v3.setCell ⟨w.heap.size + 1, 2, none⟩ (.int .i64 (-(x * (1 + x2) * (1 + x2) + y * x3 * x3)))) (w.heap.size + 1) 3 #[.int .i64 x, .int .i64 y, .int .i64 (-(x * (1 + x2) * (1 + x2) + y * x3 * x3))] := hS3.s2
        go_wp2_with fail
        go_region_held3 (fun w' => w'.cell? ⟨w.heap.size + 1, 0, none⟩ = some (.int .i64 (x)) ∧ w'.cell? ⟨w.heap.size + 1, 1, none⟩ = some (.int .i64 (y)) ∧ w'.cell? ⟨w.heap.size + 1, 2, none⟩ = some (.int .i64 (-(x * (1 + x2) * (1 + x2) + y * x3 * x3)))) (first | (go_keep; done) | (go_simp; done)) (fail)
        all_goals
          go_wp2
          exact bodyPost_ret (v := .agg #[.int .i64 (x), .int .i64 (y), .int .i64 (-(x * (1 + x2) * (1 + x2) + y * x3 * x3))]) (by simp [results, Try.results40, go_sem, *]) rfl (hfin.out _ _ _ _ (HW.out) (Drw.more (n := n + 8 + 8 + 8 + 2 + 2 + 2) (by repeat (first | with_reducible assumption | (with_reducible apply Hid.out; assumption) | with_reducible apply Drw.drewN | with_reducible apply Drw.drew | with_reducible apply Drw.alloc | (with_reducible refine Drw.setp ?_ ?_ ?_ ?_; (first | omega | (simp <;> omega)); (first | omega | (simp <;> omega)); (first | omega | (simp <;> omega))))) (by omega)))
      have n2 : (x1 == 2) = false := by rw [beq_eq_false_iff_ne]; exact e2
      by_cases e3 : x1 = 3
      · subst e3
        clear hx1
        go_wp2_with fail
        refine (pick_d (by repeat (first | with_reducible assumption | (with_reducible apply Hid.out; assumption) | with_reducible apply Drw.drewN | with_reducible apply Drw.drew | with_reducible apply Drw.alloc | (with_reducible refine Drw.setp ?_ ?_ ?_ ?_; (first | omega | (simp <;> omega)); (first | omega | (simp <;> omega)); (first | omega | (simp <;> omega))))) hB 6 (by omega) (by omega)).mono ?_
        rintro e v2 ⟨x2, rfl, hx2, hD2', hG2⟩
        have hD2 := Lib.hid hD2'
        have lG2 := hD2'.lt
        have zG2 := hG2.size
        (try simp at zG2)
        have hA2 : Blk v2 (w.heap.size) 25 #[.int .i64 0, .int .i64 0, .int .i64 0] := Blk.grown (by (repeat (first | with_reducible assumption | (with_reducible apply Blk.new_at; (first | rfl | (simp; done))) | with_reducible apply Blk.store3 | with_reducible apply Blk.store4 | (with_reducible apply Blk.farp; (first | omega | (simp <;> omega))) | with_reducible apply Blk.allocp | with_reducible apply Blk.drew | with_reducible apply Blk.drewN))) hG2 (by simp <;> omega)
        have cA2 := hA2.cell; have fA2 := hA2.frozen; have lA2 := hA2.lt; have mA2 := Nat.ne_of_gt lA2; have nA2 := Nat.ne_of_lt lA2
        have hS2 : Blk v2 (w.heap.size + 1) 3 #[.int .i64 x, .int .i64 y, .int .i64 z] := Blk.grown (by (repeat (first | with_reducible assumption | (with_reducible apply Blk.new_at; (first | rfl | (simp; done))) | with_reducible apply Blk.store3 | with_reducible apply Blk.store4 | (with_reducible apply Blk.farp; (first | omega | (simp <;> omega))) | with_reducible apply Blk.allocp | with_reducible apply Blk.drew | with_reducible apply Blk.drewN))) hG2 (by simp <;> omega)
        have cS2 := hS2.cell; have fS2 := hS2.frozen; have lS2 := hS2.lt; have mS2 := Nat.ne_of_gt lS2; have nS2 := Nat.ne_of_lt lS2
        clear hD2' hG2
        go_wp2_with fail
        refine (pick_d (by repeat (first | with_reducible assumption | (with_reducible apply Hid.out; assumption) | with_reducible apply Drw.drewN | with_reducible apply Drw.drew | with_reducible apply Drw.alloc | (with_reducible refine Drw.setp ?_ ?_ ?_ ?_; (first | omega | (simp <;> omega)); (first | omega | (simp <;> omega)); (first | omega | (simp <;> omega))))) hB 6 (by omega) (by omega)).mono ?_
        rintro e v3 ⟨x3, rfl, hx3, hD3', hG3⟩
        have hD3 := Lib.hid hD3'
        have lG3 := hD3'.lt
        have zG3 := hG3.size
        (try simp at zG3)
        have hA3 : Blk v3 (w.heap.size) 25 #[.int .i64 0, .int .i64 0, .int .i64 0] := Blk.grown (by (repeat (first | with_reducible assumption | (with_reducible apply Blk.new_at; (first | rfl | (simp; done))) | with_reducible apply Blk.store3 | with_reducible apply Blk.store4 | (with_reducible apply Blk.farp; (first | omega | (simp <;> omega))) | with_reducible apply Blk.allocp | with_reducible apply Blk.drew | with_reducible apply Blk.drewN))) hG3 (by simp <;> omega)
        have cA3 := hA3.cell; have fA3 := hA3.frozen; have lA3 := hA3.lt; have mA3 := Nat.ne_of_gt lA3; have nA3 := Nat.ne_of_lt lA3
        have hS3 : Blk v3 (w.heap.size + 1) 3 #[.int .i64 x, .int .i64 y, .int .i64 z] := Blk.grown (by (repeat (first | with_reducible assumption | (with_reducible apply Blk.new_at; (first | rfl | (simp; done))) | with_reducible apply Blk.store3 | with_reducible apply Blk.store4 | (with_reducible apply Blk.farp; (first | omega | (simp <;> omega))) | with_reducible apply Blk.allocp | with_reducible apply Blk.drew | with_reducible apply Blk.drewN))) hG3 (by simp <;> omega)
        have cS3 := hS3.cell; have fS3 := hS3.frozen; have lS3 := hS3.lt; have mS3 := Nat.ne_of_gt lS3; have nS3 := Nat.ne_of_lt lS3
        clear hD3' hG3
        have b1 := mulb (a := 1 + x2) hx (by omega) (by omega)
        have b2 := mulb (a := 1 + x2) b1 (by omega) (by omega)
        have b3 := mulb (a := x3) hy (by omega) (by omega)
        have b4 := mulb (a := x3) b3 (by omega) (by omega)
        have K1 := Lib.hid (show IntKind.i64.wrap (x * (1 + x2)) = x * (1 + x2) from IntWalk.i64_in _ (by omega))
        have K2 := Lib.hid (show IntKind.i64.wrap (x * (1 + x2) * (1 + x2)) = x * (1 + x2) * (1 + x2) from IntWalk.i64_in _ (by omega))
        have K3 := Lib.hid (show IntKind.i64.wrap (y * x3) = y * x3 from IntWalk.i64_in _ (by omega))
        have K4 := Lib.hid (show IntKind.i64.wrap (y * x3 * x3) = y * x3 * x3 from IntWalk.i64_in _ (by omega))
        have K5 := Lib.hid (show IntKind.i64.wrap (x * (1 + x2) * (1 + x2) + y * x3 * x3) = x * (1 + x2) * (1 + x2) + y * x3 * x3 from IntWalk.i64_in _ (by omega))
        have K6 := Lib.hid (show IntKind.i64.wrap (-(x * (1 + x2) * (1 + x2) + y * x3 * x3)) = -(x * (1 + x2) * (1 + x2) + y * x3 * x3) from IntWalk.i64_in _ (by omega))
        have HW := Lib.hid (w3_of (x := x) (y := y) (z := -(x * (1 + x2) * (1 + x2) + y * x3 * x3)) (by omega) (by omega) (by omega))
        have W2 : wrap64 (1 + x2) = 1 + x2 := IntWalk.wrap64_in _ (by omega)
        clear b1 b2 b3 b4
        have k1 := K1.out; have k2 := K2.out; have k3 := K3.out; have k4 := K4.out; have k5 := K5.out; have k6 := K6.out
        clear K1 K2 K3 K4 K5 K6
        go_wp2_with fail
        go_region_held3 (fun w' => w'.cell? ⟨w.heap.size + 1, 0, none⟩ = some (.int .i64 (x)) ∧ w'.cell? ⟨w.heap.size + 1, 1, none⟩ = some (.int .i64 (y))) (first | (go_keep; done) | (go_simp; done)) (fail)
        have hS6 : Blk (v3.setCell ⟨w.heap.size + 1, 2, none⟩ (.int .i64 (-(x * (1 + x2) * (1 + x2) + y * x3 * x3)))) (w.heap.size + 1) 3 #[.int .i64 x, .int .i64 y, .int .i64 (-(x * (1 + x2) * (1 + x2) + y * x3 * x3))] := hS3.s2
        go_wp2_with fail
        go_region_held3 (fun w' => w'.cell? ⟨w.heap.size + 1, 0, none⟩ = some (.int .i64 (x)) ∧ w'.cell? ⟨w.heap.size + 1, 1, none⟩ = some (.int .i64 (y)) ∧ w'.cell? ⟨w.heap.size + 1, 2, none⟩ = some (.int .i64 (-(x * (1 + x2) * (1 + x2) + y * x3 * x3)))) (first | (go_keep; done) | (go_simp; done)) (fail)
        all_goals
          go_wp2
          exact bodyPost_ret (v := .agg #[.int .i64 (x), .int .i64 (y), .int .i64 (-(x * (1 + x2) * (1 + x2) + y * x3 * x3))]) (by simp [results, Try.results40, go_sem, *]) rfl (hfin.out _ _ _ _ (HW.out) (Drw.more (n := n + 8 + 8 + 8 + 2 + 2 + 2) (by repeat (first | with_reducible assumption | (with_reducible apply Hid.out; assumption) | with_reducible apply Drw.drewN | with_reducible apply Drw.drew | with_reducible apply Drw.alloc | (with_reducible refine Drw.setp ?_ ?_ ?_ ?_; (first | omega | (simp <;> omega)); (first | omega | (simp <;> omega)); (first | omega | (simp <;> omega))))) (by omega)))
      have n3 : (x1 == 3) = false := by rw [beq_eq_false_iff_ne]; exact e3
      clear e0 e1 e2 e3
      go_wp2
      go_region_held3 (fun w' => w'.cell? ⟨w.heap.size + 1, 0, none⟩ = some (.int .i64 (x)) ∧ w'.cell? ⟨w.heap.size + 1, 1, none⟩ = some (.int .i64 (y)) ∧ w'.cell? ⟨w.heap.size + 1, 2, none⟩ = some (.int .i64 (z))) (first | (go_keep; done) | (go_simp; done)) (fail)
      all_goals
        go_wp2
        exact bodyPost_ret (v := .agg #[.int .i64 (x), .int .i64 (y), .int .i64 (z)]) (by simp [results, Try.results40, go_sem, *]) rfl (hfin.out _ _ _ _ (w3_of (by omega) (by omega) (by omega)) (Drw.more (n := n + 8 + 8 + 8 + 2) (by repeat (first | with_reducible assumption | (with_reducible apply Hid.out; assumption) | with_reducible apply Drw.drewN | with_reducible apply Drw.drew | with_reducible apply Drw.alloc | (with_reducible refine Drw.setp ?_ ?_ ?_ ?_; (first | omega | (simp <;> omega)); (first | omega | (simp <;> omega)); (first | omega | (simp <;> omega))))) (by omega)))
end
end Go.Proofs.Ytdhennlanngjgaa
