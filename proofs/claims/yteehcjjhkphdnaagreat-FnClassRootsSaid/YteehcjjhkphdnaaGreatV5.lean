/- Contracts of ClassRoots, of the program and of the reference: the whole. -/
import Derived.Test.YteehcjjhkphdnaaGreatV4
import Derived.Test.YteehcjjhkphdnaaGreatNA
namespace Go.Proofs.YteehcjjhkphdnaaGreat
open Go.RowKit

def isExp (k : Int) : Bool := decide (0 ≤ k) && decide (k ≤ 100)
set_option maxHeartbeats 400000 in
theorem isClassExponent_any (k : Int) (w : World) : Calls Tryz.prog 129 #[.int .i64 k] w fun e w' => e = .returned (.bool (isExp k)) ∧ w = w' := by
  unfold isExp
  by_cases h : 0 ≤ k
  · go_enter Tryz.func129, Tryz.ntmps129
    go_wp2
    go_ret
    exact ⟨ret_bool (by first | (simp; done) | (simp; omega) | (rw [Bool.eq_iff_iff]; simp; omega) | (simp_all; done) | (simp_all; omega)), rfl⟩
  · go_enter Tryz.func129, Tryz.ntmps129
    go_wp2
    go_ret
    exact ⟨ret_bool (by first | (simp; done) | (simp; omega) | (rw [Bool.eq_iff_iff]; simp; omega) | (simp_all; done) | (simp_all; omega)), rfl⟩
/-- The roots' test. -/
noncomputable def rootP (d : Int) (r : Fm) (n : Nat) (f : Fm) : Bool := fmEq (pw d f n) r
/-- A list of forms in new memory comes back, and a truth value. -/
def RetF2 (L : List Fm) (ok : Bool) (w : World) (e : Ending) (w' : World) : Prop := ∃ v, e = .returned (.tuple #[v, .bool ok]) ∧ w'.ownsRow w.heap.size 36 3 v L.length (cellsF L) ∧ Below w.heap.size w w'
/-- What ClassRoots gives. -/
def RootL (a b c k : Int) (L : List Fm) (ok : Bool) : Prop :=
  (isCls a b c = false ∧ L = [] ∧ ok = false) ∨ (isCls a b c = true ∧ isExp k = false ∧ L = [] ∧ ok = false) ∨
  (isCls a b c = true ∧ ∃ n : Nat, k = n ∧ (n : Int) ≤ 100 ∧ L = (clsL (disc ⟨a, b, c⟩)).filter (rootP (disc ⟨a, b, c⟩) (red ⟨a, b, c⟩) n) ∧ ok = true)
theorem rootL_ex (a b c k : Int) : ∃ L ok, RootL a b c k L ok ∧ L.length ≤ 100000 := by
  cases hc : isCls a b c with
  | false => exact ⟨_, _, .inl ⟨hc, rfl, rfl⟩, by simp⟩
  | true =>
    cases hk : isExp k with
    | false => exact ⟨_, _, .inr (.inl ⟨hc, hk, rfl, rfl⟩), by simp⟩
    | true =>
      simp only [isExp, Bool.and_eq_true, decide_eq_true_eq] at hk
      exact ⟨_, _, .inr (.inr ⟨hc, k.toNat, by omega, by omega, rfl, rfl⟩), Nat.le_trans (List.length_filter_le _ _) (Nat.le_trans (clsL_len _) (by decide))⟩

set_option maxRecDepth 100000 in
set_option maxHeartbeats 1600000 in
theorem implRoots_any (a b c k : Int) (L : List Fm) (ok : Bool) (w : World) (h : RootL a b c k L ok) :
    Calls Tryz.prog 52 #[.agg #[.int .i64 a, .int .i64 b, .int .i64 c], .int .i64 k] w (RetF2 L ok w) := by
  rcases h with ⟨hc, rfl, rfl⟩ | ⟨hc, hk, rfl, rfl⟩ | ⟨hc, n, rfl, hn, rfl, rfl⟩
  · go_enter Tryz.func52, Tryz.ntmps52
    go_wp2_with (go_at_call 93; (with_reducible refine (icls_any a b c _).mono ?_); rw [hc]; rintro e v1 ⟨rfl, hB1⟩; have hZ1 := hB1.size; (try simp at hZ1); (try have zl1 : w.heap.size < v1.heap.size := by omega); (try have ze1 : w.heap.size ≤ v1.heap.size := by omega); (try have zn1 : ¬ w.heap.size = v1.heap.size := by omega); (try have zm1 : ¬ v1.heap.size = w.heap.size := by omega); have hC1_0 := fun o => (calm_cells hB1).1 (w.heap.size) o (by first | omega | (simp <;> omega)); have hF1_0 := fun o => (calm_cells hB1).2 (w.heap.size) o (by first | omega | (simp <;> omega)); (try have hl1_0 : w.heap.size < v1.heap.size := by omega); (try have hm1_0 : ¬ w.heap.size = v1.heap.size := by omega); (try have hn1_0 : ¬ v1.heap.size = w.heap.size := by omega); have hC1_1 := fun o => (calm_cells hB1).1 (w.heap.size + 1) o (by first | omega | (simp <;> omega)); have hF1_1 := fun o => (calm_cells hB1).2 (w.heap.size + 1) o (by first | omega | (simp <;> omega)); (try have hl1_1 : w.heap.size + 1 < v1.heap.size := by omega); (try have hm1_1 : ¬ w.heap.size + 1 = v1.heap.size := by omega); (try have hn1_1 : ¬ v1.heap.size = w.heap.size + 1 := by omega))
    go_ret2
    exact ⟨_, rfl, own_empty (by omega), (by repeat (first | with_reducible exact Below.refl _ _ | with_reducible assumption | with_reducible apply Below.drew | with_reducible apply below_drewN | (with_reducible apply below_setp; (first | omega | (simp <;> omega))) | (with_reducible apply below_allocp; (first | omega | (simp <;> omega))) | (with_reducible refine below_viap (by assumption) ?_ ?_; (first | omega | (simp <;> omega)))))⟩
  · have hE := Lib.hid (fun w => isClassExponent_any k w)
    rw [hk] at hE
    go_enter Tryz.func52, Tryz.ntmps52
    go_wp2_with (first | (go_at_call 93; (with_reducible refine (icls_any a b c _).mono ?_); rw [hc]; rintro e v1 ⟨rfl, hB1⟩; have hZ1 := hB1.size; (try simp at hZ1); (try have zl1 : w.heap.size < v1.heap.size := by omega); (try have ze1 : w.heap.size ≤ v1.heap.size := by omega); (try have zn1 : ¬ w.heap.size = v1.heap.size := by omega); (try have zm1 : ¬ v1.heap.size = w.heap.size := by omega); have hC1_0 := fun o => (calm_cells hB1).1 (w.heap.size) o (by first | omega | (simp <;> omega)); have hF1_0 := fun o => (calm_cells hB1).2 (w.heap.size) o (by first | omega | (simp <;> omega)); (try have hl1_0 : w.heap.size < v1.heap.size := by omega); (try have hm1_0 : ¬ w.heap.size = v1.heap.size := by omega); (try have hn1_0 : ¬ v1.heap.size = w.heap.size := by omega); have hC1_1 := fun o => (calm_cells hB1).1 (w.heap.size + 1) o (by first | omega | (simp <;> omega)); have hF1_1 := fun o => (calm_cells hB1).2 (w.heap.size + 1) o (by first | omega | (simp <;> omega)); (try have hl1_1 : w.heap.size + 1 < v1.heap.size := by omega); (try have hm1_1 : ¬ w.heap.size + 1 = v1.heap.size := by omega); (try have hn1_1 : ¬ v1.heap.size = w.heap.size + 1 := by omega)) | (go_at_call 129; (with_reducible refine (hE.out _).mono ?_); rintro e v ⟨rfl, rfl⟩))
    go_ret2
    exact ⟨_, rfl, own_empty (by omega), (by repeat (first | with_reducible exact Below.refl _ _ | with_reducible assumption | with_reducible apply Below.drew | with_reducible apply below_drewN | (with_reducible apply below_setp; (first | omega | (simp <;> omega))) | (with_reducible apply below_allocp; (first | omega | (simp <;> omega))) | (with_reducible refine below_viap (by assumption) ?_ ?_; (first | omega | (simp <;> omega)))))⟩
  · have cf := CF.of_cls hc
    obtain ⟨r, hr⟩ : ∃ r, red ⟨a, b, c⟩ = r := ⟨_, rfl⟩
    obtain ⟨d, hd⟩ : ∃ d, disc ⟨a, b, c⟩ = d := ⟨_, rfl⟩
    rw [hr, hd] at cf
    rw [hr, hd]
    have hk : isExp n = true := by unfold isExp; simp; omega
    have hE := Lib.hid (fun w => isClassExponent_any n w)
    rw [hk] at hE
    have hR := Lib.hid (fun w => reduced_cf d ⟨a, b, c⟩ r w cf)
    have hD := Lib.hid (fun w => disc_cf d ⟨a, b, c⟩ r w cf)
    have hDs := Lib.hid cf.D
    clear hr hd cf hk
    go_enter Tryz.func52, Tryz.ntmps52
    go_wp2_with (first
      | (go_at_call 93; (with_reducible refine (icls_any a b c _).mono ?_); rw [hc]; rintro e v1 ⟨rfl, hB1⟩; have hZ1 := hB1.size; (try simp at hZ1); (try have zl1 : w.heap.size < v1.heap.size := by omega); (try have ze1 : w.heap.size ≤ v1.heap.size := by omega); (try have zn1 : ¬ w.heap.size = v1.heap.size := by omega); (try have zm1 : ¬ v1.heap.size = w.heap.size := by omega); have hA1 : Blk v1 (w.heap.size) 36 #[.int .i64 a, .int .i64 b, .int .i64 c] := Blk.call (by (repeat (first | with_reducible assumption | (with_reducible apply Blk.new_at; (first | rfl | (simp; done))) | with_reducible apply Blk.store3 | with_reducible apply Blk.store4 | (with_reducible apply Blk.farp; (first | omega | (simp <;> omega))) | with_reducible apply Blk.allocp | with_reducible apply Blk.drew | with_reducible apply Blk.drewN))) hB1; have cA1 := hA1.cell; have fA1 := hA1.frozen; have lA1 := hA1.lt; have mA1 := Nat.ne_of_gt lA1; have nA1 := Nat.ne_of_lt lA1; have hK1 : Blk v1 (w.heap.size + 1) 3 #[.int .i64 n] := Blk.call (by (repeat (first | with_reducible assumption | (with_reducible apply Blk.new_at; (first | rfl | (simp; done))) | with_reducible apply Blk.store3 | with_reducible apply Blk.store4 | (with_reducible apply Blk.farp; (first | omega | (simp <;> omega))) | with_reducible apply Blk.allocp | with_reducible apply Blk.drew | with_reducible apply Blk.drewN))) hB1; have cK1 := hK1.cell; have fK1 := hK1.frozen; have lK1 := hK1.lt; have mK1 := Nat.ne_of_gt lK1; have nK1 := Nat.ne_of_lt lK1)
      | (go_at_call 129; (with_reducible refine (hE.out _).mono ?_); rintro e v ⟨rfl, rfl⟩)
      | (go_at_call 94; (with_reducible refine (hR.out _).mono ?_); rintro e v2 ⟨rfl, hB2⟩; have hZ2 := hB2.size; (try simp at hZ2); (try have zl2 : w.heap.size < v2.heap.size := by omega); (try have ze2 : w.heap.size ≤ v2.heap.size := by omega); (try have zn2 : ¬ w.heap.size = v2.heap.size := by omega); (try have zm2 : ¬ v2.heap.size = w.heap.size := by omega); have hA2 : Blk v2 (w.heap.size) 36 #[.int .i64 a, .int .i64 b, .int .i64 c] := Blk.call (by (repeat (first | with_reducible assumption | (with_reducible apply Blk.new_at; (first | rfl | (simp; done))) | with_reducible apply Blk.store3 | with_reducible apply Blk.store4 | (with_reducible apply Blk.farp; (first | omega | (simp <;> omega))) | with_reducible apply Blk.allocp | with_reducible apply Blk.drew | with_reducible apply Blk.drewN))) hB2; have cA2 := hA2.cell; have fA2 := hA2.frozen; have lA2 := hA2.lt; have mA2 := Nat.ne_of_gt lA2; have nA2 := Nat.ne_of_lt lA2; have hK2 : Blk v2 (w.heap.size + 1) 3 #[.int .i64 n] := Blk.call (by (repeat (first | with_reducible assumption | (with_reducible apply Blk.new_at; (first | rfl | (simp; done))) | with_reducible apply Blk.store3 | with_reducible apply Blk.store4 | (with_reducible apply Blk.farp; (first | omega | (simp <;> omega))) | with_reducible apply Blk.allocp | with_reducible apply Blk.drew | with_reducible apply Blk.drewN))) hB2; have cK2 := hK2.cell; have fK2 := hK2.frozen; have lK2 := hK2.lt; have mK2 := Nat.ne_of_gt lK2; have nK2 := Nat.ne_of_lt lK2)
      | (go_at_call 109; (with_reducible refine (hD.out _).mono ?_); rintro e v3 ⟨rfl, hB3⟩; have hZ3 := hB3.size; (try simp at hZ3); (try have zl3 : w.heap.size < v3.heap.size := by omega); (try have ze3 : w.heap.size ≤ v3.heap.size := by omega); (try have zn3 : ¬ w.heap.size = v3.heap.size := by omega); (try have zm3 : ¬ v3.heap.size = w.heap.size := by omega); have hK3 : Blk v3 (w.heap.size + 1) 3 #[.int .i64 n] := Blk.call (by (repeat (first | with_reducible assumption | (with_reducible apply Blk.new_at; (first | rfl | (simp; done))) | with_reducible apply Blk.store3 | with_reducible apply Blk.store4 | (with_reducible apply Blk.farp; (first | omega | (simp <;> omega))) | with_reducible apply Blk.allocp | with_reducible apply Blk.drew | with_reducible apply Blk.drewN))) hB3; have cK3 := hK3.cell; have fK3 := hK3.frozen; have lK3 := hK3.lt; have mK3 := Nat.ne_of_gt lK3; have nK3 := Nat.ne_of_lt lK3; have hR3 : Blk v3 (v2.heap.size) 36 #[.int .i64 r.a, .int .i64 r.b, .int .i64 r.c] := Blk.call (by (repeat (first | with_reducible assumption | (with_reducible apply Blk.new_at; (first | rfl | (simp; done))) | with_reducible apply Blk.store3 | with_reducible apply Blk.store4 | (with_reducible apply Blk.farp; (first | omega | (simp <;> omega))) | with_reducible apply Blk.allocp | with_reducible apply Blk.drew | with_reducible apply Blk.drewN))) hB3; have cR3 := hR3.cell; have fR3 := hR3.frozen; have lR3 := hR3.lt; have mR3 := Nat.ne_of_gt lR3; have nR3 := Nat.ne_of_lt lR3)
      | (go_at_call 111; (with_reducible refine (formsRoots_any d (rootP d r n) (w.heap.size + 1) v2.heap.size _ hDs.out.lo hDs.out.hi ?_).mono ?_)))
    · intro f hf w' hb
      have cK := hK3.below hb lK3
      have cR := hR3.below hb lR3
      have z := hb.size
      exact rootsFn_any d f r n (w.heap.size + 1) v2.heap.size w' (CF.of_mem hDs.out hf) hn ((cK.cell 0).trans rfl) (by omega) ((cR.cell 0).trans rfl) ((cR.cell 1).trans rfl) ((cR.cell 2).trans rfl) (by omega)
    · rintro e v4 ⟨vl, rfl, how, hB4⟩
      have hz4 := hB4.size
      go_wp2
      go_ret2
      exact ⟨_, rfl, own_base (by omega) how, (by repeat (first | with_reducible exact Below.refl _ _ | with_reducible assumption | with_reducible apply Below.drew | with_reducible apply below_drewN | (with_reducible apply below_setp; (first | omega | (simp <;> omega))) | (with_reducible apply below_allocp; (first | omega | (simp <;> omega))) | (with_reducible refine below_viap (by assumption) ?_ ?_; (first | omega | (simp <;> omega)))))⟩

/-- The state of the reference's loop: the filtered list, the list that is read, the block R of a form. -/
def RtSt (p : Fm → Bool) (L : List Fm) (B NB R : Nat) (r : Fm) (vl : Value) (w : World) (v vi : Value) (wr : World) : Prop :=
  ∃ k : Nat, vi = .int .i64 k ∧ k ≤ L.length ∧ wr.ownsRow NB 36 3 v ((L.take k).filter p).length (cellsF ((L.take k).filter p)) ∧ wr.ownsRow B 36 3 vl L.length (cellsF L) ∧ Apart v vl ∧
    Hid (Blk wr R 36 #[.int .i64 r.a, .int .i64 r.b, .int .i64 r.c]) ∧ R < wr.heap.size ∧ Below w.heap.size w wr

end Go.Proofs.YteehcjjhkphdnaaGreat
