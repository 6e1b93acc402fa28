/- Contracts of ClassRoots, of the program and of the reference: the whole. -/
import Derived.Test.YtifkmjmhhklkjaaV4
namespace Go.Proofs.Ytifkmjmhhklkjaa
open Go.RowKit

def isExp (k : Int) : Bool := decide (0 ≤ k) && decide (k ≤ 100)
set_option maxHeartbeats 400000 in
theorem isClassExponent_any (k : Int) (w : World) : Calls Try.prog 81 #[.int .i64 k] w fun e w' => e = .returned (.bool (isExp k)) ∧ w = w' := by
  unfold isExp
  by_cases h : 0 ≤ k
  · go_enter Try.func81, Try.ntmps81
    go_wp2
    go_ret
    exact ⟨ret_bool (by first | (simp; done) | (simp; omega) | (rw [Bool.eq_iff_iff]; simp; omega) | (simp_all; done) | (simp_all; omega)), rfl⟩
  · go_enter Try.func81, Try.ntmps81
    go_wp2
    go_ret
    exact ⟨ret_bool (by first | (simp; done) | (simp; omega) | (rw [Bool.eq_iff_iff]; simp; omega) | (simp_all; done) | (simp_all; omega)), rfl⟩
set_option maxHeartbeats 400000 in
theorem l1In_any (k a b : Int) (w : World) : Calls Try.prog 52 #[.int .i64 k, .int .i64 a, .int .i64 b] w fun e w' => e = .returned (.bool (decide (a ≤ k) && decide (k ≤ b))) ∧ w = w' := by
  by_cases h : a ≤ k
  · go_enter Try.func52, Try.ntmps52
    go_wp2
    go_ret
    exact ⟨ret_bool (by first | (simp; done) | (simp; omega) | (rw [Bool.eq_iff_iff]; simp; omega) | (simp_all; done) | (simp_all; omega)), rfl⟩
  · go_enter Try.func52, Try.ntmps52
    go_wp2
    go_ret
    exact ⟨ret_bool (by first | (simp; done) | (simp; omega) | (rw [Bool.eq_iff_iff]; simp; omega) | (simp_all; done) | (simp_all; omega)), rfl⟩

/-- The roots' test. -/
noncomputable def rootP (d : Int) (r : Fm) (n : Nat) (f : Fm) : Bool := fmEq (pw d f n) r
/-- A list of forms in new memory comes back, and a truth value. -/
def RetF2 (L : List Fm) (ok : Bool) (w : World) (e : Ending) (w' : World) : Prop := ∃ v, e = .returned (.tuple #[v, .bool ok]) ∧ w'.ownsRow w.heap.size 23 3 v L.length (cellsF L) ∧ Below w.heap.size w w'
/-- What ClassRoots gives. -/
def RootL (a b c k : Int) (L : List Fm) (ok : Bool) : Prop :=
  (isCls a b c = false ∧ L = [] ∧ ok = false) ∨ (isCls a b c = true ∧ isExp k = false ∧ L = [] ∧ ok = false) ∨
  (isCls a b c = true ∧ ∃ n : Nat, k = n ∧ (n : Int) ≤ 100 ∧ L = (clsL (disc ⟨a, b, c⟩)).filter (rootP (disc ⟨a, b, c⟩) (red ⟨a, b, c⟩) n) ∧ ok = true)
theorem rootL_ex (a b c k : Int) : ∃ L ok, RootL a b c k L ok ∧ L.length ≤ 100000 := by
  cases hc : isCls a b c with
  | false => exact ⟨_, _, .inl ⟨hc, rfl, rfl⟩, by simp⟩
  | true =>
    cases hk : isExp k with
    | false => exact ⟨_, _, .inr (.inl ⟨hc, hk, rfl, rfl⟩), by simp⟩
    | true =>
      simp only [isExp, Bool.and_eq_true, decide_eq_true_eq] at hk
      exact ⟨_, _, .inr (.inr ⟨hc, k.toNat, by omega, by omega, rfl, rfl⟩), Nat.le_trans (List.length_filter_le _ _) (Nat.le_trans (clsL_len _) (by decide))⟩

set_option maxRecDepth 100000 in
set_option maxHeartbeats 1600000 in
theorem implRoots_any (a b c k : Int) (L : List Fm) (ok : Bool) (w : World) (h : RootL a b c k L ok) :
    Calls Try.prog 44 #[.agg #[.int .i64 a, .int .i64 b, .int .i64 c], .int .i64 k] w (RetF2 L ok w) := by
  rcases h with ⟨hc, rfl, rfl⟩ | ⟨hc, hk, rfl, rfl⟩ | ⟨hc, n, rfl, hn, rfl, rfl⟩
  · go_enter Try.func44, Try.ntmps44
    go_wp2_with (go_at_call 60; (with_reducible refine (icls_any a b c _).mono ?_); rw [hc]; rintro e v1 ⟨rfl, hB1⟩; have hZ1 := hB1.size; (try simp at hZ1); (try have zl1 : w.heap.size < v1.heap.size := by omega); (try have ze1 : w.heap.size ≤ v1.heap.size := by omega); (try have zn1 : ¬ w.heap.size = v1.heap.size := by omega); (try have zm1 : ¬ v1.heap.size = w.heap.size := by omega); have hC1_0 := fun o => (calm_cells hB1).1 (w.heap.size) o (by first | omega | (simp <;> omega)); have hF1_0 := fun o => (calm_cells hB1).2 (w.heap.size) o (by first | omega | (simp <;> omega)); (try have hl1_0 : w.heap.size < v1.heap.size := by omega); (try have hm1_0 : ¬ w.heap.size = v1.heap.size := by omega); (try have hn1_0 : ¬ v1.heap.size = w.heap.size := by omega); have hC1_1 := fun o => (calm_cells hB1).1 (w.heap.size + 1) o (by first | omega | (simp <;> omega)); have hF1_1 := fun o => (calm_cells hB1).2 (w.heap.size + 1) o (by first | omega | (simp <;> omega)); (try have hl1_1 : w.heap.size + 1 < v1.heap.size := by omega); (try have hm1_1 : ¬ w.heap.size + 1 = v1.heap.size := by omega); (try have hn1_1 : ¬ v1.heap.size = w.heap.size + 1 := by omega))
    go_ret2
    exact ⟨_, rfl, own_empty (by omega), (by repeat (first | with_reducible exact Below.refl _ _ | with_reducible assumption | with_reducible apply Below.drew | with_reducible apply below_drewN | (with_reducible apply below_setp; (first | omega | (simp <;> omega))) | (with_reducible apply below_allocp; (first | omega | (simp <;> omega))) | (with_reducible refine below_viap (by assumption) ?_ ?_; (first | omega | (simp <;> omega)))))⟩
  · have hE := Lib.hid (fun w => isClassExponent_any k w)
    rw [hk] at hE
    go_enter Try.func44, Try.ntmps44
    go_wp2_with (first | (go_at_call 60; (with_reducible refine (icls_any a b c _).mono ?_); rw [hc]; rintro e v1 ⟨rfl, hB1⟩; have hZ1 := hB1.size; (try simp at hZ1); (try have zl1 : w.heap.size < v1.heap.size := by omega); (try have ze1 : w.heap.size ≤ v1.heap.size := by omega); (try have zn1 : ¬ w.heap.size = v1.heap.size := by omega); (try have zm1 : ¬ v1.heap.size = w.heap.size := by omega); have hC1_0 := fun o => (calm_cells hB1).1 (w.heap.size) o (by first | omega | (simp <;> omega)); have hF1_0 := fun o => (calm_cells hB1).2 (w.heap.size) o (by first | omega | (simp <;> omega)); (try have hl1_0 : w.heap.size < v1.heap.size := by omega); (try have hm1_0 : ¬ w.heap.size = v1.heap.size := by omega); (try have hn1_0 : ¬ v1.heap.size = w.heap.size := by omega); have hC1_1 := fun o => (calm_cells hB1).1 (w.heap.size + 1) o (by first | omega | (simp <;> omega)); have hF1_1 := fun o => (calm_cells hB1).2 (w.heap.size + 1) o (by first | omega | (simp <;> omega)); (try have hl1_1 : w.heap.size + 1 < v1.heap.size := by omega); (try have hm1_1 : ¬ w.heap.size + 1 = v1.heap.size := by omega); (try have hn1_1 : ¬ v1.heap.size = w.heap.size + 1 := by omega)) | (go_at_call 81; (with_reducible refine (hE.out _).mono ?_); rintro e v ⟨rfl, rfl⟩))
    go_ret2
    exact ⟨_, rfl, own_empty (by omega), (by repeat (first | with_reducible exact Below.refl _ _ | with_reducible assumption | with_reducible apply Below.drew | with_reducible apply below_drewN | (with_reducible apply below_setp; (first | omega | (simp <;> omega))) | (with_reducible apply below_allocp; (first | omega | (simp <;> omega))) | (with_reducible refine below_viap (by assumption) ?_ ?_; (first | omega | (simp <;> omega)))))⟩
  · have cf := CF.of_cls hc
    obtain ⟨r, hr⟩ : ∃ r, red ⟨a, b, c⟩ = r := ⟨_, rfl⟩
    obtain ⟨d, hd⟩ : ∃ d, disc ⟨a, b, c⟩ = d := ⟨_, rfl⟩
    rw [hr, hd] at cf
    rw [hr, hd]
    have hk : isExp n = true := by unfold isExp; simp; omega
    have hE := Lib.hid (fun w => isClassExponent_any n w)
    rw [hk] at hE
    have hR := Lib.hid (fun w => reduced_cf d ⟨a, b, c⟩ r w cf)
    have hD := Lib.hid (fun w => disc_cf d ⟨a, b, c⟩ r w cf)
    have hDs := Lib.hid cf.D
    clear hr hd cf hk
    go_enter Try.func44, Try.ntmps44
    go_wp2_with (first
      | (go_at_call 60; (with_reducible refine (icls_any a b c _).mono ?_); rw [hc]; rintro e v1 ⟨rfl, hB1⟩; have hZ1 := hB1.size; (try simp at hZ1); (try have zl1 : w.heap.size < v1.heap.size := by omega); (try have ze1 : w.heap.size ≤ v1.heap.size := by omega); (try have zn1 : ¬ w.heap.size = v1.heap.size := by omega); (try have zm1 : ¬ v1.heap.size = w.heap.size := by omega); have hA1 : Blk v1 (w.heap.size) 23 #[.int .i64 a, .int .i64 b, .int .i64 c] := Blk.call (by (repeat (first | with_reducible assumption | (with_reducible apply Blk.new_at; (first | rfl | (simp; done))) | with_reducible apply Blk.store3 | with_reducible apply Blk.store4 | (with_reducible apply Blk.farp; (first | omega | (simp <;> omega))) | with_reducible apply Blk.allocp | with_reducible apply Blk.drew | with_reducible apply Blk.drewN))) hB1; have cA1 := hA1.cell; have fA1 := hA1.frozen; have lA1 := hA1.lt; have mA1 := Nat.ne_of_gt lA1; have nA1 := Nat.ne_of_lt lA1; have hK1 : Blk v1 (w.heap.size + 1) 3 #[.int .i64 n] := Blk.call (by (repeat (first | with_reducible assumption | (with_reducible apply Blk.new_at; (first | rfl | (simp; done))) | with_reducible apply Blk.store3 | with_reducible apply Blk.store4 | (with_reducible apply Blk.farp; (first | omega | (simp <;> omega))) | with_reducible apply Blk.allocp | with_reducible apply Blk.drew | with_reducible apply Blk.drewN))) hB1; have cK1 := hK1.cell; have fK1 := hK1.frozen; have lK1 := hK1.lt; have mK1 := Nat.ne_of_gt lK1; have nK1 := Nat.ne_of_lt lK1)
      | (go_at_call 81; (with_reducible refine (hE.out _).mono ?_); rintro e v ⟨rfl, rfl⟩)
      | (go_at_call 57; (with_reducible refine (hR.out _).mono ?_); rintro e v2 ⟨rfl, hB2⟩; have hZ2 := hB2.size; (try simp at hZ2); (try have zl2 : w.heap.size < v2.heap.size := by omega); (try have ze2 : w.heap.size ≤ v2.heap.size := by omega); (try have zn2 : ¬ w.heap.size = v2.heap.size := by omega); (try have zm2 : ¬ v2.heap.size = w.heap.size := by omega); have hA2 : Blk v2 (w.heap.size) 23 #[.int .i64 a, .int .i64 b, .int .i64 c] := Blk.call (by (repeat (first | with_reducible assumption | (with_reducible apply Blk.new_at; (first | rfl | (simp; done))) | with_reducible apply Blk.store3 | with_reducible apply Blk.store4 | (with_reducible apply Blk.farp; (first | omega | (simp <;> omega))) | with_reducible apply Blk.allocp | with_reducible apply Blk.drew | with_reducible apply Blk.drewN))) hB2; have cA2 := hA2.cell; have fA2 := hA2.frozen; have lA2 := hA2.lt; have mA2 := Nat.ne_of_gt lA2; have nA2 := Nat.ne_of_lt lA2; have hK2 : Blk v2 (w.heap.size + 1) 3 #[.int .i64 n] := Blk.call (by (repeat (first | with_reducible assumption | (with_reducible apply Blk.new_at; (first | rfl | (simp; done))) | with_reducible apply Blk.store3 | with_reducible apply Blk.store4 | (with_reducible apply Blk.farp; (first | omega | (simp <;> omega))) | with_reducible apply Blk.allocp | with_reducible apply Blk.drew | with_reducible apply Blk.drewN))) hB2; have cK2 := hK2.cell; have fK2 := hK2.frozen; have lK2 := hK2.lt; have mK2 := Nat.ne_of_gt lK2; have nK2 := Nat.ne_of_lt lK2)
      | (go_at_call 75; (with_reducible refine (hD.out _).mono ?_); rintro e v3 ⟨rfl, hB3⟩; have hZ3 := hB3.size; (try simp at hZ3); (try have zl3 : w.heap.size < v3.heap.size := by omega); (try have ze3 : w.heap.size ≤ v3.heap.size := by omega); (try have zn3 : ¬ w.heap.size = v3.heap.size := by omega); (try have zm3 : ¬ v3.heap.size = w.heap.size := by omega); have hK3 : Blk v3 (w.heap.size + 1) 3 #[.int .i64 n] := Blk.call (by (repeat (first | with_reducible assumption | (with_reducible apply Blk.new_at; (first | rfl | (simp; done))) | with_reducible apply Blk.store3 | with_reducible apply Blk.store4 | (with_reducible apply Blk.farp; (first | omega | (simp <;> omega))) | with_reducible apply Blk.allocp | with_reducible apply Blk.drew | with_reducible apply Blk.drewN))) hB3; have cK3 := hK3.cell; have fK3 := hK3.frozen; have lK3 := hK3.lt; have mK3 := Nat.ne_of_gt lK3; have nK3 := Nat.ne_of_lt lK3; have hR3 : Blk v3 (v2.heap.size) 23 #[.int .i64 r.a, .int .i64 r.b, .int .i64 r.c] := Blk.call (by (repeat (first | with_reducible assumption | (with_reducible apply Blk.new_at; (first | rfl | (simp; done))) | with_reducible apply Blk.store3 | with_reducible apply Blk.store4 | (with_reducible apply Blk.farp; (first | omega | (simp <;> omega))) | with_reducible apply Blk.allocp | with_reducible apply Blk.drew | with_reducible apply Blk.drewN))) hB3; have cR3 := hR3.cell; have fR3 := hR3.frozen; have lR3 := hR3.lt; have mR3 := Nat.ne_of_gt lR3; have nR3 := Nat.ne_of_lt lR3)
      | (go_at_call 82; (with_reducible refine (formsRoots_any d (rootP d r n) (w.heap.size + 1) v2.heap.size _ hDs.out.lo hDs.out.hi ?_).mono ?_)))
    · intro f hf w' hb
      have cK := hK3.below hb lK3
      have cR := hR3.below hb lR3
      have z := hb.size
      exact rootsFn_any d f r n (w.heap.size + 1) v2.heap.size w' (CF.of_mem hDs.out hf) hn ((cK.cell 0).trans rfl) (by omega) ((cR.cell 0).trans rfl) ((cR.cell 1).trans rfl) ((cR.cell 2).trans rfl) (by omega)
    · rintro e v4 ⟨vl, rfl, how, hB4⟩
      have hz4 := hB4.size
      go_wp2
      go_ret2
      exact ⟨_, rfl, own_base (by omega) how, (by repeat (first | with_reducible exact Below.refl _ _ | with_reducible assumption | with_reducible apply Below.drew | with_reducible apply below_drewN | (with_reducible apply below_setp; (first | omega | (simp <;> omega))) | (with_reducible apply below_allocp; (first | omega | (simp <;> omega))) | (with_reducible refine below_viap (by assumption) ?_ ?_; (first | omega | (simp <;> omega)))))⟩

/-- The state of the reference's loop: the filtered list, the list that is read, the block R of a form. -/
def RtSt (p : Fm → Bool) (L : List Fm) (B NB R : Nat) (r : Fm) (vl : Value) (w : World) (v vi : Value) (wr : World) : Prop :=
  ∃ k : Nat, vi = .int .i64 k ∧ k ≤ L.length ∧ wr.ownsRow NB 23 3 v ((L.take k).filter p).length (cellsF ((L.take k).filter p)) ∧ wr.ownsRow B 23 3 vl L.length (cellsF L) ∧ Apart v vl ∧
    Hid (Blk wr R 23 #[.int .i64 r.a, .int .i64 r.b, .int .i64 r.c]) ∧ R < wr.heap.size ∧ Below w.heap.size w wr

set_option maxRecDepth 100000 in
set_option maxHeartbeats 3200000 in
theorem specRoots_any (a b c k : Int) (L : List Fm) (ok : Bool) (w : World) (h : RootL a b c k L ok) :
    Calls Try.prog 43 #[.agg #[.int .i64 a, .int .i64 b, .int .i64 c], .int .i64 k] w (RetF2 L ok w) := by
  rcases h with ⟨hc, rfl, rfl⟩ | ⟨hc, hk, rfl, rfl⟩ | ⟨hc, n, rfl, hn, rfl, rfl⟩
  · go_enter Try.func43, Try.ntmps43
    go_wp2_with (go_at_call 58; (with_reducible refine (scls_any a b c _).mono ?_); rw [hc]; rintro e v1 ⟨rfl, hB1⟩; have hZ1 := hB1.size; (try simp at hZ1); (try have zl1 : w.heap.size < v1.heap.size := by omega); (try have ze1 : w.heap.size ≤ v1.heap.size := by omega); (try have zn1 : ¬ w.heap.size = v1.heap.size := by omega); (try have zm1 : ¬ v1.heap.size = w.heap.size := by omega); have hC1_0 := fun o => (calm_cells hB1).1 (w.heap.size) o (by first | omega | (simp <;> omega)); have hF1_0 := fun o => (calm_cells hB1).2 (w.heap.size) o (by first | omega | (simp <;> omega)); (try have hl1_0 : w.heap.size < v1.heap.size := by omega); (try have hm1_0 : ¬ w.heap.size = v1.heap.size := by omega); (try have hn1_0 : ¬ v1.heap.size = w.heap.size := by omega))
    go_ret2
    exact ⟨_, rfl, World.ownsRow_nil _ _ _ _, (by repeat (first | with_reducible exact Below.refl _ _ | with_reducible assumption | with_reducible apply Below.drew | with_reducible apply below_drewN | (with_reducible apply below_setp; (first | omega | (simp <;> omega))) | (with_reducible apply below_allocp; (first | omega | (simp <;> omega))) | (with_reducible refine below_viap (by assumption) ?_ ?_; (first | omega | (simp <;> omega)))))⟩
  · have hE := Lib.hid (fun w => l1In_any k 0 100 w)
    rw [show (decide (0 ≤ k) && decide (k ≤ 100)) = false from hk] at hE
    go_enter Try.func43, Try.ntmps43
    go_wp2_with (first | (go_at_call 58; (with_reducible refine (scls_any a b c _).mono ?_); rw [hc]; rintro e v1 ⟨rfl, hB1⟩; have hZ1 := hB1.size; (try simp at hZ1); (try have zl1 : w.heap.size < v1.heap.size := by omega); (try have ze1 : w.heap.size ≤ v1.heap.size := by omega); (try have zn1 : ¬ w.heap.size = v1.heap.size := by omega); (try have zm1 : ¬ v1.heap.size = w.heap.size := by omega); have hC1_0 := fun o => (calm_cells hB1).1 (w.heap.size) o (by first | omega | (simp <;> omega)); have hF1_0 := fun o => (calm_cells hB1).2 (w.heap.size) o (by first | omega | (simp <;> omega)); (try have hl1_0 : w.heap.size < v1.heap.size := by omega); (try have hm1_0 : ¬ w.heap.size = v1.heap.size := by omega); (try have hn1_0 : ¬ v1.heap.size = w.heap.size := by omega)) | (go_at_call 52; (with_reducible refine (hE.out _).mono ?_); rintro e v ⟨rfl, rfl⟩))
    go_ret2
    exact ⟨_, rfl, World.ownsRow_nil _ _ _ _, (by repeat (first | with_reducible exact Below.refl _ _ | with_reducible assumption | with_reducible apply Below.drew | with_reducible apply below_drewN | (with_reducible apply below_setp; (first | omega | (simp <;> omega))) | (with_reducible apply below_allocp; (first | omega | (simp <;> omega))) | (with_reducible refine below_viap (by assumption) ?_ ?_; (first | omega | (simp <;> omega)))))⟩
  · have cf := CF.of_cls hc
    obtain ⟨r, hr⟩ : ∃ r, red ⟨a, b, c⟩ = r := ⟨_, rfl⟩
    obtain ⟨d, hd⟩ : ∃ d, disc ⟨a, b, c⟩ = d := ⟨_, rfl⟩
    rw [hr, hd] at cf
    rw [hr, hd]
    have hE := Lib.hid (fun w => l1In_any n 0 100 w)
    rw [show (decide ((0 : Int) ≤ n) && decide ((n : Int) ≤ 100)) = true by simp; omega] at hE
    have hR := Lib.hid (fun w => reClass_cf d ⟨a, b, c⟩ r w cf)
    have hD := Lib.hid (fun w => foDisc_cf d ⟨a, b, c⟩ r w cf)
    have hDs := Lib.hid cf.D
    obtain ⟨i0, hi, hz0, hz1, hz2⟩ := info_parts infoForm
    have hl : (clsL d).length ≤ 100000 := Nat.le_trans (clsL_len d) (by decide)
    have Hr := reList_any d
    have hcm := Lib.hid (fun f (h : f ∈ clsL d) => CF.of_mem cf.D h)
    obtain ⟨p, hp⟩ : ∃ p, rootP d r n = p := ⟨_, rfl⟩
    rw [hp]
    have Hp := Lib.hid (fun f => congrFun hp f)
    clear hr hd cf hp
    generalize clsL d = L at *
    go_enter Try.func43, Try.ntmps43
    go_wp2_with (first
      | (go_at_call 58; (with_reducible refine (scls_any a b c _).mono ?_); rw [hc]; rintro e v1 ⟨rfl, hB1⟩; have hZ1 := hB1.size; (try simp at hZ1); (try have zl1 : w.heap.size < v1.heap.size := by omega); (try have ze1 : w.heap.size ≤ v1.heap.size := by omega); (try have zn1 : ¬ w.heap.size = v1.heap.size := by omega); (try have zm1 : ¬ v1.heap.size = w.heap.size := by omega); have hA1 : Blk v1 (w.heap.size) 23 #[.int .i64 a, .int .i64 b, .int .i64 c] := Blk.call (by (repeat (first | with_reducible assumption | (with_reducible apply Blk.new_at; (first | rfl | (simp; done))) | with_reducible apply Blk.store3 | with_reducible apply Blk.store4 | (with_reducible apply Blk.farp; (first | omega | (simp <;> omega))) | with_reducible apply Blk.allocp | with_reducible apply Blk.drew | with_reducible apply Blk.drewN))) hB1; have cA1 := hA1.cell; have fA1 := hA1.frozen; have lA1 := hA1.lt; have mA1 := Nat.ne_of_gt lA1; have nA1 := Nat.ne_of_lt lA1)
      | (go_at_call 52; (with_reducible refine (hE.out _).mono ?_); rintro e v ⟨rfl, rfl⟩)
      | (go_at_call 54; (with_reducible refine (hR.out _).mono ?_); rintro e v2 ⟨rfl, hB2⟩; have hZ2 := hB2.size; (try simp at hZ2); (try have zl2 : w.heap.size < v2.heap.size := by omega); (try have ze2 : w.heap.size ≤ v2.heap.size := by omega); (try have zn2 : ¬ w.heap.size = v2.heap.size := by omega); (try have zm2 : ¬ v2.heap.size = w.heap.size := by omega); have hA2 : Blk v2 (w.heap.size) 23 #[.int .i64 a, .int .i64 b, .int .i64 c] := Blk.call (by (repeat (first | with_reducible assumption | (with_reducible apply Blk.new_at; (first | rfl | (simp; done))) | with_reducible apply Blk.store3 | with_reducible apply Blk.store4 | (with_reducible apply Blk.farp; (first | omega | (simp <;> omega))) | with_reducible apply Blk.allocp | with_reducible apply Blk.drew | with_reducible apply Blk.drewN))) hB2; have cA2 := hA2.cell; have fA2 := hA2.frozen; have lA2 := hA2.lt; have mA2 := Nat.ne_of_gt lA2; have nA2 := Nat.ne_of_lt lA2)
      | (go_at_call 72; (with_reducible refine (hD.out _).mono ?_); rintro e v3 ⟨rfl, hB3⟩; have hZ3 := hB3.size; (try simp at hZ3); (try have zl3 : w.heap.size < v3.heap.size := by omega); (try have ze3 : w.heap.size ≤ v3.heap.size := by omega); (try have zn3 : ¬ w.heap.size = v3.heap.size := by omega); (try have zm3 : ¬ v3.heap.size = w.heap.size := by omega); have hR3 : Blk v3 (v2.heap.size) 23 #[.int .i64 r.a, .int .i64 r.b, .int .i64 r.c] := Blk.call (by (repeat (first | with_reducible assumption | (with_reducible apply Blk.new_at; (first | rfl | (simp; done))) | with_reducible apply Blk.store3 | with_reducible apply Blk.store4 | (with_reducible apply Blk.farp; (first | omega | (simp <;> omega))) | with_reducible apply Blk.allocp | with_reducible apply Blk.drew | with_reducible apply Blk.drewN))) hB3; have cR3 := hR3.cell; have fR3 := hR3.frozen; have lR3 := hR3.lt; have mR3 := Nat.ne_of_gt lR3; have nR3 := Nat.ne_of_lt lR3)
      | (go_at_call 78; refine (Hr _ hDs.out.lo hDs.out.hi).mono ?_; rintro e v4 ⟨vl, rfl, howl, hb4⟩; obtain ⟨base, cap, rfl⟩ := own_shape howl))
    obtain ⟨B, hB⟩ : ∃ B : Nat, B = v3.heap.size := ⟨_, rfl⟩
    rw [← hB] at howl
    have hz4 := hb4.size
    have hR4 : Blk v4 v2.heap.size 23 #[.int .i64 r.a, .int .i64 r.b, .int .i64 r.c] := hR3.call hb4
    have hbel0 : Below w.heap.size w v4 := (by repeat (first | with_reducible exact Below.refl _ _ | with_reducible assumption | with_reducible apply Below.drew | with_reducible apply below_drewN | (with_reducible apply below_setp; (first | omega | (simp <;> omega))) | (with_reducible apply below_allocp; (first | omega | (simp <;> omega))) | (with_reducible refine below_viap (by assumption) ?_ ?_; (first | omega | (simp <;> omega)))))
    go_loopw [7, 24] (fun v i wr => RtSt p L B (v2.heap.size + 1) v2.heap.size r (.slice base L.length cap) w v i wr) (fun _ i _ => L.length - (intOf i).toNat)
    case atStart => exact ⟨0, rfl, Nat.zero_le _, World.ownsRow_nil _ _ _ _, howl, apart_nil, Lib.hid hR4, hR4.lt, hbel0⟩
    case round =>
      clear howl hb4 hz4 hR4 hbel0 hE hR hD Hr
      obtain ⟨k, rfl, hk, hown, howl, hap, hRb, hRl, hbel⟩ := hrel
      have cR := hRb.out.cell; have fR := hRb.out.frozen
      have hz := hbel.size
      by_cases hlt : k < L.length
      · obtain ⟨g, rfl, hg2, d1, d2, d3⟩ := own_elem howl hlt
        have hft := filter_take (p := p) hlt
        have hlf := filter_len (p := p) L k hl
        have hfm := List.getElem_mem hlt
        generalize L[k] = f at d1 d2 d3 hft hfm
        obtain ⟨P, hP⟩ : ∃ P, pw d f n = P := ⟨_, rfl⟩
        have hW := Lib.hid (fun w => coPower_any d f f P n w (hcm.out f hfm) (by omega) hP)
        have hpf : p f = fmEq P r := by have := Hp.out f; unfold rootP at this; rw [hP] at this; exact this.symm
        have g1 : g < wr.heap.size + 1 := by omega
        have g2 : v2.heap.size < wr.heap.size + 1 := by omega
        have g3 : ¬ g = wr.heap.size := by omega
        have g4 : ¬ v2.heap.size = wr.heap.size := by omega
        rcases fm_cases P r with ⟨rfl, hv⟩ | ⟨hv, e1⟩ | ⟨hv, e1, e2⟩ | ⟨hv, e1, e2, e3⟩
        all_goals rw [hv] at hpf
        all_goals rw [hpf] at hft
        · have Hft := Lib.hid (hft.trans (by rw [if_pos rfl]))
          clear hft hpf hv hfm hP
          go_wp2_with fail
          refine wp_region_calm 5 (Below (wr.heap.size + 1) _) (by kernel_rfl) (by kernel_rfl) ((Below.refl _ _).drew) ?_
          simp only [List.take_succ_cons, List.take_zero, List.drop_succ_cons, List.drop_zero]
          repeat (first | (apply wpCalm_go; go_simp; (intro w' hw' hcc hff; go_simp; first | exact rfl | ((with_reducible refine (hW.out _).mono ?_); rintro ee w1 ⟨rfl, hb⟩; exact ⟨rfl, calm_call (by simp <;> omega) hw' hb⟩)); (intro K hK; go_simp; refine hK _ ?_; clear hK K)) | (apply wpCalm_skip; go_simp; (intro K hK; go_simp; refine hK _ ?_; clear hK K)))
          refine wpCalm_nil ?_
          intro w1 hw1
          have hcc := (calm_cells hw1).1
          have hff := (calm_cells hw1).2
          have hss := calm_size hw1
          have hsz := hw1.size
          (try simp at hsz)
          have hw2 : Below (wr.alloc (Obj.cells #[Value.int IntKind.i64 f.a, Value.int IntKind.i64 f.b, Value.int IntKind.i64 f.c] 23)).heap.size (wr.alloc (Obj.cells #[Value.int IntKind.i64 f.a, Value.int IntKind.i64 f.b, Value.int IntKind.i64 f.c] 23)) w1 := by
            have e : (wr.alloc (Obj.cells #[Value.int IntKind.i64 f.a, Value.int IntKind.i64 f.b, Value.int IntKind.i64 f.c] 23)).heap.size = wr.heap.size + 1 := by simp
            rw [e]; exact hw1
          have hown1 := own_call hw2 (own_alloc hown)
          have howl1 := own_call hw2 (own_alloc howl)
          have hR1 := Blk.call (Blk.allocp hRb.out) hw2
          have hbel1 : Below w.heap.size w w1 := (by repeat (first | with_reducible exact Below.refl _ _ | with_reducible assumption | with_reducible apply Below.drew | with_reducible apply below_drewN | (with_reducible apply below_setp; (first | omega | (simp <;> omega))) | (with_reducible apply below_allocp; (first | omega | (simp <;> omega))) | (with_reducible refine below_viap (by assumption) ?_ ?_; (first | omega | (simp <;> omega)))))
          have zz1 : wr.heap.size + 1 ≤ w1.heap.size := by have := hw2.size; simp at this; omega
          have lR1 := hR1.lt
          go_wp2_with (at_builtin; refine wpList_append_own_at _ rfl (.tmp 33) (.tmp 35) 51 rfl (v2.heap.size + 1) 23 i0 _ 3 24 Try.underlying51 hi hz0 hz1 hz2 rfl (by decide) u7 ((L.take k).filter p).length (cellsF ((L.take k).filter p)) rfl ?_ ⟨w1.heap.size, 0, none⟩ 1 1 [.int .i64 f.a, .int .i64 f.b, .int .i64 f.c] rfl rfl ?_ (one3 _ _ _) ?_ ?_ ?_ ?_; exact (by repeat (first | with_reducible assumption | with_reducible apply own_alloc | with_reducible apply own_drew | with_reducible apply own_drewN | (with_reducible refine own_setp (by assumption) ?_ ?_; (first | omega | (simp <;> omega))) | (with_reducible refine own_call (by assumption) ?_))); exact cells3 (Blk.new _ _ _); (unfold maxLen; omega); omega; (simp; omega); intro v2' w2 hown2 hg2' _ hloc)
          have hb2 : Below w.heap.size w w2 := below_grown (fun q hq => Nat.le_trans (by omega) (own_ge hown1 q hq)) (by simp; omega) hg2' (by repeat (first | with_reducible exact Below.refl _ _ | with_reducible assumption | with_reducible apply Below.drew | with_reducible apply below_drewN | (with_reducible apply below_setp; (first | omega | (simp <;> omega))) | (with_reducible apply below_allocp; (first | omega | (simp <;> omega))) | (with_reducible refine below_viap (by assumption) ?_ ?_; (first | omega | (simp <;> omega)))))
          have ho2 := own_snoc Hft.out hown2
          have hol1 : (w1.alloc (Obj.cells #[Value.int IntKind.i64 f.a, Value.int IntKind.i64 f.b, Value.int IntKind.i64 f.c] 23)).ownsRow B 23 3 (.slice (some ⟨g, 0, none⟩) L.length cap) L.length (cellsF L) := (by repeat (first | with_reducible assumption | with_reducible apply own_alloc | with_reducible apply own_drew | with_reducible apply own_drewN | (with_reducible refine own_setp (by assumption) ?_ ?_; (first | omega | (simp <;> omega))) | (with_reducible refine own_call (by assumption) ?_)))
          have hol2 := hol1.kept hg2' hap
          have hap2 := apart_next hap hol1 (Nat.le_refl _) hloc
          have hR2 := (hR1.allocp (o := Obj.cells #[Value.int IntKind.i64 f.a, Value.int IntKind.i64 f.b, Value.int IntKind.i64 f.c] 23)).grown hg2' (fun he => by have := own_ge hown1 _ he.symm; omega)
          exact ⟨⟨k + 1, rfl, hlt, ho2, hol2, hap2, Lib.hid hR2, hR2.lt, hb2⟩, by simp [intOf]; omega⟩
        all_goals
          have Hft := Lib.hid (hft.trans (by rw [if_neg (by simp), List.append_nil]))
          clear hft hpf hv hfm hP
          go_wp2_with fail
          refine wp_region_calm 5 (Below (wr.heap.size + 1) _) (by kernel_rfl) (by kernel_rfl) ((Below.refl _ _).drew) ?_
          simp only [List.take_succ_cons, List.take_zero, List.drop_succ_cons, List.drop_zero]
          repeat (first | (apply wpCalm_go; go_simp; (intro w' hw' hcc hff; go_simp; first | exact rfl | ((with_reducible refine (hW.out _).mono ?_); rintro ee w1 ⟨rfl, hb⟩; exact ⟨rfl, calm_call (by simp <;> omega) hw' hb⟩)); (intro K hK; go_simp; refine hK _ ?_; clear hK K)) | (apply wpCalm_skip; go_simp; (intro K hK; go_simp; refine hK _ ?_; clear hK K)))
          refine wpCalm_nil ?_
          intro w1 hw1
          have hcc := (calm_cells hw1).1
          have hff := (calm_cells hw1).2
          have hss := calm_size hw1
          have hsz := hw1.size
          (try simp at hsz)
          have hw2 : Below (wr.alloc (Obj.cells #[Value.int IntKind.i64 f.a, Value.int IntKind.i64 f.b, Value.int IntKind.i64 f.c] 23)).heap.size (wr.alloc (Obj.cells #[Value.int IntKind.i64 f.a, Value.int IntKind.i64 f.b, Value.int IntKind.i64 f.c] 23)) w1 := by
            have e : (wr.alloc (Obj.cells #[Value.int IntKind.i64 f.a, Value.int IntKind.i64 f.b, Value.int IntKind.i64 f.c] 23)).heap.size = wr.heap.size + 1 := by simp
            rw [e]; exact hw1
          have hown1 := own_call hw2 (own_alloc hown)
          have howl1 := own_call hw2 (own_alloc howl)
          have hR1 := Blk.call (Blk.allocp hRb.out) hw2
          have hbel1 : Below w.heap.size w w1 := (by repeat (first | with_reducible exact Below.refl _ _ | with_reducible assumption | with_reducible apply Below.drew | with_reducible apply below_drewN | (with_reducible apply below_setp; (first | omega | (simp <;> omega))) | (with_reducible apply below_allocp; (first | omega | (simp <;> omega))) | (with_reducible refine below_viap (by assumption) ?_ ?_; (first | omega | (simp <;> omega)))))
          have zz1 : wr.heap.size + 1 ≤ w1.heap.size := by have := hw2.size; simp at this; omega
          have lR1 := hR1.lt
          go_wp2
          exact ⟨⟨k + 1, rfl, hlt, by rw [Hft.out]; exact hown1, howl1, hap, Lib.hid hR1, lR1, hbel1⟩, by simp [intOf]; omega⟩
      · have e : k = L.length := by omega
        have hx : (L.take k).filter p = L.filter p := by rw [e, List.take_length]
        have Hx := Lib.hid hx
        clear hx
        subst e
        go_wp2
        go_ret2
        exact ⟨_, rfl, own_base (B := v2.heap.size + 1) (by omega) (by rw [← Hx.out]; exact hown), hbel⟩
end Go.Proofs.Ytifkmjmhhklkjaa
