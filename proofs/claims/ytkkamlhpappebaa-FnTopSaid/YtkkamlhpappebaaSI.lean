/- Contracts of InvariantFactors and IsCyclic, of both sides. -/
import Derived.Test.YtkkamlhpappebaaSH
namespace Go.Proofs.Ytkkamlhpappebaa
open Go.RowKit Go.Maps

theorem fold_len_iff {d : Int} : ∀ (F : List Int) (out : List Int) (n : Nat), (F.foldl (facE d) out).length ≤ n ↔ out.length ≤ n ∧ ∀ x ∈ F, ∀ i, i < exE (clsL d).length x.toNat → rkP d x.toNat i ≤ n
  | [], out, n => by simp
  | x :: F, out, n => by
    rw [List.foldl_cons, fold_len_iff F, facE, facP_len]
    constructor
    · rintro ⟨⟨h1, h2⟩, h3⟩
      refine ⟨h1, fun y hy i hi => ?_⟩
      rcases List.mem_cons.1 hy with rfl | hy
      · exact h2 i hi
      · exact h3 y hy i hi
    · rintro ⟨h1, h2⟩
      exact ⟨⟨h1, fun i hi => h2 x (by simp) i hi⟩, fun y hy => h2 y (by simp [hy])⟩
theorem prn_int {p : Nat} (h : Ab.PrN p) : PrI (p : Int) := by
  refine ⟨by have := h.1; omega, fun q h2 hq hd => ?_⟩
  have hd2 : q.toNat ∣ p := by
    apply Int.natCast_dvd_natCast.1
    rw [Int.toNat_of_nonneg (by omega)]
    exact hd
  rcases h.2 _ hd2 with e | e <;> omega
/-- One generator is enough just if some class has all classes as powers. -/
theorem inv_cyc {d : Int} (D : Dsc d) : (invL d).length < 2 ↔ ∃ f ∈ clsL d, ordF d f = (clsL d).length := by
  have hm0 : 0 < (clsL d).length := List.length_pos_of_mem D.one
  have hm1 := clsL_len d
  rw [← cyc_iff D]
  have h := fold_len_iff (d := d) (prims (clsL d).length) [] 1
  unfold invL
  constructor
  · intro hl p e r hp hm _ i hi
    have hmem : (p : Int) ∈ prims (clsL d).length := (mem_prims (by omega) (by omega)).2 ⟨prn_int hp, Int.natCast_dvd_natCast.2 (by
      rw [hm]
      exact Nat.dvd_trans (Nat.dvd_trans (Nat.dvd_refl p) (by
        have := Nat.pow_dvd_pow p (show 1 ≤ e by omega)
        rwa [Nat.pow_one] at this)) (Nat.dvd_mul_right _ _))⟩
    obtain ⟨r2, hP, hx⟩ := pf_of D hmem
    have h2 := (h.1 (by omega)).2 _ hmem
    rw [show (p : Int).toNat = p from rfl] at h2 hP
    refine h2 i ((hP.md i).1 (Nat.mod_eq_zero_of_dvd ?_))
    rw [hm]
    exact Nat.dvd_trans (Nat.pow_dvd_pow p (by omega)) (Nat.dvd_mul_right _ _)
  · intro hc
    have := h.2 ⟨by simp, fun x hx i hi => ?_⟩
    · omega
    · have hp := prI_nat ((mem_prims (by omega) (by omega)).1 hx).1
      obtain ⟨r, h1, h2⟩ := exE_ok hp hm0
      exact hc _ _ r hp h1 h2 i hi
/-- A list of integers in new memory, and a word. -/
def RetIb (L : List Int) (ok : Bool) (w : World) (e : Ending) (w' : World) : Prop := ∃ v, e = .returned (.tuple #[v, .bool ok]) ∧ w'.ownsRow w.heap.size 3 1 v L.length (cellsI L) ∧ Below w.heap.size w w'
/-- What InvariantFactors gives. -/
def IvL (d : Int) (L : List Int) (ok : Bool) : Prop := (isDisc d = false ∧ L = [] ∧ ok = false) ∨ (isDisc d = true ∧ L = (invL d).reverse ∧ ok = true)
theorem ivL_ex (d : Int) : ∃ L ok, IvL d L ok ∧ L.length ≤ 100000 := by
  cases hc : isDisc d with
  | false => exact ⟨_, _, .inl ⟨hc, rfl, rfl⟩, by simp⟩
  | true =>
    refine ⟨_, _, .inr ⟨hc, rfl, rfl⟩, ?_⟩
    have := inv_len (dsc_of hc) (prims (clsL d).length) [] (fun _ h => h) (by simp)
    rw [List.length_reverse]
    unfold invL
    omega

set_option maxRecDepth 100000 in
set_option maxHeartbeats 1600000 in
theorem implIv_any (d : Int) (R : List Int) (ok : Bool) (w : World) (h : IvL d R ok) : Calls Try.prog 15 #[.int .i64 d] w (RetIb R ok w) := by
  rcases h with ⟨hc, rfl, rfl⟩ | ⟨hc, rfl, rfl⟩
  · go_enter Try.func15, Try.ntmps15
    go_wp2_with (go_at_call 76; (with_reducible refine (negDisc_eq d false _ hc).mono ?_); rintro e v ⟨rfl, rfl⟩)
    go_ret2
    exact ⟨_, rfl, own_empty (by omega), (by repeat (first | with_reducible exact Below.refl _ _ | with_reducible assumption | with_reducible apply Below.drew | with_reducible apply below_drewN | (with_reducible apply below_setp; (first | omega | (simp <;> omega))) | (with_reducible apply below_allocp; (first | omega | (simp <;> omega))) | (with_reducible refine below_viap (by assumption) ?_ ?_; (first | omega | (simp <;> omega)))))⟩
  · have D := dsc_of hc
    obtain ⟨L, hL⟩ : ∃ L, clsL d = L := ⟨_, rfl⟩
    have hG := Lib.hid (fun w => groupOf_any d w D)
    rw [hL] at hG
    have hO := Lib.hid (fun (B G : Nat) (w : World) (hg : Grp L B G w) => gorders_any d L B G w D hL hg)
    have hI := Lib.hid (fun (B : Nat) (bo : Option Addr) (co : Nat) (w : World) h => invariants_any d L B bo co w D hL h)
    obtain ⟨R, hR⟩ : ∃ R, (invL d).reverse = R := ⟨_, rfl⟩
    rw [hR] at hI ⊢
    clear D hL hR
    go_enter Try.func15, Try.ntmps15
    go_wp2_with (first
      | (go_at_call 76; (with_reducible refine (negDisc_eq d true _ hc).mono ?_); rintro e v ⟨rfl, rfl⟩)
      | (go_at_call 79; refine (hG.out _).mono ?_; rintro e w1 ⟨G, rfl, hg1, hG0, hb1⟩; have hz1' := hb1.size)
      | (go_at_call 80; refine (hO.out _ _ _ hg1).mono ?_; rintro e w3 ⟨vo, rfl, hoo, hb3⟩; rw [ordsL_len] at hoo; obtain ⟨bo, co, rfl⟩ := own_shape hoo; have hz3 := hb3.size)
      | (go_at_call 78; refine (hI.out _ _ _ _ hoo).mono ?_; rintro e w4 ⟨vr, rfl, hor, hb4⟩))
    go_ret2
    exact ⟨_, rfl, own_base (by omega) hor, below_via (below_via hb1 hb3 hz1') hb4 (by omega)⟩

/-- What IsCyclic gives. -/
def CyB (d : Int) (b ok : Bool) : Prop := (isDisc d = false ∧ b = false ∧ ok = false) ∨ (isDisc d = true ∧ (b = true ↔ ∃ f ∈ clsL d, ordF d f = (clsL d).length) ∧ ok = true)
theorem cyB_ex (d : Int) : ∃ b ok, CyB d b ok := by
  cases hc : isDisc d with
  | false => exact ⟨_, _, .inl ⟨hc, rfl, rfl⟩⟩
  | true => open Classical in exact ⟨decide (∃ f ∈ clsL d, ordF d f = (clsL d).length), _, .inr ⟨hc, by simp, rfl⟩⟩
def CySt (d : Int) (L : List Fm) (vi : Value) : Prop := ∃ k : Nat, vi = .int .i64 k ∧ k ≤ L.length ∧ Hid (∀ j (h : j < L.length), j < k → ordF d L[j] ≠ L.length)

end Go.Proofs.Ytkkamlhpappebaa
