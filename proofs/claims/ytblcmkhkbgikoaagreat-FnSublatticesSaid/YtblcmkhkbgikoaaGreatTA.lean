/- Plain facts: how many points a reduced form has with each value, counted in a box by signs. -/
import Derived.Test.YtblcmkhkbgikoaaGreatE1
namespace Go.Proofs.YtblcmkhkbgikoaaGreat

/-- The point of one sign. -/
def sgP (x y : Int) (s : Nat) : List (Int × Int) := if (s % 2 = 1 ∧ x = 0) ∨ (1 < s ∧ y = 0) then [] else [(if s % 2 = 1 then -x else x, if 1 < s then -y else y)]
def sgK (x y : Int) (k : Nat) : List (Int × Int) := (List.range k).flatMap (sgP x y)
def colK (x : Int) (k : Nat) : List (Int × Int) := (List.range k).flatMap fun y : Nat => sgK x y 4
def boxK (Y k : Nat) : List (Int × Int) := (List.range k).flatMap fun x : Nat => colK x Y
theorem sgK_next (x y : Int) (k : Nat) : sgK x y (k + 1) = sgK x y k ++ sgP x y k := by unfold sgK; rw [List.range_succ, List.flatMap_append]; simp
theorem colK_next (x : Int) (k : Nat) : colK x (k + 1) = colK x k ++ sgK x k 4 := by unfold colK; rw [List.range_succ, List.flatMap_append]; simp
theorem boxK_next (Y k : Nat) : boxK Y (k + 1) = boxK Y k ++ colK k Y := by unfold boxK; rw [List.range_succ, List.flatMap_append]; simp
theorem sgK_four (x y : Int) : sgK x y 4 = sgP x y 0 ++ (sgP x y 1 ++ (sgP x y 2 ++ sgP x y 3)) := by
  rw [sgK_next, sgK_next, sgK_next, sgK_next]
  simp [sgK]
theorem sgK_mem {x y : Int} (hx : 0 ≤ x) (hy : 0 ≤ y) (u v : Int) : (u, v) ∈ sgK x y 4 ↔ (u.natAbs : Int) = x ∧ (v.natAbs : Int) = y := by
  rw [sgK_four]
  unfold sgP
  by_cases h1 : x = 0 <;> by_cases h2 : y = 0 <;> simp [h1, h2] <;> omega
theorem sgK_nd {x y : Int} : (sgK x y 4).Nodup := by
  rw [sgK_four]
  unfold sgP
  by_cases h1 : x = 0 <;> by_cases h2 : y = 0 <;> simp [h1, h2] <;> omega
theorem colK_mem {x : Int} (hx : 0 ≤ x) (k : Nat) (u v : Int) : (u, v) ∈ colK x k ↔ (u.natAbs : Int) = x ∧ v.natAbs < k := by
  unfold colK
  rw [List.mem_flatMap]
  constructor
  · rintro ⟨y, hy, h⟩
    have := (sgK_mem hx (by omega) u v).1 h
    have := List.mem_range.1 hy
    omega
  · rintro ⟨h1, h2⟩
    exact ⟨v.natAbs, List.mem_range.2 h2, (sgK_mem hx (by omega) u v).2 ⟨h1, rfl⟩⟩
theorem boxK_mem (Y k : Nat) (u v : Int) : (u, v) ∈ boxK Y k ↔ u.natAbs < k ∧ v.natAbs < Y := by
  unfold boxK
  rw [List.mem_flatMap]
  constructor
  · rintro ⟨x, hx, h⟩
    have := (colK_mem (x := x) (by omega) Y u v).1 h
    have := List.mem_range.1 hx
    omega
  · rintro ⟨h1, h2⟩
    exact ⟨u.natAbs, List.mem_range.2 h1, (colK_mem (by omega) Y u v).2 ⟨rfl, h2⟩⟩
theorem flat_nd {α : Type} (F : Nat → List α) (key : α → Nat) (k : Nat) (h1 : ∀ i, i < k → (F i).Nodup) (h2 : ∀ i, ∀ p ∈ F i, key p = i) : ((List.range k).flatMap F).Nodup := by
  unfold List.Nodup
  rw [List.pairwise_flatMap]
  refine ⟨fun i hi => h1 i (List.mem_range.1 hi), (List.nodup_range (n := k)).imp ?_⟩
  intro i j hij p hp q hq e
  subst e
  exact hij ((h2 i p hp).symm.trans (h2 j p hq))
theorem colK_nd {x : Int} (hx : 0 ≤ x) (k : Nat) : (colK x k).Nodup :=
  flat_nd _ (fun p => p.2.natAbs) k (fun i _ => sgK_nd) (fun i p hp => by
    have := (sgK_mem (x := x) (y := i) hx (by omega) p.1 p.2).1 hp
    omega)
theorem boxK_nd (Y k : Nat) : (boxK Y k).Nodup :=
  flat_nd _ (fun p => p.1.natAbs) k (fun i _ => colK_nd (by omega) Y) (fun i p hp => by
    have := (colK_mem (x := i) (by omega) Y p.1 p.2).1 hp
    omega)
open Classical in
theorem same_lenT {α : Type} {L K : List α} (h1 : L.Nodup) (h2 : K.Nodup) (h : ∀ x, x ∈ L ↔ x ∈ K) : L.length = K.length :=
  ((List.perm_ext_iff_of_nodup h1 h2).2 h).length_eq
/-- The value at a point. -/
def valP (f : Fm) (p : Int × Int) : Int := f.a * p.1 * p.1 + f.b * p.1 * p.2 + f.c * p.2 * p.2
def cntV (f : Fm) (L : List (Int × Int)) (m : Int) : Nat := (L.filter fun p => decide (valP f p = m)).length
theorem cntV_app (f : Fm) (L K : List (Int × Int)) (m : Int) : cntV f (L ++ K) m = cntV f L m + cntV f K m := by unfold cntV; rw [List.filter_append, List.length_append]
theorem ptAt_nd {b c d n x : Int} : (ptAt d b c n x).Nodup := by
  unfold ptAt
  split
  · generalize rt (d * x * x + 4 * c * n) = r
    unfold ptA ptB
    split
    · split
      · rename_i h1 h2
        rw [List.nodup_append]
        refine ⟨by simp, by simp, ?_⟩
        intro p hp q hq e
        simp only [List.mem_singleton] at hp hq
        subst hp hq
        injection e with _ e
        have e1 := Int.mul_tdiv_cancel_of_tmod_eq_zero h1
        have e2 := Int.mul_tdiv_cancel_of_tmod_eq_zero h2.2
        rw [e] at e1
        omega
      · simp
    · split <;> simp
  · simp
theorem ptsL_nd {d n : Int} {f : Fm} (D : Dsc d) (hf : f ∈ clsL d) : (ptsL d n f).Nodup := by
  have hc : 0 < f.c := (cf_self D hf).df.c0
  obtain ⟨⟨_, _, e3, _⟩, _⟩ := mem_clsL D.lo hf
  have hd : f.b * f.b - 4 * f.a * f.c = d := e3
  unfold ptsL ptsK
  refine flat_nd _ (fun p => (p.1 + ptM d f.c n).toNat) _ (fun i _ => ptAt_nd) (fun i p hp => ?_)
  obtain ⟨hx, _⟩ := (ptAt_mem hc hd p.1 p.2).1 hp
  rw [hx]
  omega
theorem val_lo {a b c u v : Int} (ha : 0 < a) (hb : b * b ≤ a * c) : a * u * u + c * v * v ≤ 2 * (a * u * u + b * u * v + c * v * v) := by
  have h1 : 0 ≤ (a * u + b * v) * (a * u + b * v) := by
    rcases Int.le_total 0 (a * u + b * v) with h | h
    · exact Int.mul_nonneg h h
    · exact Int.mul_nonneg_of_nonpos_of_nonpos h h
  have h2 : 0 ≤ v * v := by
    rcases Int.le_total 0 v with h | h
    · exact Int.mul_nonneg h h
    · exact Int.mul_nonneg_of_nonpos_of_nonpos h h
  have h3 : 0 ≤ (a * c - b * b) * (v * v) := Int.mul_nonneg (by omega) h2
  have e : a * (a * u * u + 2 * (b * u * v) + c * v * v) = (a * u + b * v) * (a * u + b * v) + (a * c - b * b) * (v * v) := by grind
  have h4 : 0 ≤ a * (a * u * u + 2 * (b * u * v) + c * v * v) := by omega
  have h5 : 0 ≤ a * u * u + 2 * (b * u * v) + c * v * v := by
    apply Int.not_lt.1
    intro hlt
    have := Int.mul_le_mul_of_nonneg_left (show a * u * u + 2 * (b * u * v) + c * v * v ≤ -1 by omega) (show 0 ≤ a by omega)
    omega
  omega
theorem sq_ab {a u : Int} (ha : 0 < a) : 0 ≤ a * u * u ∧ a * u * u = a * ((u.natAbs : Int) * (u.natAbs : Int)) := by
  have e : (u.natAbs : Int) * (u.natAbs : Int) = u * u := by rw [← Int.natCast_mul, ← Int.natAbs_mul]; rw [Int.natAbs_of_nonneg]; rcases Int.le_total 0 u with h | h; exact Int.mul_nonneg h h; exact Int.mul_nonneg_of_nonpos_of_nonpos h h
  rw [e, Int.mul_assoc]
  refine ⟨Int.mul_nonneg (by omega) ?_, rfl⟩
  rcases Int.le_total 0 u with h | h; exact Int.mul_nonneg h h; exact Int.mul_nonneg_of_nonpos_of_nonpos h h
/-- How often the loop over the coordinate of coefficient a runs. -/
noncomputable def lpN (a n : Int) : Nat := (rt ((2 * n) / a) + 1).toNat
theorem lpN_lt {a n : Int} (ha : 0 < a) (hn : 0 ≤ n) (k : Nat) : k < lpN a n ↔ a * k * k ≤ 2 * n := by
  have hq : 0 ≤ 2 * n / a := Int.ediv_nonneg (by omega) (by omega)
  have h := rt_cmp hq (show (0 : Int) ≤ k by omega)
  have r0 := (rt_spec hq).1
  have e : a * k * k = (k : Int) * k * a := by rw [Int.mul_assoc, Int.mul_comm]
  have h2 := Int.le_ediv_iff_mul_le (a := (k : Int) * k) (b := 2 * n) ha
  unfold lpN
  rw [e, ← h2, h]
  omega
theorem red_bac {d : Int} {f : Fm} (D : Dsc d) (hf : f ∈ clsL d) : f.b * f.b ≤ f.a * f.c := by
  have ha : 0 < f.a := (cf_self D hf).df.a0
  obtain ⟨⟨_, _, e3, e4, _⟩, _⟩ := mem_clsL D.lo hf
  have hr := (isRed_iff _ _ _).1 e4
  have h1 : f.a * f.a ≤ f.a * f.c := Int.mul_le_mul_of_nonneg_left (by omega) (by omega)
  have h2 : f.b * f.b ≤ f.a * f.a := by
    rcases Int.le_total 0 f.b with h | h
    · exact Int.mul_le_mul (by omega) (by omega) h (by omega)
    · have := Int.mul_le_mul (show -f.b ≤ f.a by omega) (show -f.b ≤ f.a by omega) (by omega) (by omega)
      rwa [Int.neg_mul_neg] at this
  omega
/-- The number of points with the value m. -/
noncomputable def rN (d : Int) (f : Fm) (m : Int) : Nat := if m = 0 then 1 else (ptsL d m f).length
theorem cnt_box {d n m : Int} {f : Fm} (D : Dsc d) (hf : f ∈ clsL d) (hn : 0 ≤ n) (h0 : 0 ≤ m) (hm : m ≤ n) : cntV f (boxK (lpN f.c n) (lpN f.a n)) m = rN d f m := by
  have ha : 0 < f.a := (cf_self D hf).df.a0
  have hc : 0 < f.c := (cf_self D hf).df.c0
  obtain ⟨⟨_, _, e3, e4, _⟩, _⟩ := mem_clsL D.lo hf
  have hbac := red_bac D hf
  have hin : ∀ u v : Int, f.a * u * u + f.b * u * v + f.c * v * v = m → (u, v) ∈ boxK (lpN f.c n) (lpN f.a n) := by
    intro u v h
    have h1 := val_lo (u := u) (v := v) ha hbac
    obtain ⟨h2, h3⟩ := sq_ab (u := u) ha
    obtain ⟨h4, h5⟩ := sq_ab (u := v) hc
    rw [boxK_mem, lpN_lt ha hn, lpN_lt hc hn, Int.mul_assoc, Int.mul_assoc, ← h3, ← h5]
    omega
  have hnd := (boxK_nd (lpN f.c n) (lpN f.a n)).filter (fun p => decide (valP f p = m))
  unfold cntV rN
  split
  · rename_i hz
    subst hz
    rw [same_lenT hnd (K := [(0, 0)]) (by simp) ?_]
    · rfl
    · rintro ⟨u, v⟩
      rw [List.mem_filter, decide_eq_true_eq]
      constructor
      · rintro ⟨_, h⟩
        have h1 := val_lo (u := u) (v := v) ha hbac
        have hv : f.a * u * u + f.b * u * v + f.c * v * v = 0 := h
        obtain ⟨h2, h3⟩ := sq_ab (u := u) ha
        obtain ⟨h4, h5⟩ := sq_ab (u := v) hc
        have z : ∀ a t : Int, 0 < a → a * t * t = 0 → t = 0 := by
          intro a t ha ht
          rcases Int.mul_eq_zero.1 ht with h | h
          · rcases Int.mul_eq_zero.1 h with h | h <;> omega
          · exact h
        have hu := z f.a u ha (by omega)
        have hv := z f.c v hc (by omega)
        rw [hu, hv]; simp
      · intro h
        simp only [List.mem_singleton, Prod.mk.injEq] at h
        obtain ⟨rfl, rfl⟩ := h
        exact ⟨hin 0 0 (by simp), by simp [valP]⟩
  · rename_i hz
    refine same_lenT hnd (ptsL_nd D hf) ?_
    rintro ⟨u, v⟩
    rw [List.mem_filter, decide_eq_true_eq, ptsL_mem D hf (by omega)]
    exact ⟨fun h => h.2, fun h => ⟨hin u v h, h⟩⟩
end Go.Proofs.YtblcmkhkbgikoaaGreat
