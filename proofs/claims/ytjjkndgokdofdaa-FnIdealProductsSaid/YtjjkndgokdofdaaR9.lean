/- Plain facts and a contract for the law on products of ideals. -/
import Derived.Test.YtjjkndgokdofdaaR8
import Derived.Test.YtjjkndgokdofdaaRU
namespace Go.Proofs.Ytjjkndgokdofdaa
open Go.RowKit

/-- The composite of two classes, as a form. -/
theorem cmp_data {f g : Fm} (hf : isCls f.a f.b f.c = true) (hg : isCls g.a g.b g.c = true) (hd : disc f = disc g) :
    isDefB (cmp (disc f) (red f) (red g)).a (cmp (disc f) (red f) (red g)).b (cmp (disc f) (red f) (red g)).c = true ∧ red (cmp (disc f) (red f) (red g)) = cmp (disc f) (red f) (red g) := by
  have cf : CF (disc f) f (red f) := CF.of_cls hf
  have cg : CF (disc f) g (red g) := by rw [hd]; exact CF.of_cls hg
  have D := cf.D
  have hm := D.cmpm cf.mem cg.mem
  generalize cmp (disc f) (red f) (red g) = R at *
  obtain ⟨⟨a1, a2⟩, ⟨b1, b2⟩, ⟨c1, c2⟩⟩ := cls_bd D.lo hm
  obtain ⟨⟨_, _, f3, f4, _⟩, _⟩ := mem_clsL D.lo hm
  refine ⟨?_, red_of f4⟩
  have hh := D.hi
  unfold isDefB isFm
  rw [num_of (x := R.a) (by omega), num_of (x := R.b) (by omega), num_of (x := R.c) (by omega)]
  have e : disc ⟨R.a, R.b, R.c⟩ = disc f := f3
  rw [e]
  simp only [Bool.and_eq_true, decide_eq_true_eq]
  exact ⟨⟨trivial, trivial, trivial⟩, by omega, by omega⟩
theorem ip_pair {d e1 a b c e2 a' b' c' : Int} (hx : IdV d e1 a b) (hy : IdV d e2 a' b') (hc : b * b - d = 4 * a * c) (hc' : b' * b' - d = 4 * a' * c') (hp : Int.gcd a (Int.gcd b c) = 1) (hq : Int.gcd a' (Int.gcd b' c') = 1) :
    pairB ⟨a, b, c⟩ ⟨a', b', c'⟩ = true := by
  unfold pairB
  show (isCls a b c && (isCls a' b' c' && _)) = true
  rw [hx.cls hc hp, hy.cls hc' hq, hx.disc hc, hy.disc hc']
  simp
/-- The norms of the factors multiply to the norm of the product. -/
theorem ip_norm {d e1 a b c e2 a' b' e A p : Int} (hx : IdV d e1 a b) (hy : IdV d e2 a' b') (hc : b * b - d = 4 * a * c) (hp : Int.gcd a (Int.gcd b c) = 1)
    (H : HnP (sD d) (nD d) a ((b + sD d) / 2) a' ((b' + sD d) / 2) (2 * e * A) (e * (2 * p + sD d)) e) {B : Int} (hz : IdV d (e * (e1 * e2)) A B) :
    wrap64 (e1 * e1 * a * (e2 * e2 * a')) = e * (e1 * e2) * (e * (e1 * e2)) * A := by
  have hn := norm_law hx hy hc hp H
  have h1 := hz.e1; have h2 := hz.e2; have h3 := hz.a1; have h4 := hz.a2
  have e0 : e1 * e1 * a * (e2 * e2 * a') = e * (e1 * e2) * (e * (e1 * e2)) * A := by
    have : e1 * e1 * a * (e2 * e2 * a') = (e1 * e2) * (e1 * e2) * (a * a') := by grind
    rw [this, ← hn]; grind
  rw [e0]
  generalize e * (e1 * e2) = z at *
  have m1 := mul_bd (a := z) (x := z) (A := 10000) (X := 10000) (by omega) (by omega) (by omega) (by omega)
  have m2 := mul_bd (a := z * z) (x := A) (A := 100000000) (X := 10000) (by omega) (by omega) (by omega) (by omega)
  exact IntWalk.wrap64_in _ (by omega)
/-- The product of an ideal and its conjugate. -/
theorem conj_idB {d e1 a b c e A p : Int} (hx : IdV d e1 a b) (hc : b * b - d = 4 * a * c) (hp : Int.gcd a (Int.gcd b c) = 1) (hd : e ∣ a)
    (H : HnP (sD d) (nD d) a ((b + sD d) / 2) a (((-b) % (2 * a) + sD d) / 2) (2 * e * A) (e * (2 * p + sD d)) e) :
    e * (e1 * e1) = e1 * e1 * a ∧ A = 1 ∧ (-(2 * p + sD d)) % (2 * A) = d % 2 ∧ idB d (e * (e1 * e1)) A ((-(2 * p + sD d)) % (2 * A)) = decide (e1 * e1 * a ≤ 10000) := by
  obtain ⟨h1, h2⟩ := conj_law hx hc hp hd H
  subst h1 h2
  have D := hx.dsc
  have e0 : e * (e1 * e1) = e1 * e1 * e := by grind
  have e2 : (-(2 * p + sD d)) % (2 * 1) = d % 2 := by unfold sD; omega
  refine ⟨e0, rfl, e2, ?_⟩
  rw [e2, e0]
  have g1 := hx.e1; have g2 := hx.a1
  have g3 : 1 ≤ e1 * e1 * e := by
    have k1 : 1 * 1 ≤ e1 * e1 := Int.mul_le_mul g1 g1 (by omega) (by omega)
    have k2 : 1 * 1 ≤ e1 * e1 * e := Int.mul_le_mul (by omega) g2 (by omega) (by omega)
    omega
  rw [Bool.eq_iff_iff, idB_iff, decide_eq_true_eq]
  constructor
  · intro h; exact h.e2
  · intro h
    refine ⟨hx.dc, g3, h, by omega, by omega, by omega, by omega, ?_⟩
    have md := D.md
    rcases (show d % 4 = 0 ∨ d % 4 = 1 by omega) with k | k
    · have : d % 2 = 0 := by omega
      rw [this]; omega
    · have : d % 2 = 1 := by omega
      rw [this]; omega
/-- What IdealProduct answers. -/
def IpR (d e1 a b e2 a' b' q1 q2 q3 : Int) (ok : Bool) : Prop :=
  ((idB d e1 a b && idB d e2 a' b') = false ∧ ok = false ∧ q1 = 0 ∧ q2 = 0 ∧ q3 = 0) ∨
  (IdV d e1 a b ∧ IdV d e2 a' b' ∧ ∃ e A p, PdR d a b a' b' e A (2 * p + sD d) ∧ HnP (sD d) (nD d) a ((b + sD d) / 2) a' ((b' + sD d) / 2) (2 * e * A) (e * (2 * p + sD d)) e ∧
    Pr (sD d) (nD d) (Id a ((b + sD d) / 2)) (Id a' ((b' + sD d) / 2)) = Sc (sD d) (nD d) ⟨e, 0⟩ (Id A (-p)) ∧ e ∣ a ∧
    ((ok = true ∧ idB d (e * (e1 * e2)) A ((-(2 * p + sD d)) % (2 * A)) = true ∧ q1 = e * (e1 * e2) ∧ q2 = A ∧ q3 = (-(2 * p + sD d)) % (2 * A)) ∨
     (ok = false ∧ idB d (e * (e1 * e2)) A ((-(2 * p + sD d)) % (2 * A)) = false ∧ q1 = 0 ∧ q2 = 0 ∧ q3 = 0)))
theorem ipR_ex (d e1 a b e2 a' b' : Int) : ∃ q1 q2 q3 ok, IpR d e1 a b e2 a' b' q1 q2 q3 ok := by
  cases h : idB d e1 a b && idB d e2 a' b' with
  | false => exact ⟨0, 0, 0, false, .inl ⟨h, rfl, rfl, rfl, rfl⟩⟩
  | true =>
    rw [Bool.and_eq_true] at h
    have hx := idB_iff.1 h.1
    have hy := idB_iff.1 h.2
    obtain ⟨e, A, p, h1, h2, h3, h4⟩ := pd_ex hx hy
    cases hi : idB d (e * (e1 * e2)) A ((-(2 * p + sD d)) % (2 * A)) with
    | true => exact ⟨_, _, _, true, .inr ⟨hx, hy, e, A, p, h1, h2, h3, h4, .inl ⟨rfl, hi, rfl, rfl, rfl⟩⟩⟩
    | false => exact ⟨_, _, _, false, .inr ⟨hx, hy, e, A, p, h1, h2, h3, h4, .inr ⟨rfl, hi, rfl, rfl, rfl⟩⟩⟩
/-- What IsInvertible answers. -/
def IvR (d e a b : Int) (x one : Bool) : Prop := (idB d e a b = false ∧ x = false ∧ one = false) ∨ (idB d e a b = true ∧ ∃ c, b * b - d = 4 * a * c ∧ x = ((Int.gcd a (Int.gcd b c) : Int) == 1) ∧ one = true)
theorem ivR_ex (d e a b : Int) : ∃ x one, IvR d e a b x one := by
  cases h : idB d e a b with
  | false => exact ⟨_, _, .inl ⟨h, rfl, rfl⟩⟩
  | true =>
    obtain ⟨c, hc, _⟩ := (idB_iff.1 h).form
    exact ⟨_, _, .inr ⟨h, c, hc, rfl, rfl⟩⟩
theorem implIP_R {d e1 a b e2 a' b' q1 q2 q3 : Int} {ok : Bool} (w : World) (h : IpR d e1 a b e2 a' b' q1 q2 q3 ok) : Calls Try.prog 8 #[.int .i64 d, .agg #[.int .i64 e1, .int .i64 a, .int .i64 b], .agg #[.int .i64 e2, .int .i64 a', .int .i64 b']] w fun x w' => x = .returned (.tuple #[.agg #[.int .i64 q1, .int .i64 q2, .int .i64 q3], .bool ok]) ∧ Below w.heap.size w w' := by
  rcases h with ⟨h, rfl, rfl, rfl, rfl⟩ | ⟨hx, hy, e, A, p, h1, h2, h3, h4, ⟨rfl, hi, rfl, rfl, rfl⟩ | ⟨rfl, hi, rfl, rfl, rfl⟩⟩
  · exact implIP_no d e1 a b e2 a' b' w h
  · have := implIP_any d e1 a b e2 a' b' e _ _ w hx hy h1
    rw [hi] at this
    simpa using this
  · have := implIP_any d e1 a b e2 a' b' e _ _ w hx hy h1
    rw [hi] at this
    simpa using this
theorem specIP_R {d e1 a b e2 a' b' q1 q2 q3 : Int} {ok : Bool} (w : World) (h : IpR d e1 a b e2 a' b' q1 q2 q3 ok) : Calls Try.prog 9 #[.int .i64 d, .agg #[.int .i64 e1, .int .i64 a, .int .i64 b], .agg #[.int .i64 e2, .int .i64 a', .int .i64 b']] w fun x w' => x = .returned (.tuple #[.agg #[.int .i64 q1, .int .i64 q2, .int .i64 q3], .bool ok]) ∧ Below w.heap.size w w' := by
  rcases h with ⟨h, rfl, rfl, rfl, rfl⟩ | ⟨hx, hy, e, A, p, h1, h2, h3, h4, ⟨rfl, hi, rfl, rfl, rfl⟩ | ⟨rfl, hi, rfl, rfl, rfl⟩⟩
  · exact specIP_no d e1 a b e2 a' b' w h
  · have := specIP_any d e1 a b e2 a' b' e _ _ w hx hy h1
    rw [hi] at this
    simpa using this
  · have := specIP_any d e1 a b e2 a' b' e _ _ w hx hy h1
    rw [hi] at this
    simpa using this
theorem implIv_R {d e a b : Int} {x one : Bool} (w : World) (h : IvR d e a b x one) : Calls Try.prog 10 #[.int .i64 d, .agg #[.int .i64 e, .int .i64 a, .int .i64 b]] w fun r w' => r = .returned (.tuple #[.bool x, .bool one]) ∧ Below w.heap.size w w' := by
  rcases h with ⟨h, rfl, rfl⟩ | ⟨h, c, hc, rfl, rfl⟩
  · exact implInv_no d e a b w h
  · obtain ⟨c', hc', h1, h2, h3⟩ := (idB_iff.1 h).form
    have ha := (idB_iff.1 h).a1
    have : c = c' := by
      have e0 : 4 * a * c = 4 * a * c' := by rw [← hc, ← hc']
      exact Int.eq_of_mul_eq_mul_left (by omega) e0
    subst this
    exact implInv_any d e a b c w h hc ⟨h1, h2⟩ h3
theorem specIv_R {d e a b : Int} {x one : Bool} (w : World) (h : IvR d e a b x one) : Calls Try.prog 16 #[.int .i64 d, .agg #[.int .i64 e, .int .i64 a, .int .i64 b]] w fun r w' => r = .returned (.tuple #[.bool x, .bool one]) ∧ Below w.heap.size w w' := by
  rcases h with ⟨h, rfl, rfl⟩ | ⟨h, c, hc, rfl, rfl⟩
  · exact specInv_no d e a b w h
  · obtain ⟨c', hc', h1, h2, h3⟩ := (idB_iff.1 h).form
    have ha := (idB_iff.1 h).a1
    have : c = c' := by
      have e0 : 4 * a * c = 4 * a * c' := by rw [← hc, ← hc']
      exact Int.eq_of_mul_eq_mul_left (by omega) e0
    subst this
    exact specInv_any d e a b c w h hc ⟨h1, h2⟩ h3
theorem red_anyR (f : Fm) (w : World) (h : Def M0 f) : Calls Try.prog 51 #[.agg #[.int .i64 f.a, .int .i64 f.b, .int .i64 f.c]] w fun e w' => e = .returned (.agg #[.int .i64 (red f).a, .int .i64 (red f).b, .int .i64 (red f).c]) ∧ Below w.heap.size w w' :=
  reduced_any f.a f.b f.c _ _ _ w h rfl
set_option maxRecDepth 100000 in
set_option maxHeartbeats 3200000 in
theorem implAE_same (f g r : Fm) (w : World) (h1 : isDefB f.a f.b f.c = true) (h2 : isDefB g.a g.b g.c = true) (d1 : Def M0 f) (d2 : Def M0 g) (r1 : red f = r) (r2 : red g = r) :
    Calls Try.prog 13 #[.agg #[.int .i64 f.a, .int .i64 f.b, .int .i64 f.c], .agg #[.int .i64 g.a, .int .i64 g.b, .int .i64 g.c]] w fun e w' => e = .returned (.tuple #[.bool true, .bool true]) ∧ Below w.heap.size w w' := by
  have hF := Lib.hid (fun w => iisDef_any f.a f.b f.c w)
  have hG := Lib.hid (fun w => iisDef_any g.a g.b g.c w)
  rw [h1] at hF
  rw [h2] at hG
  have hR := Lib.hid (fun w => red_anyR f w d1)
  have hS := Lib.hid (fun w => red_anyR g w d2)
  rw [r1] at hR
  rw [r2] at hS
  clear h1 h2 d1 d2 r1 r2
  go_enter Try.func13, Try.ntmps13
  go_wp2_with (first
    | (go_at_call 50; (with_reducible refine (hF.out _).mono ?_); rintro e v1 ⟨rfl, hB1⟩; have hZ1 := hB1.size; (try simp at hZ1); (try have zl1 : w.heap.size < v1.heap.size := by omega); (try have ze1 : w.heap.size ≤ v1.heap.size := by omega); (try have zn1 : ¬ w.heap.size = v1.heap.size := by omega); (try have zm1 : ¬ v1.heap.size = w.heap.size := by omega); have hA1 : Blk v1 (w.heap.size) 33 #[.int .i64 f.a, .int .i64 f.b, .int .i64 f.c] := Blk.call (by (repeat (first | with_reducible assumption | (with_reducible apply Blk.new_at; (first | rfl | (simp; done))) | with_reducible apply Blk.store3 | with_reducible apply Blk.store4 | (with_reducible apply Blk.farp; (first | omega | (simp <;> omega))) | with_reducible apply Blk.allocp | with_reducible apply Blk.drew | with_reducible apply Blk.drewN))) hB1; have cA1 := hA1.cell; have fA1 := hA1.frozen; have lA1 := hA1.lt; have mA1 := Nat.ne_of_gt lA1; have nA1 := Nat.ne_of_lt lA1; have hD1 : Blk v1 (w.heap.size + 1) 33 #[.int .i64 g.a, .int .i64 g.b, .int .i64 g.c] := Blk.call (by (repeat (first | with_reducible assumption | (with_reducible apply Blk.new_at; (first | rfl | (simp; done))) | with_reducible apply Blk.store3 | with_reducible apply Blk.store4 | (with_reducible apply Blk.farp; (first | omega | (simp <;> omega))) | with_reducible apply Blk.allocp | with_reducible apply Blk.drew | with_reducible apply Blk.drewN))) hB1; have cD1 := hD1.cell; have fD1 := hD1.frozen; have lD1 := hD1.lt; have mD1 := Nat.ne_of_gt lD1; have nD1 := Nat.ne_of_lt lD1)
    | (go_at_call 50; (with_reducible refine (hG.out _).mono ?_); rintro e v2 ⟨rfl, hB2⟩; have hZ2 := hB2.size; (try simp at hZ2); (try have zl2 : w.heap.size < v2.heap.size := by omega); (try have ze2 : w.heap.size ≤ v2.heap.size := by omega); (try have zn2 : ¬ w.heap.size = v2.heap.size := by omega); (try have zm2 : ¬ v2.heap.size = w.heap.size := by omega); have hA2 : Blk v2 (w.heap.size) 33 #[.int .i64 f.a, .int .i64 f.b, .int .i64 f.c] := Blk.call (by (repeat (first | with_reducible assumption | (with_reducible apply Blk.new_at; (first | rfl | (simp; done))) | with_reducible apply Blk.store3 | with_reducible apply Blk.store4 | (with_reducible apply Blk.farp; (first | omega | (simp <;> omega))) | with_reducible apply Blk.allocp | with_reducible apply Blk.drew | with_reducible apply Blk.drewN))) hB2; have cA2 := hA2.cell; have fA2 := hA2.frozen; have lA2 := hA2.lt; have mA2 := Nat.ne_of_gt lA2; have nA2 := Nat.ne_of_lt lA2; have hD2 : Blk v2 (w.heap.size + 1) 33 #[.int .i64 g.a, .int .i64 g.b, .int .i64 g.c] := Blk.call (by (repeat (first | with_reducible assumption | (with_reducible apply Blk.new_at; (first | rfl | (simp; done))) | with_reducible apply Blk.store3 | with_reducible apply Blk.store4 | (with_reducible apply Blk.farp; (first | omega | (simp <;> omega))) | with_reducible apply Blk.allocp | with_reducible apply Blk.drew | with_reducible apply Blk.drewN))) hB2; have cD2 := hD2.cell; have fD2 := hD2.frozen; have lD2 := hD2.lt; have mD2 := Nat.ne_of_gt lD2; have nD2 := Nat.ne_of_lt lD2))
  refine wp_region_calm 5 (Below (v2.heap.size) _) (by kernel_rfl) (by kernel_rfl) ((Below.refl _ _).drew) ?_
  simp only [List.take_succ_cons, List.take_zero, List.drop_succ_cons, List.drop_zero]
  repeat (first | (apply wpCalm_go; go_simp; (intro w' hw' hcc hff; go_simp; first | exact rfl | ((with_reducible refine (hR.out _).mono ?_); rintro ee w1 ⟨rfl, hb⟩; exact ⟨rfl, calm_call (by simp <;> omega) hw' hb⟩) | ((with_reducible refine (hS.out _).mono ?_); rintro ee w1 ⟨rfl, hb⟩; exact ⟨rfl, calm_call (by simp <;> omega) hw' hb⟩)); (intro K hK; go_simp; refine hK _ ?_; clear hK K)) | (apply wpCalm_skip; go_simp; (try (focus (simp [undef]; done))); (intro K hK; go_simp; refine hK _ ?_; clear hK K)))
  refine wpCalm_nil ?_
  intro w1 hw1
  have hcc := (calm_cells hw1).1
  have hff := (calm_cells hw1).2
  have hss := calm_size hw1
  have hsz := hw1.size
  (try simp at hsz)
  go_wp2
  go_ret2
  exact ⟨rfl, (by repeat (first | with_reducible exact Below.refl _ _ | with_reducible assumption | with_reducible apply Below.drew | with_reducible apply below_drewN | (with_reducible apply below_setp; (first | omega | (simp <;> omega))) | (with_reducible apply below_allocp; (first | omega | (simp <;> omega))) | (with_reducible refine below_viap (by assumption) ?_ ?_; (first | omega | (simp <;> omega)))))⟩
end Go.Proofs.Ytjjkndgokdofdaa
