/- Contracts and plain facts for the law on cubes. -/
import Derived.Test.YtjjkndgokdofdaaQI
import Derived.Test.YtjjkndgokdofdaaRD
import Derived.Test.YtjjkndgokdofdaaRY
namespace Go.Proofs.Ytjjkndgokdofdaa
open Go.RowKit

theorem cls_of_memQ {d : Int} {f : Fm} (D : Dsc d) (hf : f ∈ clsL d) : isCls f.a f.b f.c = true := by
  obtain ⟨⟨a1, a2⟩, ⟨b1, b2⟩, ⟨c1, c2⟩⟩ := cls_bd D.lo hf
  obtain ⟨⟨_, _, f3, _⟩, hp⟩ := mem_clsL D.lo hf
  have hh := D.hi
  have hl := D.lo
  have e : disc ⟨f.a, f.b, f.c⟩ = d := f3
  have na : isNum f.a = true := (isNum_iff _).2 ⟨by omega, by omega⟩
  have nb : isNum f.b = true := (isNum_iff _).2 ⟨by omega, by omega⟩
  have nc : isNum f.c = true := (isNum_iff _).2 ⟨by omega, by omega⟩
  unfold isCls isShown isDefB isFm
  rw [na, nb, nc, e, hp]
  simp only [Bool.and_eq_true, decide_eq_true_eq]
  exact ⟨⟨⟨⟨trivial, trivial, trivial⟩, by omega, by omega⟩, by omega⟩, trivial⟩
theorem prim1_gcd {f : Fm} (h : prim1 f = true) : Int.gcd f.a (Int.gcd f.b f.c) = 1 := by
  unfold prim1 at h
  have := of_decide_eq_true h
  omega
/-- What is said of a projective cube whose forms are forms of classes. -/
theorem cu_law {k : Cu} (hp : prCu k = true) (h1 : isCls (cuF k).a (cuF k).b (cuF k).c = true) (h2 : isCls (cuF2 k).a (cuF2 k).b (cuF2 k).c = true) (h3 : isCls (cuF3 k).a (cuF3 k).b (cuF3 k).c = true) :
    ∃ R O : Fm, ∃ d : Int, pairB (cuF k) (cuF2 k) = true ∧ cmp (disc (cuF k)) (red (cuF k)) (red (cuF2 k)) = R ∧ pairB R (cuF3 k) = true ∧ cmp (disc R) (red R) (red (cuF3 k)) = O ∧ isCls O.a O.b O.c = true ∧ CF d O O ∧ fmEq O (oneF d) = true := by
  unfold prCu at hp
  simp only [Bool.and_eq_true] at hp
  obtain ⟨p1, p2, p3⟩ := hp
  have c1 : CF (disc (cuF k)) (cuF k) (red (cuF k)) := CF.of_cls h1
  have c2 : CF (disc (cuF k)) (cuF2 k) (red (cuF2 k)) := by rw [← cu_disc2 k]; exact CF.of_cls h2
  have c3 : CF (disc (cuF k)) (cuF3 k) (red (cuF3 k)) := by rw [← cu_disc3 k]; exact CF.of_cls h3
  have hl := cube_one c1 c2 c3 (prim1_gcd p1) (prim1_gcd p3)
  have D := c1.D
  have hm := D.cmpm c1.mem c2.mem
  have cR := CF.of_mem D hm
  refine ⟨_, _, disc (cuF k), ?_, rfl, ?_, rfl, ?_, ?_, ?_⟩
  · unfold pairB
    rw [h1, h2, cu_disc2 k]
    simp
  · unfold pairB
    rw [cls_of_memQ D hm, h3, cR.dc, cu_disc3 k]
    simp
  · rw [cR.dc, cR.rd, hl]; exact cls_of_memQ D D.one
  · rw [cR.dc, cR.rd, hl]; exact CF.one D
  · rw [cR.dc, cR.rd, hl]; exact (fmEq_iff _ _).2 rfl
theorem isFm_of {f : Fm} (h : (-500000 ≤ f.a ∧ f.a ≤ 500000) ∧ (-1000000 ≤ f.b ∧ f.b ≤ 1000000) ∧ (-500000 ≤ f.c ∧ f.c ≤ 500000)) : isFm f.a f.b f.c = true := by
  have na : isNum f.a = true := (isNum_iff _).2 ⟨by omega, by omega⟩
  have nb : isNum f.b = true := (isNum_iff _).2 ⟨by omega, by omega⟩
  have nc : isNum f.c = true := (isNum_iff _).2 ⟨by omega, by omega⟩
  unfold isFm
  rw [na, nb, nc]
  rfl
set_option maxHeartbeats 800000 in
theorem IsClassFormQ_any (a b c : Int) (w : World) : Calls Try.prog 25 #[.agg #[.int .i64 a, .int .i64 b, .int .i64 c]] w fun e w' => e = .returned (.bool (isCls a b c)) ∧ Below w.heap.size w w' := by
  have hI := Lib.hid (fun w => icls_any a b c w)
  generalize isCls a b c = x at hI ⊢
  go_enter Try.func25, Try.ntmps25
  go_wp2_with (go_at_call 67; (with_reducible refine (hI.out _).mono ?_); rintro e v1 ⟨rfl, hB1⟩; have hZ1 := hB1.size; (try simp at hZ1); (try have zl1 : w.heap.size < v1.heap.size := by omega); (try have ze1 : w.heap.size ≤ v1.heap.size := by omega); (try have zn1 : ¬ w.heap.size = v1.heap.size := by omega); (try have zm1 : ¬ v1.heap.size = w.heap.size := by omega); have hA1 : Blk v1 (w.heap.size) 33 #[.int .i64 a, .int .i64 b, .int .i64 c] := Blk.call (by (repeat (first | with_reducible assumption | (with_reducible apply Blk.new_at; (first | rfl | (simp; done))) | with_reducible apply Blk.store3 | with_reducible apply Blk.store4 | (with_reducible apply Blk.farp; (first | omega | (simp <;> omega))) | with_reducible apply Blk.allocp | with_reducible apply Blk.drew | with_reducible apply Blk.drewN))) hB1; have cA1 := hA1.cell; have fA1 := hA1.frozen; have lA1 := hA1.lt; have mA1 := Nat.ne_of_gt lA1; have nA1 := Nat.ne_of_lt lA1)
  go_ret
  exact ⟨rfl, (by repeat (first | with_reducible exact Below.refl _ _ | with_reducible assumption | with_reducible apply Below.drew | with_reducible apply below_drewN | (with_reducible apply below_setp; (first | omega | (simp <;> omega))) | (with_reducible apply below_allocp; (first | omega | (simp <;> omega))) | (with_reducible refine below_viap (by assumption) ?_ ?_; (first | omega | (simp <;> omega)))))⟩
set_option maxHeartbeats 800000 in
theorem implDisc_q (f : Fm) (w : World) (h : (-500000 ≤ f.a ∧ f.a ≤ 500000) ∧ (-1000000 ≤ f.b ∧ f.b ≤ 1000000) ∧ (-500000 ≤ f.c ∧ f.c ≤ 500000)) :
    Calls Try.prog 23 #[.agg #[.int .i64 f.a, .int .i64 f.b, .int .i64 f.c]] w fun e w' => e = .returned (.tuple #[.int .i64 (disc f), .bool true]) ∧ Below w.heap.size w w' := by
  have hF := Lib.hid (fun w => IsForm_any f.a f.b f.c w)
  rw [isFm_of h] at hF
  obtain ⟨b1, b2, b3⟩ := far_form h
  have hD := Lib.hid (fun w => idisc_any f.a f.b f.c w b1 b2 b3)
  have e : disc ⟨f.a, f.b, f.c⟩ = disc f := rfl
  rw [e] at hD
  clear b1 b2 b3 e h
  generalize disc f = x at *
  go_enter Try.func23, Try.ntmps23
  go_wp2_with (first
    | (go_at_call 66; (with_reducible refine (hF.out _).mono ?_); rintro e v1 ⟨rfl, hB1⟩; have hZ1 := hB1.size; (try simp at hZ1); (try have zl1 : w.heap.size < v1.heap.size := by omega); (try have ze1 : w.heap.size ≤ v1.heap.size := by omega); (try have zn1 : ¬ w.heap.size = v1.heap.size := by omega); (try have zm1 : ¬ v1.heap.size = w.heap.size := by omega); have hA1 : Blk v1 (w.heap.size) 33 #[.int .i64 f.a, .int .i64 f.b, .int .i64 f.c] := Blk.call (by (repeat (first | with_reducible assumption | (with_reducible apply Blk.new_at; (first | rfl | (simp; done))) | with_reducible apply Blk.store3 | with_reducible apply Blk.store4 | (with_reducible apply Blk.farp; (first | omega | (simp <;> omega))) | with_reducible apply Blk.allocp | with_reducible apply Blk.drew | with_reducible apply Blk.drewN))) hB1; have cA1 := hA1.cell; have fA1 := hA1.frozen; have lA1 := hA1.lt; have mA1 := Nat.ne_of_gt lA1; have nA1 := Nat.ne_of_lt lA1)
    | (go_at_call 65; (with_reducible refine (hD.out _).mono ?_); rintro e v2 ⟨rfl, hB2⟩; have hZ2 := hB2.size; (try simp at hZ2); (try have zl2 : w.heap.size < v2.heap.size := by omega); (try have ze2 : w.heap.size ≤ v2.heap.size := by omega); (try have zn2 : ¬ w.heap.size = v2.heap.size := by omega); (try have zm2 : ¬ v2.heap.size = w.heap.size := by omega); have hA2 : Blk v2 (w.heap.size) 33 #[.int .i64 f.a, .int .i64 f.b, .int .i64 f.c] := Blk.call (by (repeat (first | with_reducible assumption | (with_reducible apply Blk.new_at; (first | rfl | (simp; done))) | with_reducible apply Blk.store3 | with_reducible apply Blk.store4 | (with_reducible apply Blk.farp; (first | omega | (simp <;> omega))) | with_reducible apply Blk.allocp | with_reducible apply Blk.drew | with_reducible apply Blk.drewN))) hB2; have cA2 := hA2.cell; have fA2 := hA2.frozen; have lA2 := hA2.lt; have mA2 := Nat.ne_of_gt lA2; have nA2 := Nat.ne_of_lt lA2))
  go_ret2
  exact ⟨rfl, (by repeat (first | with_reducible exact Below.refl _ _ | with_reducible assumption | with_reducible apply Below.drew | with_reducible apply below_drewN | (with_reducible apply below_setp; (first | omega | (simp <;> omega))) | (with_reducible apply below_allocp; (first | omega | (simp <;> omega))) | (with_reducible refine below_viap (by assumption) ?_ ?_; (first | omega | (simp <;> omega)))))⟩
end Go.Proofs.Ytjjkndgokdofdaa
