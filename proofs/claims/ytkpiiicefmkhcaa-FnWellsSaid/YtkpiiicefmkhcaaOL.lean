/- Contracts: a well and its values, of the program; what the law on wells asks (written by gen_OL.py). -/
import Derived.Test.YtkpiiicefmkhcaaOV
namespace Go.Proofs.Ytkpiiicefmkhcaa
open Go.RowKit

def SrN (m : Nd) : Prop := ltP m.u m.v = true ∧ ltP m.v m.w = true
theorem srt3_srt (a1 a2 b1 b2 c1 c2 : Int) (h1 : ¬ (a1 = b1 ∧ a2 = b2)) (h2 : ¬ (a1 = c1 ∧ a2 = c2)) (h3 : ¬ (b1 = c1 ∧ b2 = c2)) : SrN (srt3 (a1, a2) (b1, b2) (c1, c2)) := by
  unfold srt3 SrN
  split
  · split
    · split
      all_goals
        simp only [ltP_t] at *
        omega
    · simp only [ltP_t] at *
      omega
  · split
    · split
      all_goals
        simp only [ltP_t] at *
        omega
    · simp only [ltP_t] at *
      omega
theorem dt_ne {p q : Int × Int} (h : dtP p q = 1 ∨ dtP p q = -1) : ¬ (p.1 = q.1 ∧ p.2 = q.2) := by
  rintro ⟨h1, h2⟩
  unfold dtP at h
  rw [h1, h2, Int.mul_comm q.2 q.1] at h
  omega
theorem path_srt {a b c : Int} (hf : DefV a b c) (n : Nd) (g : NdG n.u n.v n.w) : SrN n → ∀ m ∈ path a b c n, SrN m := by
  refine path_ind hf (P := fun n => SrN n → ∀ m ∈ path a b c n, SrN m) ?_ ?_ n g
  · intro n g h hs m hm; rw [path_end h, List.mem_singleton] at hm; rw [hm]; exact hs
  · intro n g h ih hs m hm
    rw [path_step hf g h] at hm
    rcases List.mem_cons.1 hm with e | hm
    · rw [e]; exact hs
    · refine ih ?_ m hm
      have hle := stp_le (vF a b c n.u) (vF a b c n.v) (vF a b c n.w)
      have is := sp_is n (stpN a b c n) (by omega) (by unfold stpN; omega)
      have g2 := nw_good (is.good g)
      exact srt3_srt _ _ _ _ _ _ (dt_ne g2.pq) (dt_ne g2.pr) (dt_ne g2.qr)
theorem ndB_srt {n : Nd} (h : ndB n = true) : SrN n := by
  unfold ndB at h
  simp only [Bool.and_eq_true] at h
  exact ⟨h.2.2.2.1, h.2.2.2.2.1⟩
theorem rgB_of {p : Int × Int} (g : PrG p) (h1 : -1000000 ≤ p.1 ∧ p.1 ≤ 1000000) (h2 : -1000000 ≤ p.2 ∧ p.2 ≤ 1000000) : rgB p = true := by
  unfold rgB
  have := g.g; have := g.c
  rw [num_ok h1, num_ok h2]
  simp only [Bool.true_and, Bool.and_eq_true, Bool.or_eq_true, decide_eq_true_eq]
  exact ⟨g.g, g.c⟩
theorem ndB_of {n : Nd} (g : NdG n.u n.v n.w) (h : numN n) (s : SrN n) : ndB n = true := by
  obtain ⟨⟨a1, a2⟩, ⟨b1, b2⟩, c1, c2⟩ := h
  unfold ndB
  rw [rgB_of g.gp a1 a2, rgB_of g.gq b1 b2, rgB_of g.gr c1 c2, s.1, s.2, u1B_iff.2 g.pq, u1B_iff.2 g.pr, u1B_iff.2 g.qr]
  rfl
/-- What holds at the end of the way down. -/
structure LstW (f : Fm) (m : Nd) : Prop where
  nd : ndB m = true
  nm : numN m
  st : stpN f.a f.b f.c m = 0
  vs : ∃ p q r, WellD f m p q r
theorem lstW_of {f : Fm} {n : Nd} (hd : isDefB f.a f.b f.c = true) (hn : ndB n = true) {j : Nat} (hj : j + 1 = (path f.a f.b f.c n).length) : LstW f ((path f.a f.b f.c n)[j]'(by omega)) := by
  have h : Def 1000000 f := defB_def hd
  obtain ⟨g, hm⟩ := nd_yes hn
  have hf : DefV f.a f.b f.c := ⟨h.a0, h.d⟩
  have D := pthD_of h hn
  have hmem := List.getElem_mem (l := path f.a f.b f.c n) (n := j) (by omega)
  have g2 := path_good hf n g _ hmem
  have n2 := path_num h g hm _ hmem
  have hst : stpN f.a f.b f.c ((path f.a f.b f.c n)[j]'(by omega)) = 0 := by
    apply Classical.byContradiction
    intro hne
    obtain ⟨h', _⟩ := D.more j (by omega) hne
    omega
  exact ⟨ndB_of g2 n2 (path_srt hf n g (ndB_srt hn) _ hmem), n2, hst, well_data h ⟨g2, hst⟩⟩
/-- The tests that the law makes of the values. -/
structure WvT (A B C ra rb rc : Int) : Prop where
  ba : 0 ≤ A ∧ A ≤ 2000000
  bb : 0 ≤ B ∧ B ≤ 2000000
  bc : 0 ≤ C ∧ C ≤ 2000000
  ra0 : 0 ≤ ra ∧ ra ≤ 1000000
  rc0 : 0 ≤ rc ∧ rc ≤ 1000000
  rb0 : -1000000 ≤ rb ∧ rb ≤ 1000000
  sum : A + B + C = ra + rc + (ra + rc - (rb.natAbs : Int))
  iA : A = ra ∨ A = rc ∨ A = ra + rc - (rb.natAbs : Int)
  iB : B = ra ∨ B = rc ∨ B = ra + rc - (rb.natAbs : Int)
  iC : C = ra ∨ C = rc ∨ C = ra + rc - (rb.natAbs : Int)
  one : A = ra ∨ B = ra ∨ C = ra
theorem wvT_of {f : Fm} {m : Nd} (hd : isDefB f.a f.b f.c = true) (h : LstW f m) : WvT (vF f.a f.b f.c m.u) (vF f.a f.b f.c m.v) (vF f.a f.b f.c m.w) (red f).a (red f).b (red f).c := by
  have h6 : Def 1000000 f := defB_def hd
  obtain ⟨p, q, r, W⟩ := h.vs
  have hr := (isRed_iff _ _ _).1 (red_isRed h6)
  have hra := (red_def h6)
  have a0 := hra.a0; have aM := hra.aM; have c0 := hra.c0; have cM := hra.cM
  have e1 := W.a; have e2 := W.c; have e3 := W.t
  rcases W.is with ⟨u1, u2, u3⟩ | ⟨u1, u2, u3⟩ | ⟨u1, u2, u3⟩ | ⟨u1, u2, u3⟩ | ⟨u1, u2, u3⟩ | ⟨u1, u2, u3⟩ <;> rw [u1, u2, u3, e1, e2, e3] <;> constructor <;> omega
set_option maxRecDepth 100000 in
set_option maxHeartbeats 3200000 in
theorem implIW_w (a b c a1 a2 b1 b2 c1 c2 : Int) (w : World) (hd : isDefB a b c = true) (hn : ndB ⟨(a1, a2), (b1, b2), (c1, c2)⟩ = true) (hs : stpN a b c ⟨(a1, a2), (b1, b2), (c1, c2)⟩ = 0) :
    Calls Try.prog 19 #[.agg #[.int .i64 a, .int .i64 b, .int .i64 c], .agg #[.int .i64 a1, .int .i64 a2, .int .i64 b1, .int .i64 b2, .int .i64 c1, .int .i64 c2]] w fun e w' => e = .returned (.tuple #[.bool true, .bool true]) ∧ Below w.heap.size w w' := by
  have hF := Lib.hid (fun w => iisDef_any a b c w)
  have hN := Lib.hid (fun w => isNode_any a1 a2 b1 b2 c1 c2 w)
  rw [hd] at hF
  rw [hn] at hN
  obtain ⟨ha, hb, hc⟩ := isFm_bd (idef_form hd)
  obtain ⟨_, n1, n2, n3⟩ := nd_yes hn
  have hV := Lib.hid (fun w => values_any a b c a1 a2 b1 b2 c1 c2 w ha hb hc n1 n2 n3)
  have hS := Lib.hid (fun w => (show Calls Try.prog 67 #[.agg #[.int .i64 (vF a b c (a1, a2)), .int .i64 (vF a b c (b1, b2)), .int .i64 (vF a b c (c1, c2))]] w (fun e' w' => e' = .returned (.int .i64 0) ∧ Below w.heap.size w w') from by
    have := steep_any _ _ _ w (at_huge ha hb hc n1.1 n1.2).2 (at_huge ha hb hc n2.1 n2.2).2 (at_huge ha hb hc n3.1 n3.2).2
    have e : stpI (vF a b c (a1, a2)) (vF a b c (b1, b2)) (vF a b c (c1, c2)) = 0 := hs
    rw [e] at this
    exact this))
  clear hd hn hs ha hb hc n1 n2 n3
  go_enter Try.func19, Try.ntmps19
  go_wp2_with (first | (go_at_call 65; (with_reducible refine (hF.out _).mono ?_); rintro e v1 ⟨rfl, hB1⟩; have hZ1 := hB1.size; (try simp at hZ1); have hF1 : Blk v1 (w.heap.size) 35 #[.int .i64 a, .int .i64 b, .int .i64 c] := Blk.call (by (repeat (first | with_reducible assumption | (with_reducible apply Blk.new_at; (first | rfl | (simp; done))) | with_reducible apply Blk.store2 | with_reducible apply Blk.store3 | with_reducible apply Blk.store4 | (with_reducible apply Blk.farp; (first | omega | (simp <;> omega))) | with_reducible apply Blk.allocp | with_reducible apply Blk.drew | with_reducible apply Blk.drewN))) hB1; have cF1 := hF1.cell; have fF1 := hF1.frozen; have lF1 := hF1.lt; have mF1 := Nat.ne_of_gt lF1; have nF1 := Nat.ne_of_lt lF1; have hM1 : Blk v1 (w.heap.size + 1) 39 #[.int .i64 a1, .int .i64 a2, .int .i64 b1, .int .i64 b2, .int .i64 c1, .int .i64 c2] := Blk.call (by (repeat (first | with_reducible assumption | (with_reducible apply Blk.new_at; (first | rfl | (simp; done))) | with_reducible apply Blk.store2 | with_reducible apply Blk.store3 | with_reducible apply Blk.store4 | (with_reducible apply Blk.farp; (first | omega | (simp <;> omega))) | with_reducible apply Blk.allocp | with_reducible apply Blk.drew | with_reducible apply Blk.drewN))) hB1; have cM1 := hM1.cell; have fM1 := hM1.frozen; have lM1 := hM1.lt; have mM1 := Nat.ne_of_gt lM1; have nM1 := Nat.ne_of_lt lM1) | (go_at_call 66; (with_reducible refine (hN.out _).mono ?_); rintro e v2 ⟨rfl, hB2⟩; have hZ2 := hB2.size; (try simp at hZ2); have hF2 : Blk v2 (w.heap.size) 35 #[.int .i64 a, .int .i64 b, .int .i64 c] := Blk.call (by (repeat (first | with_reducible assumption | (with_reducible apply Blk.new_at; (first | rfl | (simp; done))) | with_reducible apply Blk.store2 | with_reducible apply Blk.store3 | with_reducible apply Blk.store4 | (with_reducible apply Blk.farp; (first | omega | (simp <;> omega))) | with_reducible apply Blk.allocp | with_reducible apply Blk.drew | with_reducible apply Blk.drewN))) hB2; have cF2 := hF2.cell; have fF2 := hF2.frozen; have lF2 := hF2.lt; have mF2 := Nat.ne_of_gt lF2; have nF2 := Nat.ne_of_lt lF2; have hM2 : Blk v2 (w.heap.size + 1) 39 #[.int .i64 a1, .int .i64 a2, .int .i64 b1, .int .i64 b2, .int .i64 c1, .int .i64 c2] := Blk.call (by (repeat (first | with_reducible assumption | (with_reducible apply Blk.new_at; (first | rfl | (simp; done))) | with_reducible apply Blk.store2 | with_reducible apply Blk.store3 | with_reducible apply Blk.store4 | (with_reducible apply Blk.farp; (first | omega | (simp <;> omega))) | with_reducible apply Blk.allocp | with_reducible apply Blk.drew | with_reducible apply Blk.drewN))) hB2; have cM2 := hM2.cell; have fM2 := hM2.frozen; have lM2 := hM2.lt; have mM2 := Nat.ne_of_gt lM2; have nM2 := Nat.ne_of_lt lM2) | (go_at_call 68; (with_reducible refine (hV.out _).mono ?_); rintro e v3 ⟨rfl, hB3⟩; have hZ3 := hB3.size; (try simp at hZ3); have hF3 : Blk v3 (w.heap.size) 35 #[.int .i64 a, .int .i64 b, .int .i64 c] := Blk.call (by (repeat (first | with_reducible assumption | (with_reducible apply Blk.new_at; (first | rfl | (simp; done))) | with_reducible apply Blk.store2 | with_reducible apply Blk.store3 | with_reducible apply Blk.store4 | (with_reducible apply Blk.farp; (first | omega | (simp <;> omega))) | with_reducible apply Blk.allocp | with_reducible apply Blk.drew | with_reducible apply Blk.drewN))) hB3; have cF3 := hF3.cell; have fF3 := hF3.frozen; have lF3 := hF3.lt; have mF3 := Nat.ne_of_gt lF3; have nF3 := Nat.ne_of_lt lF3; have hM3 : Blk v3 (w.heap.size + 1) 39 #[.int .i64 a1, .int .i64 a2, .int .i64 b1, .int .i64 b2, .int .i64 c1, .int .i64 c2] := Blk.call (by (repeat (first | with_reducible assumption | (with_reducible apply Blk.new_at; (first | rfl | (simp; done))) | with_reducible apply Blk.store2 | with_reducible apply Blk.store3 | with_reducible apply Blk.store4 | (with_reducible apply Blk.farp; (first | omega | (simp <;> omega))) | with_reducible apply Blk.allocp | with_reducible apply Blk.drew | with_reducible apply Blk.drewN))) hB3; have cM3 := hM3.cell; have fM3 := hM3.frozen; have lM3 := hM3.lt; have mM3 := Nat.ne_of_gt lM3; have nM3 := Nat.ne_of_lt lM3) | (go_at_call 67; (with_reducible refine (hS.out _).mono ?_); rintro e v4 ⟨rfl, hB4⟩; have hZ4 := hB4.size; (try simp at hZ4); have hF4 : Blk v4 (w.heap.size) 35 #[.int .i64 a, .int .i64 b, .int .i64 c] := Blk.call (by (repeat (first | with_reducible assumption | (with_reducible apply Blk.new_at; (first | rfl | (simp; done))) | with_reducible apply Blk.store2 | with_reducible apply Blk.store3 | with_reducible apply Blk.store4 | (with_reducible apply Blk.farp; (first | omega | (simp <;> omega))) | with_reducible apply Blk.allocp | with_reducible apply Blk.drew | with_reducible apply Blk.drewN))) hB4; have cF4 := hF4.cell; have fF4 := hF4.frozen; have lF4 := hF4.lt; have mF4 := Nat.ne_of_gt lF4; have nF4 := Nat.ne_of_lt lF4; have hM4 : Blk v4 (w.heap.size + 1) 39 #[.int .i64 a1, .int .i64 a2, .int .i64 b1, .int .i64 b2, .int .i64 c1, .int .i64 c2] := Blk.call (by (repeat (first | with_reducible assumption | (with_reducible apply Blk.new_at; (first | rfl | (simp; done))) | with_reducible apply Blk.store2 | with_reducible apply Blk.store3 | with_reducible apply Blk.store4 | (with_reducible apply Blk.farp; (first | omega | (simp <;> omega))) | with_reducible apply Blk.allocp | with_reducible apply Blk.drew | with_reducible apply Blk.drewN))) hB4; have cM4 := hM4.cell; have fM4 := hM4.frozen; have lM4 := hM4.lt; have mM4 := Nat.ne_of_gt lM4; have nM4 := Nat.ne_of_lt lM4))
  go_ret2
  exact ⟨rfl, (by repeat (first | with_reducible exact Below.refl _ _ | with_reducible assumption | with_reducible apply Below.drew | with_reducible apply below_drewN | (with_reducible apply below_setp; (first | omega | (simp <;> omega))) | (with_reducible apply below_allocp; (first | omega | (simp <;> omega))) | (with_reducible refine below_viap (by assumption) ?_ ?_; (first | omega | (simp <;> omega)))))⟩
set_option maxRecDepth 100000 in
set_option maxHeartbeats 3200000 in
theorem implNV_w (a b c a1 a2 b1 b2 c1 c2 : Int) (w : World) (hd : isFm a b c = true) (hn : ndB ⟨(a1, a2), (b1, b2), (c1, c2)⟩ = true) :
    Calls Try.prog 20 #[.agg #[.int .i64 a, .int .i64 b, .int .i64 c], .agg #[.int .i64 a1, .int .i64 a2, .int .i64 b1, .int .i64 b2, .int .i64 c1, .int .i64 c2]] w fun e w' => e = .returned (.tuple #[.int .i64 (vF a b c (a1, a2)), .int .i64 (vF a b c (b1, b2)), .int .i64 (vF a b c (c1, c2)), .bool true]) ∧ Below w.heap.size w w' := by
  have hF := Lib.hid (fun w => IsForm_any a b c w)
  have hN := Lib.hid (fun w => isNode_any a1 a2 b1 b2 c1 c2 w)
  rw [hd] at hF
  rw [hn] at hN
  obtain ⟨ha, hb, hc⟩ := isFm_bd hd
  obtain ⟨_, n1, n2, n3⟩ := nd_yes hn
  have hV := Lib.hid (fun w => values_any a b c a1 a2 b1 b2 c1 c2 w ha hb hc n1 n2 n3)
  clear hd hn ha hb hc n1 n2 n3
  generalize vF a b c (a1, a2) = A at *
  generalize vF a b c (b1, b2) = B at *
  generalize vF a b c (c1, c2) = C at *
  go_enter Try.func20, Try.ntmps20
  go_wp2_with (first | (go_at_call 74; (with_reducible refine (hF.out _).mono ?_); rintro e v1 ⟨rfl, hB1⟩; have hZ1 := hB1.size; (try simp at hZ1); have hF1 : Blk v1 (w.heap.size) 35 #[.int .i64 a, .int .i64 b, .int .i64 c] := Blk.call (by (repeat (first | with_reducible assumption | (with_reducible apply Blk.new_at; (first | rfl | (simp; done))) | with_reducible apply Blk.store2 | with_reducible apply Blk.store3 | with_reducible apply Blk.store4 | (with_reducible apply Blk.farp; (first | omega | (simp <;> omega))) | with_reducible apply Blk.allocp | with_reducible apply Blk.drew | with_reducible apply Blk.drewN))) hB1; have cF1 := hF1.cell; have fF1 := hF1.frozen; have lF1 := hF1.lt; have mF1 := Nat.ne_of_gt lF1; have nF1 := Nat.ne_of_lt lF1; have hM1 : Blk v1 (w.heap.size + 1) 39 #[.int .i64 a1, .int .i64 a2, .int .i64 b1, .int .i64 b2, .int .i64 c1, .int .i64 c2] := Blk.call (by (repeat (first | with_reducible assumption | (with_reducible apply Blk.new_at; (first | rfl | (simp; done))) | with_reducible apply Blk.store2 | with_reducible apply Blk.store3 | with_reducible apply Blk.store4 | (with_reducible apply Blk.farp; (first | omega | (simp <;> omega))) | with_reducible apply Blk.allocp | with_reducible apply Blk.drew | with_reducible apply Blk.drewN))) hB1; have cM1 := hM1.cell; have fM1 := hM1.frozen; have lM1 := hM1.lt; have mM1 := Nat.ne_of_gt lM1; have nM1 := Nat.ne_of_lt lM1) | (go_at_call 66; (with_reducible refine (hN.out _).mono ?_); rintro e v2 ⟨rfl, hB2⟩; have hZ2 := hB2.size; (try simp at hZ2); have hF2 : Blk v2 (w.heap.size) 35 #[.int .i64 a, .int .i64 b, .int .i64 c] := Blk.call (by (repeat (first | with_reducible assumption | (with_reducible apply Blk.new_at; (first | rfl | (simp; done))) | with_reducible apply Blk.store2 | with_reducible apply Blk.store3 | with_reducible apply Blk.store4 | (with_reducible apply Blk.farp; (first | omega | (simp <;> omega))) | with_reducible apply Blk.allocp | with_reducible apply Blk.drew | with_reducible apply Blk.drewN))) hB2; have cF2 := hF2.cell; have fF2 := hF2.frozen; have lF2 := hF2.lt; have mF2 := Nat.ne_of_gt lF2; have nF2 := Nat.ne_of_lt lF2; have hM2 : Blk v2 (w.heap.size + 1) 39 #[.int .i64 a1, .int .i64 a2, .int .i64 b1, .int .i64 b2, .int .i64 c1, .int .i64 c2] := Blk.call (by (repeat (first | with_reducible assumption | (with_reducible apply Blk.new_at; (first | rfl | (simp; done))) | with_reducible apply Blk.store2 | with_reducible apply Blk.store3 | with_reducible apply Blk.store4 | (with_reducible apply Blk.farp; (first | omega | (simp <;> omega))) | with_reducible apply Blk.allocp | with_reducible apply Blk.drew | with_reducible apply Blk.drewN))) hB2; have cM2 := hM2.cell; have fM2 := hM2.frozen; have lM2 := hM2.lt; have mM2 := Nat.ne_of_gt lM2; have nM2 := Nat.ne_of_lt lM2) | (go_at_call 68; (with_reducible refine (hV.out _).mono ?_); rintro e v3 ⟨rfl, hB3⟩; have hZ3 := hB3.size; (try simp at hZ3); have hF3 : Blk v3 (w.heap.size) 35 #[.int .i64 a, .int .i64 b, .int .i64 c] := Blk.call (by (repeat (first | with_reducible assumption | (with_reducible apply Blk.new_at; (first | rfl | (simp; done))) | with_reducible apply Blk.store2 | with_reducible apply Blk.store3 | with_reducible apply Blk.store4 | (with_reducible apply Blk.farp; (first | omega | (simp <;> omega))) | with_reducible apply Blk.allocp | with_reducible apply Blk.drew | with_reducible apply Blk.drewN))) hB3; have cF3 := hF3.cell; have fF3 := hF3.frozen; have lF3 := hF3.lt; have mF3 := Nat.ne_of_gt lF3; have nF3 := Nat.ne_of_lt lF3; have hM3 : Blk v3 (w.heap.size + 1) 39 #[.int .i64 a1, .int .i64 a2, .int .i64 b1, .int .i64 b2, .int .i64 c1, .int .i64 c2] := Blk.call (by (repeat (first | with_reducible assumption | (with_reducible apply Blk.new_at; (first | rfl | (simp; done))) | with_reducible apply Blk.store2 | with_reducible apply Blk.store3 | with_reducible apply Blk.store4 | (with_reducible apply Blk.farp; (first | omega | (simp <;> omega))) | with_reducible apply Blk.allocp | with_reducible apply Blk.drew | with_reducible apply Blk.drewN))) hB3; have cM3 := hM3.cell; have fM3 := hM3.frozen; have lM3 := hM3.lt; have mM3 := Nat.ne_of_gt lM3; have nM3 := Nat.ne_of_lt lM3))
  go_region
  go_wp2
  exact bodyPost_ret (v := .tuple #[.int .i64 A, .int .i64 B, .int .i64 C, .bool true]) (by simp [results, Try.results20, go_sem, *]) rfl ⟨rfl, (by repeat (first | with_reducible exact Below.refl _ _ | with_reducible assumption | with_reducible apply Below.drew | with_reducible apply below_drewN | (with_reducible apply below_setp; (first | omega | (simp <;> omega))) | (with_reducible apply below_allocp; (first | omega | (simp <;> omega))) | (with_reducible refine below_viap (by assumption) ?_ ?_; (first | omega | (simp <;> omega)))))⟩
end Go.Proofs.Ytkpiiicefmkhcaa
