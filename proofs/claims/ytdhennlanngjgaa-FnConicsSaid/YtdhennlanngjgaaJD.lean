/- Contract: the normal triple, of the reference. -/
import Derived.Test.YtdhennlanngjgaaJB
import Derived.Test.YtdhennlanngjgaaCA
namespace Go.Proofs.Ytdhennlanngjgaa
open Go.RowKit

section
variable {w : World} {g : Nat} {t : TypeId} {x y z u : Value}
theorem Blk.s0 (h : Blk w g t #[x, y, z]) : Blk (w.setCell ⟨g, 0, none⟩ u) g t #[u, y, z] := h.set_ 0 u
theorem Blk.s1 (h : Blk w g t #[x, y, z]) : Blk (w.setCell ⟨g, 1, none⟩ u) g t #[x, u, z] := h.set_ 1 u
theorem Blk.s2 (h : Blk w g t #[x, y, z]) : Blk (w.setCell ⟨g, 2, none⟩ u) g t #[x, y, u] := h.set_ 2 u
end
theorem own_setJ {w : World} {B : Nat} {e : TypeId} {sz : Nat} {v : Value} {n : Nat} {xs : List Value} {p : Addr} {u : Value} (hk : ∀ k, v.ownBlock = some k → k ≠ p.block) (h : w.ownsRow B e sz v n xs) : (w.setCell p u).ownsRow B e sz v n xs := by
  refine ⟨h.1, ?_⟩
  rcases h.2 with hn | ⟨g, cap, cur, hv, hg, hh, r⟩
  · exact .inl hn
  · refine .inr ⟨g, cap, cur, hv, hg, ?_, r⟩
    rw [Below.heap_setCell _ _ _ _ (hk g (by rw [hv]; rfl))]
    exact hh
theorem TrI.pb {a b c : Int} (h : TrI a b c) : (-160000 ≤ a * b ∧ a * b ≤ 160000) ∧ (-160000 ≤ b * c ∧ b * c ≤ 160000) ∧ (-160000 ≤ a * c ∧ a * c ≤ 160000) ∧ (-64000000 ≤ a * b * c ∧ a * b * c ≤ 64000000) := by
  have h2 := h.prod.2
  obtain ⟨a0, a1, b0, b1, c0, c1⟩ := h
  have f : ∀ x y : Int, (-400 ≤ x ∧ x ≤ 400) → (-400 ≤ y ∧ y ≤ 400) → -160000 ≤ x * y ∧ x * y ≤ 160000 := fun x y hx hy => by
    have e : (x * y).natAbs = x.natAbs * y.natAbs := Int.natAbs_mul x y
    have h2 : x.natAbs * y.natAbs ≤ 400 * 400 := Nat.mul_le_mul (by omega) (by omega)
    omega
  exact ⟨f a b a1 b1, f b c b1 c1, f a c a1 c1, by omega⟩

set_option maxRecDepth 100000 in
set_option maxHeartbeats 12800000 in
theorem cnMake_any (a b c : Int) (w : World) (h : TrI a b c) :
    Calls Try.prog 21 #[.agg #[.int .i64 a, .int .i64 b, .int .i64 c]] w fun e w' => e = .returned (.agg #[.int .i64 (nfE a b c a), .int .i64 (nfE a b c b), .int .i64 (nfE a b c c)]) ∧ Below w.heap.size w w' := by
  have hS := Lib.hid (fun x w => l1Sign_any x w)
  obtain ⟨⟨hab1, hab2⟩, _, _, habc1, habc2⟩ := h.pb
  have hAb := Lib.hid (fun w => l1Abs_any (a * b * c) w (by omega) (by omega))
  have hPr := Lib.hid (fun w => nuPrimes_any ((a * b * c).natAbs : Int) w h.prod.1 h.prod.2)
  obtain ⟨T, hT⟩ : ∃ T, prT a b c = T := ⟨_, rfl⟩
  have hT' : prims ((a * b * c).natAbs : Int) = T := hT
  rw [hT'] at hPr
  have hTl : T.length ≤ 100 := by rw [← hT]; exact h.len
  have hTp := Lib.hid (fun x (hx : x ∈ T) => (⟨h.ge x (by rw [hT]; exact hx), by
    rw [← hT] at hx
    have h1 := ((h.pr x).1 hx)
    have h2 := Int.le_of_dvd (by have := h.prod.1; omega) (Int.dvd_natAbs.2 h1.2)
    have := h.prod.2
    omega⟩ : 2 ≤ x ∧ x ≤ 64000000))
  have hba := Lib.hid (fun k => (hT ▸ h.take_bd h.a0 k : -64000000 ≤ nfL a b c a (T.take k) ∧ nfL a b c a (T.take k) ≤ 64000000))
  have hbb := Lib.hid (fun k => (hT ▸ h.take_bd h.b0 k : -64000000 ≤ nfL a b c b (T.take k) ∧ nfL a b c b (T.take k) ≤ 64000000))
  have hbc := Lib.hid (fun k => (hT ▸ h.take_bd h.c0 k : -64000000 ≤ nfL a b c c (T.take k) ∧ nfL a b c c (T.take k) ≤ 64000000))
  have hfa : Hid (nfE a b c a = nfL a b c a T) := Lib.hid (by unfold nfE; rw [hT])
  have hfb : Hid (nfE a b c b = nfL a b c b T) := Lib.hid (by unfold nfE; rw [hT])
  have hfc : Hid (nfE a b c c = nfL a b c c T) := Lib.hid (by unfold nfE; rw [hT])
  obtain ⟨a0, ⟨a1, a2⟩, b0, ⟨b1, b2⟩, c0, c1, c2⟩ := h
  have hEa := Lib.hid (fun p w (hp : 2 ≤ p) (hp2 : p ≤ 1000000000) => nuExponentA_any a p w a0 (by omega) hp hp2)
  have hEb := Lib.hid (fun p w (hp : 2 ≤ p) (hp2 : p ≤ 1000000000) => nuExponentA_any b p w b0 (by omega) hp hp2)
  have hEc := Lib.hid (fun p w (hp : 2 ≤ p) (hp2 : p ≤ 1000000000) => nuExponentA_any c p w c0 (by omega) hp hp2)
  generalize ((a * b * c).natAbs : Int) = y at hAb hPr
  clear hT hT'
  rw [hfa.out, hfb.out, hfc.out]
  clear hfa hfb hfc
  go_enter Try.func21, Try.ntmps21
  go_wp2
  refine wp_region_calm 9 (Below (w.heap.size + 3) _) (by kernel_rfl) (by kernel_rfl) ((Below.refl _ _).drew) ?_
  simp only [List.take_succ_cons, List.take_zero, List.drop_succ_cons, List.drop_zero]
  repeat (first | (apply wpCalm_go; go_simp; (intro w' hw' hcc hff; go_simp; first | exact rfl | (refine (hS.out _ _).mono ?_; rintro e w1 ⟨rfl, hb⟩; exact ⟨rfl, calm_call_same hw' hb⟩)); (intro K hK; go_simp; refine hK _ ?_; clear hK K)) | (apply wpCalm_skip; go_simp; (try (focus (simp [undef]; done))); (intro K hK; go_simp; refine hK _ ?_; clear hK K)))
  refine wpCalm_nil ?_
  intro w1 hw1
  have hcc := (calm_cells hw1).1
  have hff := (calm_cells hw1).2
  have hss := calm_size hw1
  have hsz := hw1.size
  (try simp at hsz)
  have hL1 : Blk w1 (w.heap.size + 2) 3 #[.int .i64 a, .int .i64 b, .int .i64 c] := Blk.below (by (repeat (first | with_reducible assumption | (with_reducible apply Blk.new_at; (first | rfl | (simp; done))) | with_reducible apply Blk.store3 | with_reducible apply Blk.store4 | (with_reducible apply Blk.farp; (first | omega | (simp <;> omega))) | with_reducible apply Blk.allocp | with_reducible apply Blk.drew | with_reducible apply Blk.drewN))) hw1 (by omega)
  have hA1 : Blk w1 w.heap.size 25 #[.int .i64 a, .int .i64 b, .int .i64 c] := Blk.below (by (repeat (first | with_reducible assumption | (with_reducible apply Blk.new_at; (first | rfl | (simp; done))) | with_reducible apply Blk.store3 | with_reducible apply Blk.store4 | (with_reducible apply Blk.farp; (first | omega | (simp <;> omega))) | with_reducible apply Blk.allocp | with_reducible apply Blk.drew | with_reducible apply Blk.drewN))) hw1 (by omega)
  have hR1 : Blk w1 (w.heap.size + 1) 25 #[.int .i64 0, .int .i64 0, .int .i64 0] := Blk.below (by (repeat (first | with_reducible assumption | (with_reducible apply Blk.new_at; (first | rfl | (simp; done))) | with_reducible apply Blk.store3 | with_reducible apply Blk.store4 | (with_reducible apply Blk.farp; (first | omega | (simp <;> omega))) | with_reducible apply Blk.allocp | with_reducible apply Blk.drew | with_reducible apply Blk.drewN))) hw1 (by omega)
  clear hcc hff hss
  have cA1 := hA1.cell; have fA1 := hA1.frozen; have lA1 := hA1.lt
  go_wp2_with (first
    | (go_at_call 35; (with_reducible refine (hAb.out _).mono ?_); rintro e v ⟨rfl, rfl⟩)
    | (go_at_call 47; refine (hPr.out _).mono ?_; rintro e w2 ⟨vt, rfl, hot, hB2⟩; obtain ⟨bt, ct, rfl⟩ := own_shape hot; have hZ2 := hB2.size; (try simp at hZ2)))
  obtain ⟨O, hO⟩ : ∃ O : Nat, O = w1.heap.size := ⟨_, rfl⟩
  obtain ⟨B, hB⟩ : ∃ B : Nat, B = w1.heap.size + 1 := ⟨_, rfl⟩
  have hOw : w.heap.size + 2 < O := by omega
  have hot' : w2.ownsRow B 3 1 (.slice bt T.length ct) T.length (cellsI T) := by rw [hB]; simpa using hot
  have hb2 : Below w.heap.size w w2 := (by repeat (first | with_reducible exact Below.refl _ _ | with_reducible assumption | with_reducible apply Below.drew | with_reducible apply below_drewN | (with_reducible apply below_setp; (first | omega | (simp <;> omega))) | (with_reducible apply below_allocp; (first | omega | (simp <;> omega))) | (with_reducible refine below_viap (by assumption) ?_ ?_; (first | omega | (simp <;> omega)))))
  have hO2 : Blk w2 O 3 #[.int .i64 a.sign, .int .i64 b.sign, .int .i64 c.sign] := by rw [hO]; exact Blk.call (by (repeat (first | with_reducible assumption | (with_reducible apply Blk.new_at; (first | rfl | (simp; done))) | with_reducible apply Blk.store3 | with_reducible apply Blk.store4 | (with_reducible apply Blk.farp; (first | omega | (simp <;> omega))) | with_reducible apply Blk.allocp | with_reducible apply Blk.drew | with_reducible apply Blk.drewN))) hB2
  have hL2 : Blk w2 (w.heap.size + 2) 3 #[.int .i64 a, .int .i64 b, .int .i64 c] := Blk.call (by (repeat (first | with_reducible assumption | (with_reducible apply Blk.new_at; (first | rfl | (simp; done))) | with_reducible apply Blk.store3 | with_reducible apply Blk.store4 | (with_reducible apply Blk.farp; (first | omega | (simp <;> omega))) | with_reducible apply Blk.allocp | with_reducible apply Blk.drew | with_reducible apply Blk.drewN))) hB2
  have hR2 : Blk w2 (w.heap.size + 1) 25 #[.int .i64 0, .int .i64 0, .int .i64 0] := Blk.call (by (repeat (first | with_reducible assumption | (with_reducible apply Blk.new_at; (first | rfl | (simp; done))) | with_reducible apply Blk.store3 | with_reducible apply Blk.store4 | (with_reducible apply Blk.farp; (first | omega | (simp <;> omega))) | with_reducible apply Blk.allocp | with_reducible apply Blk.drew | with_reducible apply Blk.drewN))) hB2
  have hlO : O < w2.heap.size := hO2.lt
  have hBO : O < B := by omega
  rw [← hO]
  clear hot hB2 hZ2 hL1 hA1 hR1 cA1 fA1 lA1 hO hB hw1 hsz
  obtain ⟨m, hm⟩ : ∃ m, T.length = m := ⟨_, rfl⟩
  have Hm := Lib.hid hm
  rw [hm] at hot' ⊢
  clear hm
  go_loopw [40] (fun vi wr => ∃ k : Nat, vi = .int .i64 k ∧ k ≤ m ∧ Hid (Blk wr O 3 #[.int .i64 (nfL a b c a (T.take k)), .int .i64 (nfL a b c b (T.take k)), .int .i64 (nfL a b c c (T.take k))]) ∧ Hid (Blk wr (w.heap.size + 2) 3 #[.int .i64 a, .int .i64 b, .int .i64 c]) ∧
      Hid (Blk wr (w.heap.size + 1) 25 #[.int .i64 0, .int .i64 0, .int .i64 0]) ∧ wr.ownsRow B 3 1 (.slice bt m ct) m (cellsI T) ∧ Below w.heap.size w wr) (fun vi _ => m - (intOf vi).toNat)
  case atStart => exact ⟨0, rfl, Nat.zero_le _, Lib.hid (by simpa [nfL] using hO2), Lib.hid hL2, Lib.hid hR2, hot', hb2⟩
  case round =>
    clear hO2 hL2 hR2 hot' hb2
    obtain ⟨k, rfl, hk, hO1, hL1, hR1, hot, hbel⟩ := hrel
    have hz := hbel.size
    have lO := hO1.out.lt
    by_cases hlt : k < m
    · have hkT : k < T.length := by rw [Hm.out]; exact hlt
      obtain ⟨g, rfl, hg, e1⟩ := own_elemI (by rw [Hm.out]; exact hot) hkT
      obtain ⟨p2, p3⟩ := hTp.out _ (List.getElem_mem hkT)
      have ba := hba.out (k + 1)
      have bb := hbb.out (k + 1)
      have bc := hbc.out (k + 1)
      have sa := hba.out k
      have sb := hbb.out k
      have sc := hbc.out k
      rw [nfL_next hkT] at ba bb bc
      have na := Lib.hid (nfL_next (a := a) (b := b) (c := c) (x := a) hkT)
      have nb := Lib.hid (nfL_next (a := a) (b := b) (c := c) (x := b) hkT)
      have nc := Lib.hid (nfL_next (a := a) (b := b) (c := c) (x := c) hkT)
      generalize nfL a b c a (T.take k) = ra at *
      generalize nfL a b c b (T.take k) = rb at *
      generalize nfL a b c c (T.take k) = rc at *
      generalize T[k] = p at *
      have hEa2 := Lib.hid (fun w => hEa.out p w p2 (by omega))
      have hEb2 := Lib.hid (fun w => hEb.out p w p2 (by omega))
      have hEc2 := Lib.hid (fun w => hEc.out p w p2 (by omega))
      have qa : (exA p a).tmod 2 = odE p a := by rw [odE_exA, Int.tmod_eq_emod_of_nonneg (exA_nn p a)]
      have qb : (exA p b).tmod 2 = odE p b := by rw [odE_exA, Int.tmod_eq_emod_of_nonneg (exA_nn p b)]
      have qc : (exA p c).tmod 2 = odE p c := by rw [odE_exA, Int.tmod_eq_emod_of_nonneg (exA_nn p c)]
      have ma := odE_exA p a
      have mb := odE_exA p b
      have mc := odE_exA p c
      have na0 := exA_nn p a
      have nb0 := exA_nn p b
      have nc0 := exA_nn p c
      have cO := hO1.out.cell; have fO := hO1.out.frozen
      have cL := hL1.out.cell; have fL := hL1.out.frozen; have lL := hL1.out.lt
      rcases odE_two p a with pa | pa <;> rcases odE_two p b with pb | pb <;> rcases odE_two p c with pc | pc
      all_goals
        first
          | have ka : cdE a b c a p = true := by simp [cdE, mnE, pa, pb, pc]
          | have ka : cdE a b c a p = false := by simp [cdE, mnE, pa, pb, pc]
        first
          | have kb : cdE a b c b p = true := by simp [cdE, mnE, pa, pb, pc]
          | have kb : cdE a b c b p = false := by simp [cdE, mnE, pa, pb, pc]
        first
          | have kc : cdE a b c c p = true := by simp [cdE, mnE, pa, pb, pc]
          | have kc : cdE a b c c p = false := by simp [cdE, mnE, pa, pb, pc]
        rw [pa] at qa ma
        rw [pb] at qb mb
        rw [pc] at qc mc
        have ma2 := ma.symm
        have mb2 := mb.symm
        have mc2 := mc.symm
        have na2 := na.out
        have nb2 := nb.out
        have nc2 := nc.out
        simp only [nfS, ka, Bool.false_eq_true, if_true, if_false] at ba na2
        simp only [nfS, kb, Bool.false_eq_true, if_true, if_false] at bb nb2
        simp only [nfS, kc, Bool.false_eq_true, if_true, if_false] at bc nc2
        have na3 := Lib.hid na2
        have nb3 := Lib.hid nb2
        have nc3 := Lib.hid nc2
        obtain ⟨ba1, ba2⟩ := ba
        obtain ⟨bb1, bb2⟩ := bb
        obtain ⟨bc1, bc2⟩ := bc
        generalize exA p a = ea at *
        generalize exA p b = eb at *
        generalize exA p c = ec at *
        clear ma mb mc na nb nc na2 nb2 nc2 ka kb kc pa pb pc hEa hEb hEc
        go_wp2
        refine wp_loop_rounds 4 ?_
        rw [rounds_succ]
        go_wp2_with (first | (go_at_call 48; (with_reducible refine (hEa2.out _).mono ?_); rintro e v ⟨rfl, rfl⟩) | (go_at_call 48; (with_reducible refine (hEb2.out _).mono ?_); rintro e v ⟨rfl, rfl⟩) | (go_at_call 48; (with_reducible refine (hEc2.out _).mono ?_); rintro e v ⟨rfl, rfl⟩))
        rw [rounds_succ]
        go_wp2_with (first | (go_at_call 48; (with_reducible refine (hEa2.out _).mono ?_); rintro e v ⟨rfl, rfl⟩) | (go_at_call 48; (with_reducible refine (hEb2.out _).mono ?_); rintro e v ⟨rfl, rfl⟩) | (go_at_call 48; (with_reducible refine (hEc2.out _).mono ?_); rintro e v ⟨rfl, rfl⟩))
        rw [rounds_succ]
        go_wp2_with (first | (go_at_call 48; (with_reducible refine (hEa2.out _).mono ?_); rintro e v ⟨rfl, rfl⟩) | (go_at_call 48; (with_reducible refine (hEb2.out _).mono ?_); rintro e v ⟨rfl, rfl⟩) | (go_at_call 48; (with_reducible refine (hEc2.out _).mono ?_); rintro e v ⟨rfl, rfl⟩))
        rw [rounds_succ]
        go_wp2_with (first | (go_at_call 48; (with_reducible refine (hEa2.out _).mono ?_); rintro e v ⟨rfl, rfl⟩) | (go_at_call 48; (with_reducible refine (hEb2.out _).mono ?_); rintro e v ⟨rfl, rfl⟩) | (go_at_call 48; (with_reducible refine (hEc2.out _).mono ?_); rintro e v ⟨rfl, rfl⟩))
        refine wp_loop_rounds 4 ?_
        rw [rounds_succ]
        go_wp2_with (first | (go_at_call 48; (with_reducible refine (hEa2.out _).mono ?_); rintro e v ⟨rfl, rfl⟩) | (go_at_call 48; (with_reducible refine (hEb2.out _).mono ?_); rintro e v ⟨rfl, rfl⟩) | (go_at_call 48; (with_reducible refine (hEc2.out _).mono ?_); rintro e v ⟨rfl, rfl⟩))
        rw [rounds_succ]
        go_wp2_with (first | (go_at_call 48; (with_reducible refine (hEa2.out _).mono ?_); rintro e v ⟨rfl, rfl⟩) | (go_at_call 48; (with_reducible refine (hEb2.out _).mono ?_); rintro e v ⟨rfl, rfl⟩) | (go_at_call 48; (with_reducible refine (hEc2.out _).mono ?_); rintro e v ⟨rfl, rfl⟩))
        rw [rounds_succ]
        go_wp2_with (first | (go_at_call 48; (with_reducible refine (hEa2.out _).mono ?_); rintro e v ⟨rfl, rfl⟩) | (go_at_call 48; (with_reducible refine (hEb2.out _).mono ?_); rintro e v ⟨rfl, rfl⟩) | (go_at_call 48; (with_reducible refine (hEc2.out _).mono ?_); rintro e v ⟨rfl, rfl⟩))
        rw [rounds_succ]
        go_wp2_with (first | (go_at_call 48; (with_reducible refine (hEa2.out _).mono ?_); rintro e v ⟨rfl, rfl⟩) | (go_at_call 48; (with_reducible refine (hEb2.out _).mono ?_); rintro e v ⟨rfl, rfl⟩) | (go_at_call 48; (with_reducible refine (hEc2.out _).mono ?_); rintro e v ⟨rfl, rfl⟩))
        go_roundw
        case rel => exact ⟨k + 1, by go_num, hlt, Lib.hid (by rw [na3.out, nb3.out, nc3.out]; repeat (first | exact hO1.out | exact hL1.out | exact hR1.out | with_reducible apply Blk.s0 | with_reducible apply Blk.s1 | with_reducible apply Blk.s2 | (with_reducible apply Blk.farp; (first | omega | (simp <;> omega))) | with_reducible apply Blk.allocp)), Lib.hid (by repeat (first | exact hO1.out | exact hL1.out | exact hR1.out | with_reducible apply Blk.s0 | with_reducible apply Blk.s1 | with_reducible apply Blk.s2 | (with_reducible apply Blk.farp; (first | omega | (simp <;> omega))) | with_reducible apply Blk.allocp)), Lib.hid (by repeat (first | exact hO1.out | exact hL1.out | exact hR1.out | with_reducible apply Blk.s0 | with_reducible apply Blk.s1 | with_reducible apply Blk.s2 | (with_reducible apply Blk.farp; (first | omega | (simp <;> omega))) | with_reducible apply Blk.allocp)), by repeat (first | exact hot | (refine own_setJ (fun q hq => by have := own_ge hot q hq; (show q ≠ O); omega) ?_)), (by repeat (first | with_reducible exact Below.refl _ _ | with_reducible assumption | with_reducible apply Below.drew | with_reducible apply below_drewN | (with_reducible apply below_setp; (first | omega | (simp <;> omega))) | (with_reducible apply below_allocp; (first | omega | (simp <;> omega))) | (with_reducible refine below_viap (by assumption) ?_ ?_; (first | omega | (simp <;> omega)))))⟩
        case measure => simp [intOf]; omega
    · have e : k = m := by omega
      have hTk : T.take k = T := by rw [List.take_of_length_le]; rw [Hm.out]; omega
      rw [hTk] at hO1
      have cO := hO1.out.cell; have fO := hO1.out.frozen
      have cR := hR1.out.cell; have fR := hR1.out.frozen; have lR := hR1.out.lt
      clear hTk hba hbb hbc
      obtain ⟨xa, hxa⟩ : ∃ x, nfL a b c a T = x := ⟨_, rfl⟩
      obtain ⟨xb, hxb⟩ : ∃ x, nfL a b c b T = x := ⟨_, rfl⟩
      obtain ⟨xc, hxc⟩ : ∃ x, nfL a b c c T = x := ⟨_, rfl⟩
      rw [hxa, hxb, hxc] at cO
      have HX := Lib.hid (show (.agg #[.int .i64 xa, .int .i64 xb, .int .i64 xc] : Value) = .agg #[.int .i64 (nfL a b c a T), .int .i64 (nfL a b c b T), .int .i64 (nfL a b c c T)] by rw [hxa, hxb, hxc])
      clear hxa hxb hxc hO1
      subst e
      go_wp2
      go_region
      go_wp2
      exact bodyPost_ret (v := .agg #[.int .i64 xa, .int .i64 xb, .int .i64 xc]) (by simp [results, Try.results21, go_sem, *]) rfl ⟨by rw [HX.out], (by repeat (first | with_reducible exact Below.refl _ _ | with_reducible assumption | with_reducible apply Below.drew | with_reducible apply below_drewN | (with_reducible apply below_setp; (first | omega | (simp <;> omega))) | (with_reducible apply below_allocp; (first | omega | (simp <;> omega))) | (with_reducible refine below_viap (by assumption) ?_ ?_; (first | omega | (simp <;> omega)))))⟩
end Go.Proofs.Ytdhennlanngjgaa
