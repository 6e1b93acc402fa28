/- FnConics returns true: every drawn triple has a solution exactly if the Hilbert symbols of -A*C and -B*C are 1 at all places, the forbidding place is one of the others, and the least solution of a normal triple is within the bounds. Conditions: none. (written by gen_L55.py) -/
import Derived.Test.YtdhennlanngjgaaJW
import Derived.Test.YtdhennlanngjgaaJV
import Derived.Test.YtdhennlanngjgaaW2
namespace Go.Proofs.Ytdhennlanngjgaa
open Go.RowKit Go.ChangeShapes Go.WideShapes Go.ChangeAt Go.Joins

/-- What the places tell of a triple. -/
theorem con_places {a b c x : Int} {s ok ok2 : Bool} {K : List Int} (h : IsR a b c s ok) (hok : ok = true) (hf : FpR a b c x ok2) (hm : ∀ y, y ∈ K ↔ (y = 0 ∨ y = 2) ∨ ∃ n ∈ [-(a * c), -(b * c)], y ∈ prims (n.natAbs : Int)) :
    (s = true ∧ ok2 = false ∧ spL (-(a * c)) (-(b * c)) K = []) ∨ (s = false ∧ ok2 = true ∧ x ∈ spL (-(a * c)) (-(b * c)) K) := by
  subst hok
  rcases h with ⟨_, _, h⟩ | ⟨t, tn, rfl, _⟩
  · cases h
  have pz := t.pb
  have ac0 : a * c ≠ 0 := Int.mul_ne_zero t.a0 t.c0
  have bc0 : b * c ≠ 0 := Int.mul_ne_zero t.b0 t.c0
  have hmem : ∀ y, y ∈ K ↔ (y = 0 ∨ y = 2) ∨ (PrI y ∧ (y ∣ a * c ∨ y ∣ b * c)) := fun y => by
    rw [hm y]
    simp only [List.mem_cons, List.not_mem_nil, or_false, exists_eq_or_imp, exists_eq_left]
    rw [mem_prims (by omega) (by omega), mem_prims (by omega) (by omega), Int.dvd_natAbs, Int.dvd_natAbs, Int.dvd_neg, Int.dvd_neg]
    constructor
    · rintro (h | ⟨h1, h2⟩ | ⟨h1, h2⟩)
      · exact .inl h
      · exact .inr ⟨h1, .inl h2⟩
      · exact .inr ⟨h1, .inr h2⟩
    · rintro (h | ⟨h1, h2 | h2⟩)
      · exact .inl h
      · exact .inr (.inl ⟨h1, h2⟩)
      · exact .inr (.inr ⟨h1, h2⟩)
  have e := plF_nf t
  by_cases hp : plF a b c < 0
  · left
    refine ⟨decide_eq_true hp, ?_, ?_⟩
    · rcases hf with ⟨h1, _⟩ | ⟨_, h1, _⟩ | ⟨_, _, _, _, h1⟩ | ⟨_, _, h1, _⟩
      · rw [trB_iff.2 t] at h1; cases h1
      · rw [trB_iff.2 tn] at h1; cases h1
      · exact h1
      · omega
    · unfold spL
      rw [List.filter_eq_nil_iff]
      intro y hy
      rw [e] at hp
      have := hl_all t tn hp (p := y) (by
        rcases (hmem y).1 hy with (h | h) | ⟨h, _⟩
        · exact .inl h
        · exact .inr (.inl h)
        · exact .inr (.inr h))
      rw [this]
      decide
  · right
    refine ⟨decide_eq_false hp, ?_, ?_⟩
    · rcases hf with ⟨h1, _⟩ | ⟨_, h1, _⟩ | ⟨_, _, h1, _⟩ | ⟨_, _, _, _, h1⟩
      · rw [trB_iff.2 t] at h1; cases h1
      · rw [trB_iff.2 tn] at h1; cases h1
      · exact absurd h1 hp
      · exact h1
    · have hx : x = plF a b c := by
        rcases hf with ⟨h1, _⟩ | ⟨_, h1, _⟩ | ⟨_, _, h1, _⟩ | ⟨_, _, _, h1, _⟩
        · rw [trB_iff.2 t] at h1; cases h1
        · rw [trB_iff.2 tn] at h1; cases h1
        · exact absurd h1 hp
        · exact h1
      rw [e] at hp hx
      obtain ⟨h1, h2⟩ := hl_bad t tn hp
      unfold spL
      rw [List.mem_filter, hx, h1]
      refine ⟨(hmem _).2 ?_, by decide⟩
      rcases h2 with h2 | h2
      · exact .inl (.inl h2)
      · exact .inr h2
theorem spL_len {a b c : Int} {K : List Int} (hk : K.Pairwise (· < ·)) (hm : ∀ y, y ∈ K ↔ (y = 0 ∨ y = 2) ∨ ∃ n ∈ [-(a * c), -(b * c)], y ∈ prims (n.natAbs : Int)) (t : TrI a b c) : (spL (-(a * c)) (-(b * c)) K).length ≤ 1000000 := by
  have pz := t.pb
  have ac0 : a * c ≠ 0 := Int.mul_ne_zero t.a0 t.c0
  have bc0 : b * c ≠ 0 := Int.mul_ne_zero t.b0 t.c0
  have hnd : K.Nodup := hk.imp (fun h => Int.ne_of_lt h)
  have hsub : K ⊆ pkL [-(a * c), -(b * c)] := fun x h => pk_mem.2 ((hm x).1 h)
  have h1 := hnd.length_le_of_subset hsub
  have h2 := pk_len (xs := [-(a * c), -(b * c)]) (fun x h => by
    simp only [List.mem_cons, List.not_mem_nil, or_false] at h
    rcases h with rfl | rfl <;> omega)
  have h3 : (spL (-(a * c)) (-(b * c)) K).length ≤ K.length := List.length_filter_le _ _
  simp at h2
  omega
/-- What the search tells of a triple. -/
theorem con_search {A B C x y z : Int} {one s ok : Bool} (h : LsW A B C x y z one) (hi : IsR A B C s ok) :
    (trB A B C && nmB A B C) = false ∧ one = false ∨ trB A B C = true ∧ nmB A B C = true ∧ ok = true ∧ s = one := by
  rcases h with ⟨h1, _, _, _, h2⟩ | ⟨t, h1, h2⟩
  · exact .inl ⟨h1, h2⟩
  · have N := (nmB_iff t).1 h1
    have tn : TrI (nfE A B C A) (nfE A B C B) (nfE A B C C) := by rw [N.self (.inl rfl), N.self (.inr (.inl rfl)), N.self (.inr (.inr rfl))]; exact t
    rcases hi with ⟨k, _⟩ | ⟨_, _, k1, k2⟩
    · rw [ntB_of t tn] at k; cases k
    · exact .inr ⟨trB_iff.2 t, h1, k2, by rw [k1, h2.ok_iff N, N.plF]⟩
theorem con_bounds {A B C x y z : Int} (h : LsW A B C x y z true) : TrI A B C ∧ (0 ≤ x ∧ x ≤ 12000) ∧ (0 ≤ y ∧ y ≤ 400) ∧ (0 ≤ z ∧ z ≤ 400) ∧ A * (x * x) + B * (y * y) + C * (z * z) = 0 ∧ nzB x y z = true ∧ x * x ≤ ((B * C).natAbs : Int) ∧ y * y ≤ ((A * C).natAbs : Int) ∧ z * z ≤ ((A * B).natAbs : Int) := by
  rcases h with ⟨_, _, _, _, h⟩ | ⟨t, _, h⟩
  · cases h
  rcases h with ⟨_, ⟨y0, z0⟩, z1, y1, hb, rfl, _⟩ | ⟨h, _⟩
  · obtain ⟨e, hm, hx, _⟩ := ls_sol hb
    have pz := t.pb
    have y4 := sq_400 (nab pz.2.2.1) y1
    have z4 := sq_400 (nab pz.1) z1
    refine ⟨t, thX_bd t ⟨y0, y4⟩ ⟨z0, z4⟩, ⟨y0, y4⟩, ⟨z0, z4⟩, e, ?_, hx, y1, z1⟩
    cases hz : nzB (thX A B C y z) y z with
    | true => rfl
    | false => exact absurd (gc3_iff.2 hm) (gc3_nz hz)
  · cases h

set_option maxRecDepth 100000 in
set_option maxHeartbeats 25600000 in
theorem walk_FnConics (zs es : List Int) (v u : Value) (w : World) (hz : ReB zs v w) (he : ReB es u w) :
    Calls Try.prog 3 #[v, u] w fun e w' => e = .returned (.bool true) ∧ Below w.heap.size w w' := by
  have HZ := Lib.hid hz
  have HY := Lib.hid he
  obtain ⟨A0, c1', rfl⟩ := hz.shape
  obtain ⟨A2, c2', rfl⟩ := he.shape
  clear hz he
  by_cases hbig : zs.length ≤ 1048576 ∧ es.length ≤ 1048576 - zs.length
  · have Hb := Lib.hid (fun w => big_no A0 A2 zs.length es.length c1' c2' w hbig.1 hbig.2)
    have HR := Lib.hid (HZ.out.rd hbig.1)
    have HE := Lib.hid (fun w' (hb : Below w.heap.size w w') => (HY.out.rd (by omega)).below hb (Nat.le_refl _))
    clear HZ HY hbig
    go_enter Try.func3, Try.ntmps3
    go_wp2_with (go_at_call 4; (with_reducible refine (Hb.out _).mono ?_); rintro e v ⟨rfl, rfl⟩)
    refine (drawSo_any zs _ _ _ HR.out (Nat.le_refl _)).mono ?_
    rintro e v1 ⟨⟨a, b, c⟩, rfl, h3, hb1⟩
    have hz1 := hb1.size
    obtain ⟨wa, wb, wc'⟩ : W64 a ∧ W64 b ∧ W64 c := h3
    clear HR Hb
    obtain ⟨s, ok, hI0⟩ := isR_ex a b c
    obtain ⟨p, two, hF0⟩ := fpR_ex a b c
    have HI := Lib.hid (fun w => implIS_any a b c s ok w wa wb wc' hI0)
    have HS := Lib.hid (fun w => specIS_any a b c s ok w hI0)
    have HF := Lib.hid (fun w => implFP_any a b c p two w wa wb wc' hF0)
    have HC := Lib.hid (fun (h : ok = true) K hm => con_places (K := K) hI0 h hF0 hm)
    have HT := Lib.hid (fun h : ok = true => (by
      rcases hI0 with ⟨_, _, k⟩ | ⟨t, _⟩
      · rw [h] at k; cases k
      · exact t : TrI a b c))
    have e1 : (ok != ok) = false := by cases ok <;> rfl
    have e2 : (s != s) = false := by cases s <;> rfl
    clear hI0 hF0 wa wb wc'
    go_wp2_with fail
    refine (HI.out _).mono ?_
    rintro e v2 ⟨rfl, hc2⟩
    have hz2 := hc2.size
    (try simp at hz2)
    have hT2 : Blk v2 (v1.heap.size) 25 #[.int .i64 a, .int .i64 b, .int .i64 c] := Blk.call (by (repeat (first | with_reducible assumption | (with_reducible apply Blk.new_at; (first | rfl | (simp; done))) | with_reducible apply Blk.store3 | with_reducible apply Blk.store4 | (with_reducible apply Blk.farp; (first | omega | (simp <;> omega))) | with_reducible apply Blk.allocp | with_reducible apply Blk.drew | with_reducible apply Blk.drewN))) hc2
    have cT2 := hT2.cell; have fT2 := hT2.frozen; have lT2 := hT2.lt; have mT2 := Nat.ne_of_gt lT2; have nT2 := Nat.ne_of_lt lT2
    have hb2 : Below w.heap.size w v2 := (by repeat (first | with_reducible exact Below.refl _ _ | with_reducible assumption | with_reducible apply Below.drew | with_reducible apply below_drewN | (with_reducible apply below_setp; (first | omega | (simp <;> omega))) | (with_reducible apply below_allocp; (first | omega | (simp <;> omega))) | (with_reducible refine below_viap (by assumption) ?_ ?_; (first | omega | (simp <;> omega)))))
    go_wp2_with fail
    refine (HS.out _).mono ?_
    rintro e v3 ⟨rfl, hc3⟩
    have hz3 := hc3.size
    (try simp at hz3)
    have hT3 : Blk v3 (v1.heap.size) 25 #[.int .i64 a, .int .i64 b, .int .i64 c] := Blk.call (by (repeat (first | with_reducible assumption | (with_reducible apply Blk.new_at; (first | rfl | (simp; done))) | with_reducible apply Blk.store3 | with_reducible apply Blk.store4 | (with_reducible apply Blk.farp; (first | omega | (simp <;> omega))) | with_reducible apply Blk.allocp | with_reducible apply Blk.drew | with_reducible apply Blk.drewN))) hc3
    have cT3 := hT3.cell; have fT3 := hT3.frozen; have lT3 := hT3.lt; have mT3 := Nat.ne_of_gt lT3; have nT3 := Nat.ne_of_lt lT3
    have hb3 : Below w.heap.size w v3 := (by repeat (first | with_reducible exact Below.refl _ _ | with_reducible assumption | with_reducible apply Below.drew | with_reducible apply below_drewN | (with_reducible apply below_setp; (first | omega | (simp <;> omega))) | (with_reducible apply below_allocp; (first | omega | (simp <;> omega))) | (with_reducible refine below_viap (by assumption) ?_ ?_; (first | omega | (simp <;> omega)))))
    clear hT2 cT2 fT2 lT2 mT2 nT2
    go_upto_if 51 with fail
    go_cut [] from 51 to 96 (fun wx => Below v3.heap.size v3 wx)
    case first =>
      clear HE HI HS e1 e2
      cases ok with
      | false =>
        go_wp2_with fail
        go_meet
        exact Below.refl _ _
      | true =>
        have t := HT.out rfl
        obtain ⟨_, ⟨bc1, bc2⟩, ⟨ac1, ac2⟩, _⟩ := t.pb
        have ac0 : a * c ≠ 0 := Int.mul_ne_zero t.a0 t.c0
        have bc0 : b * c ≠ 0 := Int.mul_ne_zero t.b0 t.c0
        have HP := Lib.hid (fun w => symPl_any (-(a * c)) (-(b * c)) w (by omega) (by omega) (by omega) (by omega))
        have n1 : wrap64 (-a) = -a := IntWalk.wrap64_in _ (by have := t.a1; omega)
        have n2 : wrap64 (-b) = -b := IntWalk.wrap64_in _ (by have := t.b1; omega)
        have n3 : wrap64 (-a * c) = -(a * c) := by rw [Int.neg_mul]; exact IntWalk.wrap64_in _ (by omega)
        have n4 : wrap64 (-b * c) = -(b * c) := by rw [Int.neg_mul]; exact IntWalk.wrap64_in _ (by omega)
        have n5 : wrap64 (-(a * c)) = -(a * c) := IntWalk.wrap64_in _ (by omega)
        have n6 : wrap64 (-(b * c)) = -(b * c) := IntWalk.wrap64_in _ (by omega)
        have HN := Lib.hid (And.intro n1 (And.intro n2 (And.intro n3 (And.intro n4 (And.intro n5 n6)))))
        clear t ac0 bc0 bc1 bc2 ac1 ac2 n1 n2 n3 n4 n5 n6
        obtain ⟨n1, n2, n3, n4, n5, n6⟩ := HN.out
        have m1 : -a * c = -(a * c) := Int.neg_mul _ _
        have m2 : -b * c = -(b * c) := Int.neg_mul _ _
        go_wp2_with fail
        refine (HP.out _).mono ?_
        rintro e v4 ⟨K, vl, hK1, hK2, rfl, ho4, hc4⟩
        have hz4 := hc4.size
        obtain ⟨bl, cl, rfl⟩ := own_shape ho4
        have hT4 : Blk v4 v1.heap.size 25 #[.int .i64 a, .int .i64 b, .int .i64 c] := Blk.call (by (repeat (first | with_reducible assumption | (with_reducible apply Blk.new_at; (first | rfl | (simp; done))) | with_reducible apply Blk.store3 | with_reducible apply Blk.store4 | (with_reducible apply Blk.farp; (first | omega | (simp <;> omega))) | with_reducible apply Blk.allocp | with_reducible apply Blk.drew | with_reducible apply Blk.drewN))) hc4
        have cT4 := hT4.cell; have fT4 := hT4.frozen; have lT4 := hT4.lt
        have hb4 : Below v3.heap.size v3 v4 := below_via (Below.refl _ _) hc4 (Nat.le_refl _)
        have hKl : (spL (-(a * c)) (-(b * c)) K).length ≤ 1000000 := spL_len hK1 hK2 (HT.out (by first | rfl | trivial))
        have hcp := HC.out (by first | rfl | trivial) K hK2
        clear n1 n2 n3 n4 n5 n6 m1 m2 HN HP hK1 hK2 hc4
        generalize spL (-(a * c)) (-(b * c)) K = L at *
        go_wp2_with fail
        refine (HF.out _).mono ?_
        rintro e v5 ⟨rfl, hc5⟩
        have hz5 := hc5.size
        have hb5 : Below v3.heap.size v3 v5 := below_via hb4 hc5 hz4
        have ho5 := own_call hc5 ho4
        have Hpi := Lib.hid (pIn_any L _ _ p v5 hKl ho5)
        clear hc5 ho4 hb4 HF
        rcases hcp with ⟨rfl, rfl, rfl⟩ | ⟨rfl, rfl, hpm⟩
        · go_wp2_with fail
          go_meet
          exact (by repeat (first | with_reducible exact Below.refl _ _ | with_reducible assumption | with_reducible apply Below.drew | with_reducible apply below_drewN | (with_reducible apply below_setp; (first | omega | (simp <;> omega))) | (with_reducible apply below_allocp; (first | omega | (simp <;> omega))) | (with_reducible refine below_viap (by assumption) ?_ ?_; (first | omega | (simp <;> omega)))))
        · have hn0 : ¬ L.length = 0 := fun h => by rw [List.length_eq_zero_iff] at h; rw [h] at hpm; cases hpm
          rw [decide_eq_true hpm] at Hpi
          obtain ⟨m, hm⟩ : ∃ m, L.length = m := ⟨_, rfl⟩
          rw [hm] at hn0 hKl Hpi ⊢
          have hn1 : ((m : Int) == 0) = false := by rw [beq_eq_false_iff_ne]; omega
          clear hpm hm ho5
          go_wp2_with (go_at_call 10; (with_reducible refine (Hpi.out).mono ?_); rintro e v ⟨rfl, rfl⟩)
          go_meet
          exact (by repeat (first | with_reducible exact Below.refl _ _ | with_reducible assumption | with_reducible apply Below.drew | with_reducible apply below_drewN | (with_reducible apply below_setp; (first | omega | (simp <;> omega))) | (with_reducible apply below_allocp; (first | omega | (simp <;> omega))) | (with_reducible refine below_viap (by assumption) ?_ ?_; (first | omega | (simp <;> omega)))))
    case rest =>
      obtain ⟨v6, rfl⟩ : ∃ v, v = wc := ⟨_, rfl⟩
      have hz6 := hcut.size
      have hb6 : Below w.heap.size w v6 := below_via hb3 hcut (by omega)
      clear hcut hb1 hb2 hb3 hc2 hc3 HI HS HF HC HT e1 e2 hT3 cT3 fT3 lT3 mT3 nT3
      skip
      go_wp2_with fail
      refine (drawLS_any es _ _ _ (HE.out _ hb6) (by omega)).mono ?_
      rintro e v7 ⟨⟨A, B, C⟩, rfl, h3, hb7'⟩
      have hz7 := hb7'.size
      have hb7 : Below w.heap.size w v7 := below_via hb6 hb7' (by omega)
      obtain ⟨wa, wb, wc'⟩ : W64 A ∧ W64 B ∧ W64 C := h3
      obtain ⟨s', ok', hI0⟩ := isR_ex A B C
      have HI := Lib.hid (fun w => implIS_any A B C s' ok' w wa wb wc' hI0)
      have HIR := Lib.hid hI0
      have HL := Lib.hid (fun w => implLS_any A B C w wa wb wc')
      have HM := Lib.hid (fun w => specLS_any A B C w)
      have HN := Lib.hid (fun w => implINT_any A B C w wa wb wc')
      clear hb7' hI0 wa wb wc' HE
      go_wp2_with fail
      refine (HL.out _).mono ?_
      rintro e v8 ⟨x, y, z, one, rfl, hL1, hc8⟩
      have hz8 := hc8.size
      (try simp at hz8)
      have hT8 : Blk v8 v7.heap.size 25 #[.int .i64 A, .int .i64 B, .int .i64 C] := Blk.call (by (repeat (first | with_reducible assumption | (with_reducible apply Blk.new_at; (first | rfl | (simp; done))) | with_reducible apply Blk.store3 | with_reducible apply Blk.store4 | (with_reducible apply Blk.farp; (first | omega | (simp <;> omega))) | with_reducible apply Blk.allocp | with_reducible apply Blk.drew | with_reducible apply Blk.drewN))) hc8
      have cT8 := hT8.cell; have fT8 := hT8.frozen; have lT8 := hT8.lt; have mT8 := Nat.ne_of_gt lT8; have nT8 := Nat.ne_of_lt lT8
      have hb8 : Below w.heap.size w v8 := (by repeat (first | with_reducible exact Below.refl _ _ | with_reducible assumption | with_reducible apply Below.drew | with_reducible apply below_drewN | (with_reducible apply below_setp; (first | omega | (simp <;> omega))) | (with_reducible apply below_allocp; (first | omega | (simp <;> omega))) | (with_reducible refine below_viap (by assumption) ?_ ?_; (first | omega | (simp <;> omega)))))
      clear hc8 hb7
      go_wp2_with fail
      refine (HM.out _).mono ?_
      rintro e v9 ⟨x', y', z', one', rfl, hL2, hc9⟩
      have hz9 := hc9.size
      (try simp at hz9)
      have hT9 : Blk v9 v7.heap.size 25 #[.int .i64 A, .int .i64 B, .int .i64 C] := Blk.call (by (repeat (first | with_reducible assumption | (with_reducible apply Blk.new_at; (first | rfl | (simp; done))) | with_reducible apply Blk.store3 | with_reducible apply Blk.store4 | (with_reducible apply Blk.farp; (first | omega | (simp <;> omega))) | with_reducible apply Blk.allocp | with_reducible apply Blk.drew | with_reducible apply Blk.drewN))) hc9
      have cT9 := hT9.cell; have fT9 := hT9.frozen; have lT9 := hT9.lt; have mT9 := Nat.ne_of_gt lT9; have nT9 := Nat.ne_of_lt lT9
      have hS9 : Blk v9 v8.heap.size 36 #[.int .i64 x, .int .i64 y, .int .i64 z] := Blk.call (by (repeat (first | with_reducible assumption | (with_reducible apply Blk.new_at; (first | rfl | (simp; done))) | with_reducible apply Blk.store3 | with_reducible apply Blk.store4 | (with_reducible apply Blk.farp; (first | omega | (simp <;> omega))) | with_reducible apply Blk.allocp | with_reducible apply Blk.drew | with_reducible apply Blk.drewN))) hc9
      have cS9 := hS9.cell; have fS9 := hS9.frozen; have lS9 := hS9.lt; have mS9 := Nat.ne_of_gt lS9; have nS9 := Nat.ne_of_lt lS9
      have hb9 : Below w.heap.size w v9 := (by repeat (first | with_reducible exact Below.refl _ _ | with_reducible assumption | with_reducible apply Below.drew | with_reducible apply below_drewN | (with_reducible apply below_setp; (first | omega | (simp <;> omega))) | (with_reducible apply below_allocp; (first | omega | (simp <;> omega))) | (with_reducible refine below_viap (by assumption) ?_ ?_; (first | omega | (simp <;> omega)))))
      obtain ⟨rfl, rfl, rfl, rfl⟩ := hL1.uniq hL2
      clear hL2 hc9 hb8 hT8 cT8 fT8 lT8 mT8 nT8 HL HM
      have e1 : (one != one) = false := by cases one <;> rfl
      have HW := Lib.hid hL1
      have hcs := con_search hL1 HIR.out
      clear hL1 HIR
      go_wp2_with fail
      refine (HN.out _).mono ?_
      rintro e v10 ⟨rfl, hc10⟩
      have hz10 := hc10.size
      (try simp at hz10)
      have hT10 : Blk v10 (v7.heap.size) 25 #[.int .i64 A, .int .i64 B, .int .i64 C] := Blk.call (by (repeat (first | with_reducible assumption | (with_reducible apply Blk.new_at; (first | rfl | (simp; done))) | with_reducible apply Blk.store3 | with_reducible apply Blk.store4 | (with_reducible apply Blk.farp; (first | omega | (simp <;> omega))) | with_reducible apply Blk.allocp | with_reducible apply Blk.drew | with_reducible apply Blk.drewN))) hc10
      have cT10 := hT10.cell; have fT10 := hT10.frozen; have lT10 := hT10.lt; have mT10 := Nat.ne_of_gt lT10; have nT10 := Nat.ne_of_lt lT10
      have hS10 : Blk v10 (v8.heap.size) 36 #[.int .i64 x, .int .i64 y, .int .i64 z] := Blk.call (by (repeat (first | with_reducible assumption | (with_reducible apply Blk.new_at; (first | rfl | (simp; done))) | with_reducible apply Blk.store3 | with_reducible apply Blk.store4 | (with_reducible apply Blk.farp; (first | omega | (simp <;> omega))) | with_reducible apply Blk.allocp | with_reducible apply Blk.drew | with_reducible apply Blk.drewN))) hc10
      have cS10 := hS10.cell; have fS10 := hS10.frozen; have lS10 := hS10.lt; have mS10 := Nat.ne_of_gt lS10; have nS10 := Nat.ne_of_lt lS10
      have hb10 : Below w.heap.size w v10 := (by repeat (first | with_reducible exact Below.refl _ _ | with_reducible assumption | with_reducible apply Below.drew | with_reducible apply below_drewN | (with_reducible apply below_setp; (first | omega | (simp <;> omega))) | (with_reducible apply below_allocp; (first | omega | (simp <;> omega))) | (with_reducible refine below_viap (by assumption) ?_ ?_; (first | omega | (simp <;> omega)))))
      clear hT9 cT9 fT9 lT9 mT9 nT9 hS9 cS9 fS9 lS9 mS9 nS9 hb9 hc10
      go_wp2_with fail
      refine (HI.out _).mono ?_
      rintro e v11 ⟨rfl, hc11⟩
      have hz11 := hc11.size
      (try simp at hz11)
      have hT11 : Blk v11 (v7.heap.size) 25 #[.int .i64 A, .int .i64 B, .int .i64 C] := Blk.call (by (repeat (first | with_reducible assumption | (with_reducible apply Blk.new_at; (first | rfl | (simp; done))) | with_reducible apply Blk.store3 | with_reducible apply Blk.store4 | (with_reducible apply Blk.farp; (first | omega | (simp <;> omega))) | with_reducible apply Blk.allocp | with_reducible apply Blk.drew | with_reducible apply Blk.drewN))) hc11
      have cT11 := hT11.cell; have fT11 := hT11.frozen; have lT11 := hT11.lt; have mT11 := Nat.ne_of_gt lT11; have nT11 := Nat.ne_of_lt lT11
      have hS11 : Blk v11 (v8.heap.size) 36 #[.int .i64 x, .int .i64 y, .int .i64 z] := Blk.call (by (repeat (first | with_reducible assumption | (with_reducible apply Blk.new_at; (first | rfl | (simp; done))) | with_reducible apply Blk.store3 | with_reducible apply Blk.store4 | (with_reducible apply Blk.farp; (first | omega | (simp <;> omega))) | with_reducible apply Blk.allocp | with_reducible apply Blk.drew | with_reducible apply Blk.drewN))) hc11
      have cS11 := hS11.cell; have fS11 := hS11.frozen; have lS11 := hS11.lt; have mS11 := Nat.ne_of_gt lS11; have nS11 := Nat.ne_of_lt lS11
      have hb11 : Below w.heap.size w v11 := (by repeat (first | with_reducible exact Below.refl _ _ | with_reducible assumption | with_reducible apply Below.drew | with_reducible apply below_drewN | (with_reducible apply below_setp; (first | omega | (simp <;> omega))) | (with_reducible apply below_allocp; (first | omega | (simp <;> omega))) | (with_reducible refine below_viap (by assumption) ?_ ?_; (first | omega | (simp <;> omega)))))
      clear hT10 cT10 fT10 lT10 mT10 nT10 hS10 cS10 fS10 lS10 mS10 nS10
      clear HN HI hc11 hb10 e1
      rcases hcs with ⟨hno, rfl⟩ | ⟨ht, hn, rfl, rfl⟩
      · clear HW
        generalize nmB A B C = nm at *
        generalize trB A B C = tr at *
        rw [hno]
        cases tr
        all_goals
          clear hno
          go_wp2
          go_ret
          exact ⟨rfl, (by repeat (first | with_reducible exact Below.refl _ _ | with_reducible assumption | with_reducible apply Below.drew | with_reducible apply below_drewN | (with_reducible apply below_setp; (first | omega | (simp <;> omega))) | (with_reducible apply below_allocp; (first | omega | (simp <;> omega))) | (with_reducible refine below_viap (by assumption) ?_ ?_; (first | omega | (simp <;> omega)))))⟩
      · rw [ht, hn]
        clear ht hn
        cases s' with
        | false =>
          clear HW
          go_wp2
          go_ret
          exact ⟨rfl, (by repeat (first | with_reducible exact Below.refl _ _ | with_reducible assumption | with_reducible apply Below.drew | with_reducible apply below_drewN | (with_reducible apply below_setp; (first | omega | (simp <;> omega))) | (with_reducible apply below_allocp; (first | omega | (simp <;> omega))) | (with_reducible refine below_viap (by assumption) ?_ ?_; (first | omega | (simp <;> omega)))))⟩
        | true =>
          obtain ⟨t, hx, hy, hz, e, nz, bx, by', bz⟩ := con_bounds HW.out
          have HSo := Lib.hid (fun w => isSol_any A B C x y z w t hx hy hz e nz)
          obtain ⟨⟨ab1, ab2⟩, ⟨bc1, bc2⟩, ⟨ac1, ac2⟩, _⟩ := t.pb
          have HA1 := Lib.hid (fun w => pAbs_any (B * C) w (by omega))
          have HA2 := Lib.hid (fun w => pAbs_any (A * C) w (by omega))
          have HA3 := Lib.hid (fun w => pAbs_any (A * B) w (by omega))
          have xx : x * x ≤ 160000 := by omega
          have yy : y * y ≤ 160000 := by omega
          have zz : z * z ≤ 160000 := by omega
          have x0 := sq_nn x
          have y0 := sq_nn y
          have z0 := sq_nn z
          have K := Lib.hid (show (IntKind.i64.wrap (A * B) = A * B ∧ IntKind.i64.wrap (A * C) = A * C ∧ IntKind.i64.wrap (B * C) = B * C) ∧ (IntKind.i64.wrap (x * x) = x * x ∧ IntKind.i64.wrap (y * y) = y * y ∧ IntKind.i64.wrap (z * z) = z * z) from ⟨⟨IntWalk.i64_in _ (by omega), IntWalk.i64_in _ (by omega), IntWalk.i64_in _ (by omega)⟩, IntWalk.i64_in _ (by omega), IntWalk.i64_in _ (by omega), IntWalk.i64_in _ (by omega)⟩)
          have K2 := Lib.hid (show (wrap64 (A * B) = A * B ∧ wrap64 (A * C) = A * C ∧ wrap64 (B * C) = B * C) ∧ (wrap64 (x * x) = x * x ∧ wrap64 (y * y) = y * y ∧ wrap64 (z * z) = z * z) from ⟨⟨IntWalk.wrap64_in _ (by omega), IntWalk.wrap64_in _ (by omega), IntWalk.wrap64_in _ (by omega)⟩, IntWalk.wrap64_in _ (by omega), IntWalk.wrap64_in _ (by omega), IntWalk.wrap64_in _ (by omega)⟩)
          have d1 := decide_eq_true bx
          have d2 := decide_eq_true by'
          have d3 := decide_eq_true bz
          generalize ((B * C).natAbs : Int) = m1 at *
          generalize ((A * C).natAbs : Int) = m2 at *
          generalize ((A * B).natAbs : Int) = m3 at *
          clear t hx hy hz e nz bx by' bz ab1 ab2 bc1 bc2 ac1 ac2 xx yy zz x0 y0 z0 HW
          go_wp2_with fail
          refine (HSo.out _).mono ?_
          rintro e v12 ⟨rfl, hc12⟩
          have hz12 := hc12.size
          have hT12 : Blk v12 v7.heap.size 25 #[.int .i64 A, .int .i64 B, .int .i64 C] := Blk.call (by (repeat (first | with_reducible assumption | (with_reducible apply Blk.new_at; (first | rfl | (simp; done))) | with_reducible apply Blk.store3 | with_reducible apply Blk.store4 | (with_reducible apply Blk.farp; (first | omega | (simp <;> omega))) | with_reducible apply Blk.allocp | with_reducible apply Blk.drew | with_reducible apply Blk.drewN))) hc12
          have cT12 := hT12.cell; have fT12 := hT12.frozen; have lT12 := hT12.lt
          have hS12 : Blk v12 v8.heap.size 36 #[.int .i64 x, .int .i64 y, .int .i64 z] := Blk.call (by (repeat (first | with_reducible assumption | (with_reducible apply Blk.new_at; (first | rfl | (simp; done))) | with_reducible apply Blk.store3 | with_reducible apply Blk.store4 | (with_reducible apply Blk.farp; (first | omega | (simp <;> omega))) | with_reducible apply Blk.allocp | with_reducible apply Blk.drew | with_reducible apply Blk.drewN))) hc12
          have cS12 := hS12.cell; have fS12 := hS12.frozen; have lS12 := hS12.lt
          have hb12 : Below w.heap.size w v12 := (by repeat (first | with_reducible exact Below.refl _ _ | with_reducible assumption | with_reducible apply Below.drew | with_reducible apply below_drewN | (with_reducible apply below_setp; (first | omega | (simp <;> omega))) | (with_reducible apply below_allocp; (first | omega | (simp <;> omega))) | (with_reducible refine below_viap (by assumption) ?_ ?_; (first | omega | (simp <;> omega)))))
          clear hc12 HSo
          obtain ⟨⟨k1, k2, k3⟩, k4, k5, k6⟩ := K.out
          obtain ⟨⟨w1, w2, w3⟩, w4, w5, w6⟩ := K2.out
          go_wp2_with fail
          go_quiet (fail)
          go_wp2_with fail
          refine wp_region_calm 35 (Below (v12.heap.size) _) (by kernel_rfl) (by kernel_rfl) ((Below.refl _ _).drew) ?_
          simp only [List.take_succ_cons, List.take_zero, List.drop_succ_cons, List.drop_zero]
          repeat (first | (apply wpCalm_go; go_simp; (intro w' hw' hcc hff; go_simp; first | exact rfl | (with_reducible refine (HA1.out _).mono ?_; rintro e w1 ⟨rfl, hb⟩; exact ⟨rfl, calm_call_same hw' hb⟩) | (with_reducible refine (HA2.out _).mono ?_; rintro e w1 ⟨rfl, hb⟩; exact ⟨rfl, calm_call_same hw' hb⟩) | (with_reducible refine (HA3.out _).mono ?_; rintro e w1 ⟨rfl, hb⟩; exact ⟨rfl, calm_call_same hw' hb⟩)); (intro K hK; go_simp; refine hK _ ?_; clear hK K)) | (apply wpCalm_skip; go_simp; (try (focus (simp [undef]; done))); (intro K hK; go_simp; refine hK _ ?_; clear hK K)))
          refine wpCalm_nil ?_
          intro w1 hw1
          have hcc := (calm_cells hw1).1
          have hff := (calm_cells hw1).2
          have hss := calm_size hw1
          have hsz := hw1.size
          (try simp at hsz)
          have hb13 : Below w.heap.size w w1 := below_via (show Below w.heap.size w _ from (by repeat (first | with_reducible exact Below.refl _ _ | with_reducible assumption | with_reducible apply Below.drew | with_reducible apply below_drewN | (with_reducible apply below_setp; (first | omega | (simp <;> omega))) | (with_reducible apply below_allocp; (first | omega | (simp <;> omega))) | (with_reducible refine below_viap (by assumption) ?_ ?_; (first | omega | (simp <;> omega)))))) hw1 (by first | omega | (simp <;> omega))
          go_wp2
          go_ret
          exact ⟨rfl, (by repeat (first | with_reducible exact Below.refl _ _ | with_reducible assumption | with_reducible apply Below.drew | with_reducible apply below_drewN | (with_reducible apply below_setp; (first | omega | (simp <;> omega))) | (with_reducible apply below_allocp; (first | omega | (simp <;> omega))) | (with_reducible refine below_viap (by assumption) ?_ ?_; (first | omega | (simp <;> omega)))))⟩
  · have Hb := Lib.hid (fun w => big_yes A0 A2 zs.length es.length c1' c2' w hbig)
    clear HZ HY hbig
    go_enter Try.func3, Try.ntmps3
    go_wp2_with (go_at_call 4; (with_reducible refine (Hb.out _).mono ?_); rintro e v ⟨rfl, rfl⟩)
    go_ret
    exact ⟨rfl, (by repeat (first | with_reducible exact Below.refl _ _ | with_reducible assumption | with_reducible apply Below.drew | with_reducible apply below_drewN | (with_reducible apply below_setp; (first | omega | (simp <;> omega))) | (with_reducible apply below_allocp; (first | omega | (simp <;> omega))) | (with_reducible refine below_viap (by assumption) ?_ ?_; (first | omega | (simp <;> omega)))))⟩

theorem own_FnConics : ownKnob Try.prog.godebug = none := by kernel_rfl

set_option maxRecDepth 100000 in
theorem lifted_FnConics (os : Os) (started : os.Started) (H : Type) (enc : TypeId × Value → H) :
    ReturnsInHanded {} Try.checked os 3 .any (Rows.fnConicsSpec.pre6 enc Try.prog Try.f3 Rows.fnConicsRow.domain false) (Rows.fnConicsSpec.post enc Try.prog Try.f3 false true false false) := by
  refine returnsInHanded_of_change (C := Try.checked) own_FnConics started (by kernel_rfl) Try.func3
    (ChangeSpec.witness6 (enc := enc) (C := Try.checked) false ⟨#[], #[.slice none 0 0, .slice none 0 0], []⟩ 8 (by kernel_rfl) (by kernel_rfl) (by kernel_rfl) (by kernel_rfl)) ?_
  intro W base args ds gs before hval0 hW hcnd _
  have hval : ∀ (j : Nat) t v, Try.f3.params[j]? = some t → args[j]? = some v → Value.okWide Try.prog W .any base t v := hval0
  have hW' := hW
  obtain ⟨p, q, hA0, hV, rfl, hfz, hnd⟩ := hW
  have hA : DataW.TrodAll enc Try.prog W 0 (fun _ => true) true Try.f3.params.toList args.toList ds p := hA0
  rw [Try.params3] at hA hval
  obtain ⟨v1, vs1, d1, ds1, p1, q1, hargs, rfl, rfl, h1, r1⟩ := trodAll_cons hA
  obtain ⟨v2, vs2, d2, ds2, p2, q2, rfl, rfl, rfl, h2, r2⟩ := trodAll_cons r1
  obtain ⟨rfl, rfl, rfl⟩ := trodAll_nil r2
  obtain rfl : args = #[v1, v2] := by cases args; simp_all
  obtain ⟨rfl, rfl⟩ := trodVars_none hV
  obtain ⟨zs, hrd⟩ := open_reB (hval 0 22 v1 rfl rfl) h1
  obtain ⟨es, hre⟩ := open_reB (hval 1 22 v2 rfl rfl) h2
  have hlt1 : ∀ x ∈ p1, x.block < W.heap.size := fun x hx => hW'.lt x (by simp [hx])
  have hlt2 : ∀ x ∈ p2, x.block < W.heap.size := fun x hx => hW'.lt x (by simp [hx])
  clear hA0 hval0
  refine (walk_FnConics zs es v1 v2 W hrd hre).mono fun e W' ⟨he, hg⟩ => ?_
  subst he
  exact ⟨_, rfl, post_of_below (pa := p1 ++ (p2 ++ [])) (pv := []) hW' (fun _ _ _ => (trodAll_cons_mk (shut_bool Try.underlying4 _) trodAll_mk0)) (fun sp hsp => (trodAll_cons_mk (WideElems.Trod_stays laid_D3 (by kernel_rfl) (of_decide_eq_true (by kernel_rfl)) h1 (fun x hx => hg.same (hlt1 x hx)) (fun x hx => hsp x (by simp [hx]))) (trodAll_cons_mk (WideElems.Trod_stays laid_D3 (by kernel_rfl) (of_decide_eq_true (by kernel_rfl)) h2 (fun x hx => hg.same (hlt2 x hx)) (fun x hx => hsp x (by simp [hx]))) trodAll_mk0))) (fun _ _ => rfl) rfl
    hg (ok_one (by kernel_rfl) rfl (okWide_bool_mk Try.underlying4 _))⟩

theorem and2_FnConics {a b : Bool} (h : a = true) (k : b = true) : (a && b) = true := by rw [h, k]; rfl
set_option maxRecDepth 100000 in
theorem cl0_FnConics : (Rows.fnConicsRow.wf (OpenSpec.ofChange Rows.fnConicsSpec)) = true := by kernel_rfl
set_option maxRecDepth 100000 in
theorem cl1_FnConics : (laidOutB Try.pinned.checked.prog) = true := by kernel_rfl
set_option maxRecDepth 100000 in
theorem cl2_FnConics : (mapsRowed Try.pinned.checked.prog) = true := by kernel_rfl
set_option maxRecDepth 100000 in
theorem cl3_FnConics : (Try.f3.params.all (Try.pinned.checked.prog.readableRec ·)) = true := by kernel_rfl
set_option maxRecDepth 100000 in
theorem cl4_FnConics : (namedTie Try.pinned.checked.prog Rows.fnConicsRow.named Rows.fnConicsSpec.vars) = true := by kernel_rfl
set_option maxRecDepth 100000 in
theorem cl5_FnConics : (Rows.fnConicsRow.stops == []) = true := by kernel_rfl
set_option maxRecDepth 100000 in
theorem cl6_FnConics : (Try.pinned.checked.prog.stops == []) = true := by kernel_rfl
set_option maxRecDepth 100000 in
theorem cl7_FnConics : (Rows.fnConicsRow.knobs == []) = true := by kernel_rfl
set_option maxRecDepth 100000 in
theorem cl8_FnConics : (Try.pinned.checked.prog.stopKnobs == []) = true := by kernel_rfl
set_option maxRecDepth 100000 in
theorem cl9_FnConics : (Rows.fnConicsRow.inPlace == Try.pinned.checked.prog.inPlace 3) = true := by kernel_rfl
set_option maxRecDepth 100000 in
theorem cl10_FnConics : (Rows.fnConicsRow.unfollowed == Try.pinned.checked.prog.unfollowed 3) = true := by kernel_rfl
set_option maxRecDepth 100000 in
theorem cl11_FnConics : (Rows.fnConicsRow.recurses == Try.pinned.checked.prog.recurses 3) = true := by kernel_rfl
set_option maxRecDepth 100000 in
theorem cl12_FnConics : (Rows.fnConicsRow.named == Try.pinned.checked.prog.varsNamed 3) = true := by kernel_rfl
set_option maxRecDepth 100000 in
theorem cl13_FnConics : (Rows.fnConicsRow.maps == (Try.f3.params.toList ++ Rows.fnConicsSpec.plain.varTypes Try.pinned.checked.prog).any (Try.pinned.checked.prog.mapsRec ·)) = true := by kernel_rfl
set_option maxRecDepth 100000 in
theorem cl14_FnConics : (Rows.fnConicsRow.ifaces == (Try.f3.params.toList ++ Rows.fnConicsSpec.plain.varTypes Try.pinned.checked.prog).any (Try.pinned.checked.prog.ifacesRec ·)) = true := by kernel_rfl
set_option maxRecDepth 100000 in
theorem cl15_FnConics : (Rows.fnConicsRow.mapsOut == Try.pinned.checked.prog.mapsAmong Try.f3.resultTypes.toList) = true := by kernel_rfl
set_option maxRecDepth 100000 in
theorem cl16_FnConics : (Rows.fnConicsRow.loops == (Try.f3.params.toList ++ Rows.fnConicsSpec.plain.varTypes Try.pinned.checked.prog).any (Try.pinned.checked.prog.loopsFrom ·)) = true := by kernel_rfl
set_option maxRecDepth 100000 in
theorem cl17_FnConics : (Rows.fnConicsRow.wideKeys == (Try.f3.params.toList ++ Rows.fnConicsSpec.plain.varTypes Try.pinned.checked.prog ++ Try.f3.resultTypes.toList).any (Try.pinned.checked.prog.wideKeysFrom ·)) = true := by kernel_rfl
set_option maxRecDepth 100000 in
theorem cl18_FnConics : (Rows.fnConicsSpec.vars.all (Try.pinned.checked.prog.varReadable ·)) = true := by kernel_rfl
set_option maxRecDepth 100000 in
theorem cl19_FnConics : (Try.f3.resultTypes.all (fun t => Try.pinned.checked.prog.readableRec t && decide (t < Try.pinned.checked.prog.types.size))) = true := by kernel_rfl
set_option maxRecDepth 100000 in
theorem cl20_FnConics : (Rows.fnConicsRow.ifacesOut == Try.f3.resultTypes.toList.any (Try.pinned.checked.prog.ifacesRec ·)) = true := by kernel_rfl
set_option maxRecDepth 100000 in
theorem cl21_FnConics : (Rows.fnConicsRow.loopsOut == Try.f3.resultTypes.toList.any (Try.pinned.checked.prog.loopsFrom ·)) = true := by kernel_rfl
set_option maxRecDepth 100000 in
theorem cl22_FnConics : (Rows.fnConicsRow.plainKeys == Try.pinned.checked.prog.plainKeys) = true := by kernel_rfl
set_option maxRecDepth 100000 in
theorem cl23_FnConics : (Rows.fnConicsRow.shortTexts.isNone) = true := by kernel_rfl
set_option maxRecDepth 100000 in
theorem cl24_FnConics : (Try.pinned.checked.prog.stopsHeard) = true := by kernel_rfl
set_option maxRecDepth 100000 in
theorem cl25_FnConics : (Try.pinned.checked.prog.mayEnter) = true := by kernel_rfl
set_option maxRecDepth 100000 in
theorem cl26_FnConics : (Rows.fnConicsRow.lifted == Try.pinned.checked.prog.liftsFinal) = true := by kernel_rfl
set_option maxRecDepth 100000 in
theorem cl27_FnConics : (Try.pinned.checked.prog.make == some Rows.fnConicsRow.make) = true := by kernel_rfl
set_option maxRecDepth 100000 in
theorem cl28_FnConics : (Rows.fnConicsRow.kinds == (if Rows.fnConicsRow.domain.isEmpty then [] else Try.f3.params.toList.map fun t => match Try.pinned.checked.prog.underlying t with | some (.int k) => some k | _ => none)) = true := by kernel_rfl
set_option maxRecDepth 100000 in
theorem cl29_FnConics : (Rows.fnConicsRow.pinned == Rows.fnConicsRow.pinnedBy) = true := by kernel_rfl
set_option maxRecDepth 100000 in
theorem cl30_FnConics : (Rows.fnConicsRow.veiled == (Try.f3.params.toList ++ Rows.fnConicsSpec.plain.varTypes Try.pinned.checked.prog ++ Try.f3.resultTypes.toList).any (Try.pinned.checked.prog.veiledRec ·)) = true := by kernel_rfl
set_option maxRecDepth 100000 in
theorem cl31_FnConics : (Rows.fnConicsRow.veiledFits Try.pinned.checked.prog Try.f3.params.toList (Try.f3.params.toList ++ Rows.fnConicsSpec.plain.varTypes Try.pinned.checked.prog ++ Try.f3.resultTypes.toList)) = true := by kernel_rfl
set_option maxRecDepth 100000 in
theorem closed_FnConics : joinedFacts Try.pinned.checked.prog 3 Try.f3 Rows.fnConicsSpec Rows.fnConicsRow = true := (and2_FnConics (and2_FnConics (and2_FnConics (and2_FnConics (and2_FnConics (and2_FnConics (and2_FnConics (and2_FnConics (and2_FnConics (and2_FnConics (and2_FnConics (and2_FnConics (and2_FnConics (and2_FnConics (and2_FnConics (and2_FnConics (and2_FnConics (and2_FnConics (and2_FnConics (and2_FnConics (and2_FnConics (and2_FnConics (and2_FnConics (and2_FnConics (and2_FnConics (and2_FnConics (and2_FnConics (and2_FnConics (and2_FnConics (and2_FnConics (and2_FnConics cl0_FnConics cl1_FnConics) cl2_FnConics) cl3_FnConics) cl4_FnConics) cl5_FnConics) cl6_FnConics) cl7_FnConics) cl8_FnConics) cl9_FnConics) cl10_FnConics) cl11_FnConics) cl12_FnConics) cl13_FnConics) cl14_FnConics) cl15_FnConics) cl16_FnConics) cl17_FnConics) cl18_FnConics) cl19_FnConics) cl20_FnConics) cl21_FnConics) cl22_FnConics) cl23_FnConics) cl24_FnConics) cl25_FnConics) cl26_FnConics) cl27_FnConics) cl28_FnConics) cl29_FnConics) cl30_FnConics) cl31_FnConics)


/-- The statement. -/
theorem holds_FnConics : Rows.FnConicsSaid :=
  OpenClaim.holds_of_wide 3 Try.f3 rfl rfl rfl rfl rfl rfl rfl ⟨rfl, rfl, rfl, rfl, rfl⟩ rfl rfl rfl rfl rfl (by kernel_rfl) Try.func3 closed_FnConics
    (of_decide_eq_true (by kernel_rfl)) (by unfold Func.isWrapper; first | (rw [if_pos (by decide +kernel)]; kernel_rfl) | (rw [if_neg (by decide +kernel)]; exact ⟨rfl, rfl⟩))
    (fun os started H enc _ => lifted_FnConics os started H enc)
#print axioms holds_FnConics
end Go.Proofs.Ytdhennlanngjgaa
