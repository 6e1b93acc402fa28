/- Contract: the product of two ideals, of the reference. -/
import Derived.Test.YtjjkndgokdofdaaRO
import Derived.Test.YtjjkndgokdofdaaRS
namespace Go.Proofs.Ytjjkndgokdofdaa
open Go.RowKit

theorem infoIdE : (Try.prog.info? 118).map (fun i => (i.zero, i.size, i.bytes)) = some (some (.agg #[.int .i64 0, .int .i64 0]), 2, 16) := by kernel_rfl
theorem own_blk4 {w : World} {g : Nat} {t : TypeId} {a b c d : Value} (h : Blk w g t #[a, b, c, d]) : w.ownsRow g t 2 (.slice (some ⟨g, 0, none⟩) 2 2) 2 [a, b, c, d] :=
  ⟨rfl, .inr ⟨g, 2, #[a, b, c, d], rfl, Nat.le_refl _, h, Nat.le_refl _, by decide, rfl, rfl⟩⟩
/-- Two generators of an ideal. -/
def bsL (a b : Int) : List (Int × Int) := [(2 * a, 0), (-b, 1)]
theorem pd_list {d a b a' b' X Y : Int} (hX : b * b' + d = 2 * X) (hY : b + b' = -(2 * Y)) : ∀ i j (hi : i < (bsL a b).length) (hj : j < (bsL a' b').length), ∃ U V, (iL a b a' b' X Y).take (2 * i + (j + 1)) = (iL a b a' b' X Y).take (2 * i + j) ++ [(U, V)] ∧
    (bsL a b)[i].1 * (bsL a' b')[j].1 + d * (bsL a b)[i].2 * (bsL a' b')[j].2 = 2 * U ∧ (bsL a b)[i].1 * (bsL a' b')[j].2 + (bsL a b)[i].2 * (bsL a' b')[j].1 = 2 * V := by
  intro i j hi hj
  simp only [bsL, List.length_cons, List.length_nil] at hi hj
  rcases (show i = 0 ∨ i = 1 by omega) with rfl | rfl <;> rcases (show j = 0 ∨ j = 1 by omega) with rfl | rfl
  · exact ⟨2 * a * a', 0, rfl, by simp only [bsL, List.getElem_cons_zero]; grind, by simp only [bsL, List.getElem_cons_zero]; grind⟩
  · exact ⟨-a * b', a, rfl, by simp only [bsL, List.getElem_cons_zero, List.getElem_cons_succ]; grind, by simp only [bsL, List.getElem_cons_zero, List.getElem_cons_succ]; grind⟩
  · exact ⟨-a' * b, a', rfl, by simp only [bsL, List.getElem_cons_zero, List.getElem_cons_succ]; grind, by simp only [bsL, List.getElem_cons_zero, List.getElem_cons_succ]; grind⟩
  · exact ⟨X, Y, rfl, by simp only [bsL, List.getElem_cons_zero, List.getElem_cons_succ]; grind, by simp only [bsL, List.getElem_cons_zero, List.getElem_cons_succ]; grind⟩
theorem bsL_bd {a b : Int} (ha : 1 ≤ a ∧ a ≤ 10000) (hb : 0 ≤ b ∧ b ≤ 20000) : ∀ i (hi : i < (bsL a b).length), (-20000 ≤ (bsL a b)[i].1 ∧ (bsL a b)[i].1 ≤ 20000) ∧ (0 ≤ (bsL a b)[i].2 ∧ (bsL a b)[i].2 ≤ 1) := by
  intro i hi
  simp only [bsL, List.length_cons, List.length_nil] at hi
  rcases (show i = 0 ∨ i = 1 by omega) with rfl | rfl
  · simp only [bsL, List.getElem_cons_zero]; omega
  · simp only [bsL, List.getElem_cons_zero, List.getElem_cons_succ]; omega
/-- The state of the outer loop. -/
def PdSt (P : List (Int × Int)) (v : World) (v7 v20 : Value) (wr : World) : Prop :=
  ∃ i : Nat, v20 = .int .i64 i ∧ i ≤ 2 ∧ wr.ownsRow v.heap.size 118 2 v7 (P.take (2 * i)).length (cellsP (P.take (2 * i))) ∧ Below v.heap.size v wr
/-- The state of the inner loop. -/
def PdIn (P : List (Int × Int)) (i : Nat) (v : World) (gA gB : Nat) (xu xv a b : Int) (v7 v31 : Value) (wr : World) : Prop :=
  ∃ j : Nat, v31 = .int .i64 j ∧ j ≤ 2 ∧ wr.ownsRow v.heap.size 118 2 v7 (P.take (2 * i + j)).length (cellsP (P.take (2 * i + j))) ∧ Blk wr gA 118 #[.int .i64 xu, .int .i64 xv] ∧ Blk wr gB 118 #[.int .i64 (2 * a), .int .i64 0, .int .i64 (-b), .int .i64 1] ∧
    v7.ownBlock ≠ some gA ∧ v7.ownBlock ≠ some gB ∧ Below v.heap.size v wr
theorem own_elemQ {w : World} {B g : Nat} {e : TypeId} {n cap : Nat} {L : List (Int × Int)} (h : w.ownsRow B e 2 (.slice (some ⟨g, 0, none⟩) n cap) L.length (cellsP L)) {k : Nat} (hk : k < L.length) :
    g < w.heap.size ∧ w.cell? ⟨g, k * 2, none⟩ = some (.int .i64 L[k].1) ∧ w.cell? ⟨g, k * 2 + 1, none⟩ = some (.int .i64 L[k].2) := by
  obtain ⟨g', h1, h2⟩ := own_elemP h hk
  injection h1 with h1
  injection h1 with h1
  subst h1
  exact h2
theorem ne_back {v v' : Value} {g N : Nat} (h : v.ownBlock ≠ some g) (hg : g < N) (hl : v'.ownBlock = v.ownBlock ∨ v'.ownBlock = some N) : v'.ownBlock ≠ some g := by
  rcases hl with hl | hl
  · rw [hl]; exact h
  · rw [hl]; intro he; injection he with he; omega
set_option maxRecDepth 100000 in
set_option maxHeartbeats 12800000 in
theorem idProduct_any (d e1 a b e2 a' b' X Y A e t : Int) (w : World) (hd : -2000 ≤ d ∧ d ≤ 0) (h1 : 1 ≤ e1 ∧ e1 ≤ 10000) (h2 : 1 ≤ e2 ∧ e2 ≤ 10000) (ha : 1 ≤ a ∧ a ≤ 10000) (ha' : 1 ≤ a' ∧ a' ≤ 10000)
    (hb : 0 ≤ b ∧ b ≤ 19999) (hb' : 0 ≤ b' ∧ b' ≤ 19999) (hX : b * b' + d = 2 * X) (hY : b + b' = -(2 * Y)) (hsp : SpEq [(2 * e * A, 0), (e * t, e)] (iL a b a' b' X Y)) (hA : 0 < A) (he : 0 < e) (he2 : e ≤ 10000) :
    Calls Try.prog 44 #[.int .i64 d, .agg #[.int .i64 e1, .int .i64 a, .int .i64 b], .agg #[.int .i64 e2, .int .i64 a', .int .i64 b']] w fun x w' =>
      x = .returned (.agg #[.int .i64 (e * (e1 * e2)), .int .i64 A, .int .i64 ((-t) % (2 * A))]) ∧ Below w.heap.size w w' := by
  obtain ⟨i0, hi, hz0, hz1, hz2⟩ := info_parts infoIdE
  have m1 := mul_bd (a := a) (x := a') (A := 10000) (X := 10000) (by omega) (by omega) (by omega) (by omega)
  have m2 := mul_bd (a := a) (x := b') (A := 10000) (X := 19999) (by omega) (by omega) (by omega) (by omega)
  have m3 := mul_bd (a := a') (x := b) (A := 10000) (X := 19999) (by omega) (by omega) (by omega) (by omega)
  have m4 := mul_bd (a := b) (x := b') (A := 19999) (X := 19999) (by omega) (by omega) (by omega) (by omega)
  have m5 := mul_bd (a := e1) (x := e2) (A := 10000) (X := 10000) (by omega) (by omega) (by omega) (by omega)
  have m6 := mul_bd (a := e) (x := e1 * e2) (A := 10000) (X := 100000000) (by omega) (by omega) (by omega) (by omega)
  have p0 : 0 < a * a' := Int.mul_pos (by omega) (by omega)
  have p1 : 0 ≤ b * b' := Int.mul_nonneg hb.1 hb'.1
  have HSp := Lib.hid (fun (v : Value) B w ho => idSpan_any (2 * a * a') [(-a * b', a), (-a' * b, a'), (X, Y)] A e t v B w ⟨by rw [Int.mul_assoc]; omega, by rw [Int.mul_assoc]; omega⟩ (by
    intro p hp
    simp only [List.mem_cons, List.not_mem_nil, or_false] at hp
    rcases hp with rfl | rfl | rfl
    · exact ⟨by simp only [Int.neg_mul]; omega, by simp only; omega⟩
    · exact ⟨by simp only [Int.neg_mul]; omega, by simp only; omega⟩
    · exact ⟨by simp only; omega, by simp only; omega⟩) (by simp) hsp hA he ho)
  rw [show ((2 * a * a', (0 : Int)) :: [(-a * b', a), (-a' * b, a'), (X, Y)]) = iL a b a' b' X Y from rfl] at HSp
  have HP := Lib.hid (pd_list (a := a) (a' := a') hX hY)
  have HE := Lib.hid (bsL_bd ha ⟨hb.1, by omega⟩)
  have HE' := Lib.hid (bsL_bd ha' ⟨hb'.1, by omega⟩)
  have HPl : Hid ((iL a b a' b' X Y).length = 4) := Lib.hid rfl
  have HB1 := Lib.hid (fun w => idBasis_any a b w ha ⟨hb.1, by omega⟩)
  have HB2 := Lib.hid (fun w => idBasis_any a' b' w ha' ⟨hb'.1, by omega⟩)
  have hc1 : Hid ([.int .i64 (2 * a), .int .i64 0, .int .i64 (-b), .int .i64 1] = cellsP (bsL a b) ∧ 2 = (bsL a b).length) := Lib.hid ⟨rfl, rfl⟩
  have hc2 : Hid ([.int .i64 (2 * a'), .int .i64 0, .int .i64 (-b'), .int .i64 1] = cellsP (bsL a' b') ∧ 2 = (bsL a' b').length) := Lib.hid ⟨rfl, rfl⟩
  have w8 : wrap64 (e1 * e2) = e1 * e2 := IntWalk.wrap64_in _ (by omega)
  have w9 : wrap64 (e1 * e2 * e) = e * (e1 * e2) := by rw [Int.mul_comm (e1 * e2) e]; exact IntWalk.wrap64_in _ (by omega)
  clear m1 m2 m3 m4 m5 m6 hX hY hsp p0 p1 h1 h2
  generalize e * (e1 * e2) = G at *
  generalize (-t) % (2 * A) = R at *
  generalize iL a b a' b' X Y = P at *
  generalize bsL a b = E at *
  generalize bsL a' b' = E' at *
  go_enter Try.func44, Try.ntmps44
  go_wp2_with fail
  refine (HB1.out _).mono ?_
  rintro e2 v1 ⟨rfl, hb1, hB1⟩
  have hZ1 := hB1.size
  (try simp at hZ1)
  have hX1 : Blk v1 w.heap.size 25 #[.int .i64 e1, .int .i64 a, .int .i64 b] := Blk.call (by (repeat (first | with_reducible assumption | (with_reducible apply Blk.new_at; (first | rfl | (simp; done))) | with_reducible apply Blk.store3 | with_reducible apply Blk.store4 | (with_reducible apply Blk.farp; (first | omega | (simp <;> omega))) | with_reducible apply Blk.allocp | with_reducible apply Blk.drew | with_reducible apply Blk.drewN))) hB1
  have hY1 : Blk v1 (w.heap.size + 1) 25 #[.int .i64 e2, .int .i64 a', .int .i64 b'] := Blk.call (by (repeat (first | with_reducible assumption | (with_reducible apply Blk.new_at; (first | rfl | (simp; done))) | with_reducible apply Blk.store3 | with_reducible apply Blk.store4 | (with_reducible apply Blk.farp; (first | omega | (simp <;> omega))) | with_reducible apply Blk.allocp | with_reducible apply Blk.drew | with_reducible apply Blk.drewN))) hB1
  have hR1 : Blk v1 (w.heap.size + 1 + 1) 25 #[.int .i64 0, .int .i64 0, .int .i64 0] := Blk.call (by (repeat (first | with_reducible assumption | (with_reducible apply Blk.new_at; (first | rfl | (simp; done))) | with_reducible apply Blk.store3 | with_reducible apply Blk.store4 | (with_reducible apply Blk.farp; (first | omega | (simp <;> omega))) | with_reducible apply Blk.allocp | with_reducible apply Blk.drew | with_reducible apply Blk.drewN))) hB1
  have hE1 : v1.ownsRow (w.heap.size + 1 + 1 + 1 + 1) 118 2 (.slice (some ⟨w.heap.size + 1 + 1 + 1 + 1, 0, none⟩) 2 2) E.length (cellsP E) := by
    rw [← hc1.out.1, ← hc1.out.2]; exact own_blk4 (by simpa using hb1)
  have hbw : Below w.heap.size w v1 := (by repeat (first | with_reducible exact Below.refl _ _ | with_reducible assumption | with_reducible apply Below.drew | with_reducible apply below_drewN | (with_reducible apply below_setp; (first | omega | (simp <;> omega))) | (with_reducible apply below_allocp; (first | omega | (simp <;> omega))) | (with_reducible refine below_viap (by assumption) ?_ ?_; (first | omega | (simp <;> omega)))))
  have HE1 := Lib.hid hE1
  clear hb1 hE1 HB1 hB1
  go_wp2
  go_loopw [7, 20] (fun v7 v20 wr => PdSt P v1 v7 v20 wr) (fun _ v20 _ => 2 - (intOf v20).toNat)
  case atStart => exact ⟨0, rfl, by omega, World.ownsRow_nil _ _ _ _, Below.refl _ _⟩
  case round =>
    obtain ⟨i, rfl, hi2, hown, hbel⟩ := hrel
    have hz := hbel.size
    have hX0 := hX1.call hbel; have hY0 := hY1.call hbel; have hR0 := hR1.call hbel
    have cX := hX0.cell; have fX := hX0.frozen; have lX := hX0.lt; have mX := Nat.ne_of_gt lX; have nX := Nat.ne_of_lt lX
    have cY := hY0.cell; have fY := hY0.frozen; have lY := hY0.lt; have mY := Nat.ne_of_gt lY; have nY := Nat.ne_of_lt lY
    have cR := hR0.cell; have fR := hR0.frozen; have lR := hR0.lt; have mR := Nat.ne_of_gt lR; have nR := Nat.ne_of_lt lR
    by_cases hlt : i < 2
    · have hiE : i < E.length := by have := hc1.out.2; omega
      obtain ⟨lg, d1, d2⟩ := own_elemQ (own_call hbel HE1.out) hiE
      have hxb := HE.out i hiE
      have HPi := Lib.hid (fun j hj => HP.out i j hiE hj)
      obtain ⟨⟨xu, xv⟩, hxe⟩ : ∃ z, E[i] = z := ⟨_, rfl⟩
      rw [hxe] at d1 d2 hxb HPi
      simp only at d1 d2 hxb HPi
      have ng : ¬ w.heap.size + 1 + 1 + 1 + 1 = wr.heap.size := by omega
      have kI : (i : Int) < 2 := by omega
      have hlo := own_lt hown
      clear hxe HSp HP HE hc1
      go_wp2_with fail
      refine (HB2.out _).mono ?_
      rintro e3 v2 ⟨rfl, hb2, hB2⟩
      have hZ2 := hB2.size
      (try simp at hZ2)
      have hA2 : Blk v2 wr.heap.size 118 #[.int .i64 xu, .int .i64 xv] := Blk.call (by (repeat (first | with_reducible assumption | (with_reducible apply Blk.new_at; (first | rfl | (simp; done))) | with_reducible apply Blk.store3 | with_reducible apply Blk.store4 | (with_reducible apply Blk.farp; (first | omega | (simp <;> omega))) | with_reducible apply Blk.allocp | with_reducible apply Blk.drew | with_reducible apply Blk.drewN))) hB2
      have hown2 := own_call hB2 (own_alloc hown)
      have hbel2 : Below v1.heap.size v1 v2 := (by repeat (first | with_reducible exact Below.refl _ _ | with_reducible assumption | with_reducible apply Below.drew | with_reducible apply below_drewN | (with_reducible apply below_setp; (first | omega | (simp <;> omega))) | (with_reducible apply below_allocp; (first | omega | (simp <;> omega))) | (with_reducible refine below_viap (by assumption) ?_ ?_; (first | omega | (simp <;> omega)))))
      clear hB2
      go_wp2
      go_loopw [7, 31] (fun v7 v31 wi => PdIn P i v1 wr.heap.size (wr.heap.size + 1 + 1) xu xv a' b' v7 v31 wi) (fun _ v31 _ => 2 - (intOf v31).toNat)
      case atStart => exact ⟨0, rfl, by omega, hown2, hA2, by simpa using hb2, fun he => by have := hlo _ he; omega, fun he => by have := hlo _ he; omega, hbel2⟩
      case round =>
        obtain ⟨j, rfl, hj2, hown', hA', hE', hnA, hnE, hbel'⟩ := hrel
        have hz' := hbel'.size
        have cA := hA'.cell; have fA := hA'.frozen; have lA := hA'.lt; have mA := Nat.ne_of_gt lA; have nA := Nat.ne_of_lt lA
        by_cases hltj : j < 2
        · have hjE : j < E'.length := by have := hc2.out.2; omega
          obtain ⟨lgB, c1, c2⟩ := own_elemQ (w := wr) (L := E') (by rw [← hc2.out.1, ← hc2.out.2]; exact own_blk4 hE') hjE
          obtain ⟨U, V, hst, hU, hV⟩ := HPi.out j hjE
          have hyb := HE'.out j hjE
          obtain ⟨⟨yu, yv⟩, hye⟩ : ∃ z, E'[j] = z := ⟨_, rfl⟩
          rw [hye] at c1 c2 hyb hU hV
          simp only at c1 c2 hyb hU hV
          have hM := Lib.hid (fun w => idMul_any d xu xv yu yv U V w ⟨hd.1, by omega⟩ hxb.1 hyb.1 hxb.2 hyb.2 hU hV)
          have HST := Lib.hid hst
          have jI : (j : Int) < 2 := by omega
          have hPl : (P.take (2 * i + j)).length ≤ 4 := by rw [List.length_take, HPl.out]; exact Nat.min_le_right _ _
          have ngB := Nat.ne_of_lt lgB
          clear hst hU hV hye hxb hyb
          go_wp2_with (first
            | (go_at_call 89; (with_reducible refine (hM.out _).mono ?_); rintro e v3 ⟨rfl, hB3⟩; have hZ3 := hB3.size; (try simp at hZ3); have hown3 := own_call hB3 (own_alloc hown'); have hA3 := Blk.call (hA'.alloc _) hB3; have hE3 := Blk.call (hE'.alloc _) hB3; have hbel3 : Below v1.heap.size v1 v3 := (by repeat (first | with_reducible exact Below.refl _ _ | with_reducible assumption | with_reducible apply Below.drew | with_reducible apply below_drewN | (with_reducible apply below_setp; (first | omega | (simp <;> omega))) | (with_reducible apply below_allocp; (first | omega | (simp <;> omega))) | (with_reducible refine below_viap (by assumption) ?_ ?_; (first | omega | (simp <;> omega))))))
            | (at_builtin; refine wpList_append_own_at _ rfl (.tmp 35) (.tmp 40) 115 rfl v1.heap.size 118 i0 _ 2 16 Try.underlying115 hi hz0 hz1 hz2 rfl (by decide) _ _ _ rfl (own_alloc hown3) ⟨v3.heap.size, 0, none⟩ 1 1 [.int .i64 U, .int .i64 V] rfl rfl (cells2 (Blk.new_at (by simp))) (one2 _ _) ?_ ?_ ?_ ?_; (unfold maxLen; omega); omega; (simp; omega); intro x9 w9 hown9 hg9 _ hloc9))
          have hA9 := Blk.grown (hA3.alloc _) hg9 (fun he => hnA he.symm)
          have hE9 := Blk.grown (hE3.alloc _) hg9 (fun he => hnE he.symm)
          have hb9 : Below v1.heap.size v1 w9 := below_grown (own_ge hown') (by simp; omega) hg9 (by repeat (first | with_reducible exact Below.refl _ _ | with_reducible assumption | with_reducible apply Below.drew | with_reducible apply below_drewN | (with_reducible apply below_setp; (first | omega | (simp <;> omega))) | (with_reducible apply below_allocp; (first | omega | (simp <;> omega))) | (with_reducible refine below_viap (by assumption) ?_ ?_; (first | omega | (simp <;> omega)))))
          have ho9 := own_snocP (p := (U, V)) HST.out hown9
          have nA9 := ne_back hnA (by simp; omega) hloc9
          have nE9 := ne_back hnE (by simp; omega) hloc9
          clear hg9 hown9 hown' hown3 hloc9
          go_wp2
          go_roundw
          case rel => exact ⟨j + 1, by go_num, hltj, ho9, hA9, hE9, nA9, nE9, hb9⟩
          case measure => simp [intOf] <;> omega
        · have ej : j = 2 := by omega
          subst ej
          have jI : ¬ ((2 : Nat) : Int) < 2 := by decide
          rw [show 2 * i + 2 = 2 * (i + 1) by omega] at hown'
          go_wp2
          go_roundw
          case rel => exact ⟨i + 1, by go_num, hlt, hown', hbel'⟩
          case measure => simp [intOf] <;> omega
    · have ei : i = 2 := by omega
      subst ei
      rw [List.take_of_length_le (by rw [HPl.out]; omega)] at hown
      clear hlt
      go_wp2_with (go_at_call 90; (with_reducible refine (HSp.out _ _ _ hown).mono ?_); rintro e v4 ⟨rfl, hB4⟩; have hZ4 := hB4.size; (try simp at hZ4); (try have zl4 : w.heap.size < v4.heap.size := by omega); (try have ze4 : w.heap.size ≤ v4.heap.size := by omega); (try have zn4 : ¬ w.heap.size = v4.heap.size := by omega); (try have zm4 : ¬ v4.heap.size = w.heap.size := by omega); have hX4 : Blk v4 (w.heap.size) 25 #[.int .i64 e1, .int .i64 a, .int .i64 b] := Blk.call (by (repeat (first | with_reducible assumption | (with_reducible apply Blk.new_at; (first | rfl | (simp; done))) | with_reducible apply Blk.store3 | with_reducible apply Blk.store4 | (with_reducible apply Blk.farp; (first | omega | (simp <;> omega))) | with_reducible apply Blk.allocp | with_reducible apply Blk.drew | with_reducible apply Blk.drewN))) hB4; have cX4 := hX4.cell; have fX4 := hX4.frozen; have lX4 := hX4.lt; have mX4 := Nat.ne_of_gt lX4; have nX4 := Nat.ne_of_lt lX4; have hY4 : Blk v4 (w.heap.size + 1) 25 #[.int .i64 e2, .int .i64 a', .int .i64 b'] := Blk.call (by (repeat (first | with_reducible assumption | (with_reducible apply Blk.new_at; (first | rfl | (simp; done))) | with_reducible apply Blk.store3 | with_reducible apply Blk.store4 | (with_reducible apply Blk.farp; (first | omega | (simp <;> omega))) | with_reducible apply Blk.allocp | with_reducible apply Blk.drew | with_reducible apply Blk.drewN))) hB4; have cY4 := hY4.cell; have fY4 := hY4.frozen; have lY4 := hY4.lt; have mY4 := Nat.ne_of_gt lY4; have nY4 := Nat.ne_of_lt lY4; have hR4 : Blk v4 (w.heap.size + 1 + 1) 25 #[.int .i64 0, .int .i64 0, .int .i64 0] := Blk.call (by (repeat (first | with_reducible assumption | (with_reducible apply Blk.new_at; (first | rfl | (simp; done))) | with_reducible apply Blk.store3 | with_reducible apply Blk.store4 | (with_reducible apply Blk.farp; (first | omega | (simp <;> omega))) | with_reducible apply Blk.allocp | with_reducible apply Blk.drew | with_reducible apply Blk.drewN))) hB4; have cR4 := hR4.cell; have fR4 := hR4.frozen; have lR4 := hR4.lt; have mR4 := Nat.ne_of_gt lR4; have nR4 := Nat.ne_of_lt lR4)
      exact bodyPost_ret (v := .agg #[.int .i64 G, .int .i64 A, .int .i64 R]) (by simp [results, Try.results44, go_sem, *]) rfl ⟨rfl, (by repeat (first | with_reducible exact Below.refl _ _ | with_reducible assumption | with_reducible apply Below.drew | with_reducible apply below_drewN | (with_reducible apply below_setp; (first | omega | (simp <;> omega))) | (with_reducible apply below_allocp; (first | omega | (simp <;> omega))) | (with_reducible refine below_viap (by assumption) ?_ ?_; (first | omega | (simp <;> omega)))))⟩
end Go.Proofs.Ytjjkndgokdofdaa
