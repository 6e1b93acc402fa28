/- Contracts: the matrix of a word, of both sides (written by gen_WE.py). -/
import Derived.Test.YtdaofpjanklmeaaWD
namespace Go.Proofs.Ytdaofpjanklmeaa
open Go.RowKit Go

/-- Whether the matrices on the way have numbers of the program. -/
def wordB (L : List Int) : Bool := (List.range L.length).all fun j => numM (wordM (L.take (j + 1)))
theorem wordB_no {L : List Int} {k : Nat} (h : k < L.length) (hb : numM (wordM (L.take (k + 1))) = false) : wordB L = false := by
  unfold wordB
  rw [List.all_eq_false]
  exact ⟨k, List.mem_range.2 h, by rw [hb]; simp⟩
theorem wordB_yes {L : List Int} (h : ∀ j, j < L.length → numM (wordM (L.take (j + 1))) = true) : wordB L = true := by
  unfold wordB
  rw [List.all_eq_true]
  exact fun j hj => h j (List.mem_range.1 hj)
/-- What WordMatrix answers. -/
def WmR (s : Int) (L : List Int) (m : M4) (ok : Bool) : Prop := (isWd s L = false ∧ m = zM ∧ ok = false) ∨ (isWd s L = true ∧ wordB L = false ∧ m = zM ∧ ok = false) ∨ (isWd s L = true ∧ wordB L = true ∧ m = sgM s (wordM L) ∧ ok = true)
theorem wmR_ex (s : Int) (L : List Int) : ∃ m ok, WmR s L m ok := by
  cases h1 : isWd s L with
  | false => exact ⟨_, _, .inl ⟨h1, rfl, rfl⟩⟩
  | true =>
    cases h2 : wordB L with
    | false => exact ⟨_, _, .inr (.inl ⟨h1, h2, rfl, rfl⟩)⟩
    | true => exact ⟨_, _, .inr (.inr ⟨h1, h2, rfl, rfl⟩)⟩
theorem wordM_next {L : List Int} {k : Nat} (h : k < L.length) (h0 : 0 < k) : ((wordM (L.take k)).mul swM).mul (tM L[k]) = wordM (L.take (k + 1)) := by
  rw [List.take_succ_eq_append_getElem h]
  refine (wordM_snoc ?_ L[k]).symm
  intro e
  have := congrArg List.length e
  rw [List.length_take, List.length_nil] at this
  omega
theorem wordM_first {L : List Int} (h : 0 < L.length) : (wordM (L.take 0)).mul (tM L[0]) = wordM (L.take (0 + 1)) := by
  rw [List.take_succ_eq_append_getElem h]
  simp [wordM, evW, one_mul4]
theorem numI_bd {L : List Int} (h : L.all isNum = true) {k : Nat} (hk : k < L.length) : -1000000 ≤ L[k] ∧ L[k] ≤ 1000000 := by
  rw [List.all_eq_true] at h
  exact (isNum_iff _).1 (h _ (List.getElem_mem hk))
theorem bd2 {m : M4} (h : (-1000000 ≤ m.p ∧ m.p ≤ 1000000) ∧ (-1000000 ≤ m.q ∧ m.q ≤ 1000000) ∧ (-1000000 ≤ m.r ∧ m.r ≤ 1000000) ∧ (-1000000 ≤ m.s ∧ m.s ≤ 1000000)) :
    (-2000000 ≤ m.p ∧ m.p ≤ 2000000) ∧ (-2000000 ≤ m.q ∧ m.q ≤ 2000000) ∧ (-2000000 ≤ m.r ∧ m.r ≤ 2000000) ∧ (-2000000 ≤ m.s ∧ m.s ≤ 2000000) := by omega
theorem cur_bd {L : List Int} {k : Nat} (h : ∀ j, j < k → numM (wordM (L.take (j + 1))) = true) : (-1000000 ≤ (wordM (L.take k)).p ∧ (wordM (L.take k)).p ≤ 1000000) ∧ (-1000000 ≤ (wordM (L.take k)).q ∧ (wordM (L.take k)).q ≤ 1000000) ∧ (-1000000 ≤ (wordM (L.take k)).r ∧ (wordM (L.take k)).r ≤ 1000000) ∧ (-1000000 ≤ (wordM (L.take k)).s ∧ (wordM (L.take k)).s ≤ 1000000) := by
  cases k with
  | zero => simp [wordM, M4.one]
  | succ k => exact numM_bd (h k (by omega))
set_option maxHeartbeats 400000 in
theorem swap_any (w : World) : Calls Try.prog 122 #[] w fun e w' => e = .returned (.agg #[.int .i64 swM.p, .int .i64 swM.q, .int .i64 swM.r, .int .i64 swM.s]) ∧ Below w.heap.size w w' := by
  go_enter Try.func122, Try.ntmps122
  go_wp2
  exact bodyPost_ret (v := .agg #[.int .i64 0, .int .i64 (-1), .int .i64 1, .int .i64 0]) (by simp [results, Try.results122, go_sem, *]) rfl ⟨rfl, (by repeat (first | with_reducible exact Below.refl _ _ | with_reducible assumption | with_reducible apply Below.drew | with_reducible apply below_drewN | (with_reducible apply below_setp; (first | omega | (simp <;> omega))) | (with_reducible apply below_allocp; (first | omega | (simp <;> omega))) | (with_reducible refine below_viap (by assumption) ?_ ?_; (first | omega | (simp <;> omega)))))⟩
set_option maxHeartbeats 400000 in
theorem negative_any (m : M4) (w : World) (h : (-1000000 ≤ m.p ∧ m.p ≤ 1000000) ∧ (-1000000 ≤ m.q ∧ m.q ≤ 1000000) ∧ (-1000000 ≤ m.r ∧ m.r ≤ 1000000) ∧ (-1000000 ≤ m.s ∧ m.s ≤ 1000000)) :
    Calls Try.prog 123 #[.agg #[.int .i64 m.p, .int .i64 m.q, .int .i64 m.r, .int .i64 m.s]] w fun e w' => e = .returned (.agg #[.int .i64 (-m.p), .int .i64 (-m.q), .int .i64 (-m.r), .int .i64 (-m.s)]) ∧ Below w.heap.size w w' := by
  obtain ⟨⟨a1, a2⟩, ⟨b1, b2⟩, ⟨c1, c2⟩, ⟨d1, d2⟩⟩ := h
  go_enter Try.func123, Try.ntmps123
  go_wp2
  exact bodyPost_ret (v := .agg #[.int .i64 (-m.p), .int .i64 (-m.q), .int .i64 (-m.r), .int .i64 (-m.s)]) (by simp [results, Try.results123, go_sem, *]) rfl ⟨rfl, (by repeat (first | with_reducible exact Below.refl _ _ | with_reducible assumption | with_reducible apply Below.drew | with_reducible apply below_drewN | (with_reducible apply below_setp; (first | omega | (simp <;> omega))) | (with_reducible apply below_allocp; (first | omega | (simp <;> omega))) | (with_reducible refine below_viap (by assumption) ?_ ?_; (first | omega | (simp <;> omega)))))⟩
/-- The state of the loop. -/
def WmSt (s : Int) (L : List Int) (v : Value) (MB : Nat) (w : World) (vi : Value) (wr : World) : Prop :=
  ∃ k : Nat, vi = .int .i64 k ∧ k ≤ L.length ∧ Hid (∀ j, j < k → numM (wordM (L.take (j + 1))) = true) ∧ Blk wr w.heap.size 70 #[.int .i64 s, v] ∧ Blk wr (w.heap.size + 1) 49 #[.int .i64 0, .int .i64 0, .int .i64 0, .int .i64 0] ∧ Blk wr MB 49 #[.int .i64 (wordM (L.take k)).p, .int .i64 (wordM (L.take k)).q, .int .i64 (wordM (L.take k)).r, .int .i64 (wordM (L.take k)).s] ∧ Below w.heap.size w wr
set_option maxRecDepth 100000 in
set_option maxHeartbeats 12800000 in
theorem implWM_any (s : Int) (v : Value) (B : Nat) (L : List Int) (m : M4) (ok : Bool) (w : World) (hs0 : sgn64 s) (ho : OwnE w B v L) (h : WmR s L m ok) :
    Calls Try.prog 39 #[.agg #[.int .i64 s, v]] w fun e w' => e = .returned (.tuple #[.agg #[.int .i64 m.p, .int .i64 m.q, .int .i64 m.r, .int .i64 m.s], .bool ok]) ∧ Below w.heap.size w w' := by
  obtain ⟨vb, vc, rfl⟩ := own_shape ho.2
  have hIs := Lib.hid (fun w (ho : OwnE w B (.slice vb L.length vc) L) => isWord_any s (.slice vb L.length vc) B L w hs0 ho)
  have HO := Lib.hid ho
  have hal : OwnE (((w.alloc (.cells #[.int .i64 s, .slice vb L.length vc] 70)).alloc (.cells #[.int .i64 0, .int .i64 0, .int .i64 0, .int .i64 0] 49))) B (.slice vb L.length vc) L := ⟨ho.1, own_alloc (own_alloc ho.2)⟩
  have hP := Lib.hid (fun w => one_gen w)
  by_cases hw : isWd s L = true
  · obtain ⟨hs1, hn1, hn2, hall⟩ := isWd_yes hw
    obtain ⟨mo, hmo⟩ : ∃ mo : M4 × Bool, (m, ok) = mo := ⟨_, rfl⟩
    have HM := Lib.hid (show (wordB L = false ∧ m = zM ∧ ok = false) ∨ (wordB L = true ∧ m = sgM s (wordM L) ∧ ok = true) from by
      rcases h with ⟨k, _⟩ | ⟨_, k1, k2, k3⟩ | ⟨_, k1, k2, k3⟩
      · rw [hw] at k; cases k
      · exact .inl ⟨k1, k2, k3⟩
      · exact .inr ⟨k1, k2, k3⟩)
    clear hmo mo h
    rw [hw] at hIs
    have HA := Lib.hid hall
    clear hw hall
    go_enter Try.func39, Try.ntmps39
    go_wp2_with (first
      | (go_at_call 119; (with_reducible refine (hIs.out _ hal).mono ?_); rintro e v1 ⟨rfl, hB1⟩; have hZ1 := hB1.size; (try simp at hZ1); (try have zl1 : w.heap.size < v1.heap.size := by omega); (try have ze1 : w.heap.size ≤ v1.heap.size := by omega); (try have zn1 : ¬ w.heap.size = v1.heap.size := by omega); (try have zm1 : ¬ v1.heap.size = w.heap.size := by omega); have hA1 : Blk v1 (w.heap.size) 70 #[.int .i64 s, .slice vb L.length vc] := Blk.call (by (repeat (first | with_reducible assumption | (with_reducible apply Blk.new_at; (first | rfl | (simp; done))) | with_reducible apply Blk.store3 | with_reducible apply Blk.store4 | (with_reducible apply Blk.farp; (first | omega | (simp <;> omega))) | with_reducible apply Blk.allocp | with_reducible apply Blk.drew | with_reducible apply Blk.drewN))) hB1; have cA1 := hA1.cell; have fA1 := hA1.frozen; have lA1 := hA1.lt; have mA1 := Nat.ne_of_gt lA1; have nA1 := Nat.ne_of_lt lA1; have hR1 : Blk v1 (w.heap.size + 1) 49 #[.int .i64 0, .int .i64 0, .int .i64 0, .int .i64 0] := Blk.call (by (repeat (first | with_reducible assumption | (with_reducible apply Blk.new_at; (first | rfl | (simp; done))) | with_reducible apply Blk.store3 | with_reducible apply Blk.store4 | (with_reducible apply Blk.farp; (first | omega | (simp <;> omega))) | with_reducible apply Blk.allocp | with_reducible apply Blk.drew | with_reducible apply Blk.drewN))) hB1; have cR1 := hR1.cell; have fR1 := hR1.frozen; have lR1 := hR1.lt; have mR1 := Nat.ne_of_gt lR1; have nR1 := Nat.ne_of_lt lR1)
      | (go_at_call 120; (with_reducible refine (hP.out _).mono ?_); rintro e v2 ⟨rfl, hB2⟩; have hZ2 := hB2.size; (try simp at hZ2); (try have zl2 : w.heap.size < v2.heap.size := by omega); (try have ze2 : w.heap.size ≤ v2.heap.size := by omega); (try have zn2 : ¬ w.heap.size = v2.heap.size := by omega); (try have zm2 : ¬ v2.heap.size = w.heap.size := by omega); have hA2 : Blk v2 (w.heap.size) 70 #[.int .i64 s, .slice vb L.length vc] := Blk.call (by (repeat (first | with_reducible assumption | (with_reducible apply Blk.new_at; (first | rfl | (simp; done))) | with_reducible apply Blk.store3 | with_reducible apply Blk.store4 | (with_reducible apply Blk.farp; (first | omega | (simp <;> omega))) | with_reducible apply Blk.allocp | with_reducible apply Blk.drew | with_reducible apply Blk.drewN))) hB2; have cA2 := hA2.cell; have fA2 := hA2.frozen; have lA2 := hA2.lt; have mA2 := Nat.ne_of_gt lA2; have nA2 := Nat.ne_of_lt lA2; have hR2 : Blk v2 (w.heap.size + 1) 49 #[.int .i64 0, .int .i64 0, .int .i64 0, .int .i64 0] := Blk.call (by (repeat (first | with_reducible assumption | (with_reducible apply Blk.new_at; (first | rfl | (simp; done))) | with_reducible apply Blk.store3 | with_reducible apply Blk.store4 | (with_reducible apply Blk.farp; (first | omega | (simp <;> omega))) | with_reducible apply Blk.allocp | with_reducible apply Blk.drew | with_reducible apply Blk.drewN))) hB2; have cR2 := hR2.cell; have fR2 := hR2.frozen; have lR2 := hR2.lt; have mR2 := Nat.ne_of_gt lR2; have nR2 := Nat.ne_of_lt lR2))
    have hM2 : Blk (v2.alloc (.cells #[.int .i64 1, .int .i64 0, .int .i64 0, .int .i64 1] 49)) v2.heap.size 49 #[.int .i64 M4.one.p, .int .i64 M4.one.q, .int .i64 M4.one.r, .int .i64 M4.one.s] := Blk.new _ _ _
    have hA3 : Blk (v2.alloc (.cells #[.int .i64 1, .int .i64 0, .int .i64 0, .int .i64 1] 49)) w.heap.size 70 #[.int .i64 s, .slice vb L.length vc] := Blk.allocp hA2
    have hR3 : Blk (v2.alloc (.cells #[.int .i64 1, .int .i64 0, .int .i64 0, .int .i64 1] 49)) (w.heap.size + 1) 49 #[.int .i64 0, .int .i64 0, .int .i64 0, .int .i64 0] := Blk.allocp hR2
    have hb3 : Below w.heap.size w (v2.alloc (.cells #[.int .i64 1, .int .i64 0, .int .i64 0, .int .i64 1] 49)) := (by repeat (first | with_reducible exact Below.refl _ _ | with_reducible assumption | with_reducible apply Below.drew | with_reducible apply below_drewN | (with_reducible apply below_setp; (first | omega | (simp <;> omega))) | (with_reducible apply below_allocp; (first | omega | (simp <;> omega))) | (with_reducible refine below_viap (by assumption) ?_ ?_; (first | omega | (simp <;> omega)))))
    go_loopw [15] (fun vi wr => WmSt s L (.slice vb L.length vc) v2.heap.size w vi wr) (fun vi _ => L.length - (intOf vi).toNat)
    case atStart => exact ⟨0, rfl, Nat.zero_le _, Lib.hid (fun j hj => absurd hj (Nat.not_lt_zero j)), hA3, hR3, hM2, hb3⟩
    case round =>
      clear hM2 hA3 hR3 hb3 hA1 cA1 fA1 lA1 mA1 nA1 hR1 cR1 fR1 lR1 mR1 nR1 hA2 cA2 fA2 lA2 mA2 nA2 hR2 cR2 fR2 mR2 nR2 hB1 hB2 hP hIs hal
      obtain ⟨MB, hMB⟩ : ∃ MB, v2.heap.size = MB := ⟨_, rfl⟩
      have hMw : w.heap.size + 1 < MB := by omega
      rw [hMB] at hrel ⊢
      clear hMB lR2
      obtain ⟨k, rfl, hk, hall, hA, hR, hM, hbel⟩ := hrel
      have hz := hbel.size
      have cA := hA.cell; have fA := hA.frozen; have lA := hA.lt; have mA := Nat.ne_of_gt lA; have nA := Nat.ne_of_lt lA
      have cR := hR.cell; have fR := hR.frozen; have lR := hR.lt; have mR := Nat.ne_of_gt lR; have nR := Nat.ne_of_lt lR
      have cM := hM.cell; have fM := hM.frozen; have lM := hM.lt; have mM := Nat.ne_of_gt lM; have nM := Nat.ne_of_lt lM
      have q1 : ¬ w.heap.size = MB := by omega
      have q2 : ¬ MB = w.heap.size := by omega
      have q3 : ¬ w.heap.size + 1 = MB := by omega
      have q4 : ¬ MB = w.heap.size + 1 := by omega
      by_cases hlt : k < L.length
      · obtain ⟨g, rfl, lg, d1⟩ := own_elemI (own_call hbel HO.out.2) hlt
        obtain ⟨e1, e2⟩ := numI_bd HA.out hlt
        have cb := cur_bd hall.out
        obtain ⟨b1, b2, b3, b4⟩ := bd2 cb
        by_cases h0 : 0 < k
        · have hnx := wordM_next hlt h0
          have cs : (-1000000 ≤ ((wordM (L.take k)).mul swM).p ∧ ((wordM (L.take k)).mul swM).p ≤ 1000000) ∧ (-1000000 ≤ ((wordM (L.take k)).mul swM).q ∧ ((wordM (L.take k)).mul swM).q ≤ 1000000) ∧ (-1000000 ≤ ((wordM (L.take k)).mul swM).r ∧ ((wordM (L.take k)).mul swM).r ≤ 1000000) ∧ (-1000000 ≤ ((wordM (L.take k)).mul swM).s ∧ ((wordM (L.take k)).mul swM).s ≤ 1000000) := by
            unfold M4.mul swM; simp only; omega
          obtain ⟨c1, c2, c3, c4⟩ := bd2 cs
          have hT1 := Lib.hid (fun w => times_mul (m := wordM (L.take k)) (n := swM) b1 b2 b3 b4 (by decide) (by decide) (by decide) (by decide) w)
          have hT2 := fun w => times_mul (m := (wordM (L.take k)).mul swM) (n := tM L[k]) c1 c2 c3 c4 (by simp [tM]) (by simp [tM]; omega) (by simp [tM]) (by simp [tM]) w
          have hSw := Lib.hid (fun w => swap_any w)
          rw [hnx] at hT2
          have hN := fun w => isMx_any (wordM (L.take (k + 1))) w
          have kI : (0 : Int) < (k : Int) := by omega
          have hno := Lib.hid (fun h => wordB_no (L := L) hlt h)
          have hyes := Lib.hid (fun (h : numM (wordM (L.take (k + 1))) = true) (j : Nat) (hj : j < k + 1) => (show numM (wordM (L.take (j + 1))) = true from by rcases Nat.lt_or_ge j k with a | a; exact hall.out j a; exact (show j = k by omega) ▸ h))
          clear hnx cs cb
          generalize (wordM (L.take k)).mul swM = D at *
          generalize wordM (L.take k) = C at *
          generalize hNe : wordM (L.take (k + 1)) = N at *
          replace hNe := Lib.hid hNe
          generalize L[k] = x at *
          simp only [tM] at hT2
          replace hT2 := Lib.hid hT2
          by_cases hb : numM N = true
          · rw [hb] at hN
            replace hN := Lib.hid hN
            go_wp2
            refine wp_region_calm 3 (Below (wr.heap.size) _) (by kernel_rfl) (by kernel_rfl) ((Below.refl _ _).drew) ?_
            simp only [List.take_succ_cons, List.take_zero, List.drop_succ_cons, List.drop_zero]
            repeat (first | (apply wpCalm_go; go_simp; (intro w' hw' hcc hff; go_simp; first | exact rfl | ((with_reducible refine (hSw.out _).mono ?_); rintro ee w1 ⟨rfl, hb⟩; exact ⟨rfl, calm_call (by simp <;> omega) hw' hb⟩) | ((with_reducible refine (hT1.out _).mono ?_); rintro ee w1 ⟨rfl, hb⟩; exact ⟨rfl, calm_call (by simp <;> omega) hw' hb⟩)); (intro K hK; go_simp; refine hK _ ?_; clear hK K)) | (apply wpCalm_skip; go_simp; (try (focus (simp [undef]; done))); (intro K hK; go_simp; refine hK _ ?_; clear hK K)))
            refine wpCalm_nil ?_
            intro w1 hw1
            have hcc := (calm_cells hw1).1
            have hff := (calm_cells hw1).2
            have hss := calm_size hw1
            have hsz := hw1.size
            (try simp at hsz)
            have hA5 : Blk w1 (w.heap.size) 70 #[.int .i64 s, .slice (some ⟨g, 0, none⟩) L.length vc] := Blk.below (by (repeat (first | with_reducible assumption | (with_reducible apply Blk.new_at; (first | rfl | (simp; done))) | with_reducible apply Blk.store3 | with_reducible apply Blk.store4 | (with_reducible apply Blk.farp; (first | omega | (simp <;> omega))) | with_reducible apply Blk.allocp | with_reducible apply Blk.drew | with_reducible apply Blk.drewN))) hw1 (by first | omega | (simp <;> omega))
            have cA5 := hA5.cell; have fA5 := hA5.frozen; have lA5 := hA5.lt; have mA5 := Nat.ne_of_gt lA5; have nA5 := Nat.ne_of_lt lA5
            have hR5 : Blk w1 (w.heap.size + 1) 49 #[.int .i64 0, .int .i64 0, .int .i64 0, .int .i64 0] := Blk.below (by (repeat (first | with_reducible assumption | (with_reducible apply Blk.new_at; (first | rfl | (simp; done))) | with_reducible apply Blk.store3 | with_reducible apply Blk.store4 | (with_reducible apply Blk.farp; (first | omega | (simp <;> omega))) | with_reducible apply Blk.allocp | with_reducible apply Blk.drew | with_reducible apply Blk.drewN))) hw1 (by first | omega | (simp <;> omega))
            have cR5 := hR5.cell; have fR5 := hR5.frozen; have lR5 := hR5.lt; have mR5 := Nat.ne_of_gt lR5; have nR5 := Nat.ne_of_lt lR5
            have hM5 : Blk w1 (MB) 49 #[.int .i64 C.p, .int .i64 C.q, .int .i64 C.r, .int .i64 C.s] := Blk.below (by (repeat (first | with_reducible assumption | (with_reducible apply Blk.new_at; (first | rfl | (simp; done))) | with_reducible apply Blk.store3 | with_reducible apply Blk.store4 | (with_reducible apply Blk.farp; (first | omega | (simp <;> omega))) | with_reducible apply Blk.allocp | with_reducible apply Blk.drew | with_reducible apply Blk.drewN))) hw1 (by first | omega | (simp <;> omega))
            have cM5 := hM5.cell; have fM5 := hM5.frozen; have lM5 := hM5.lt; have mM5 := Nat.ne_of_gt lM5; have nM5 := Nat.ne_of_lt lM5
            have hb5 : Below w.heap.size w w1 := (by repeat (first | with_reducible exact Below.refl _ _ | with_reducible assumption | with_reducible apply Below.drew | with_reducible apply below_drewN | (with_reducible apply below_setp; (first | omega | (simp <;> omega))) | (with_reducible apply below_allocp; (first | omega | (simp <;> omega))) | (with_reducible refine below_viap (by assumption) ?_ ?_; (first | omega | (simp <;> omega)))))
            clear hcc hff hss hw1 cA fA lA mA nA hA cR fR lR mR nR hR cM fM lM mM nM hM
            go_wp2_with (first | (go_at_call 121; (with_reducible refine (hT2.out _).mono ?_); rintro e v6 ⟨rfl, hB6⟩; have hZ6 := hB6.size; (try simp at hZ6); (try have zl6 : w.heap.size < v6.heap.size := by omega); (try have ze6 : w.heap.size ≤ v6.heap.size := by omega); (try have zn6 : ¬ w.heap.size = v6.heap.size := by omega); (try have zm6 : ¬ v6.heap.size = w.heap.size := by omega); have hA6 : Blk v6 (w.heap.size) 70 #[.int .i64 s, .slice (some ⟨g, 0, none⟩) L.length vc] := Blk.call (by (repeat (first | with_reducible assumption | (with_reducible apply Blk.new_at; (first | rfl | (simp; done))) | with_reducible apply Blk.store3 | with_reducible apply Blk.store4 | (with_reducible apply Blk.farp; (first | omega | (simp <;> omega))) | with_reducible apply Blk.allocp | with_reducible apply Blk.drew | with_reducible apply Blk.drewN))) hB6; have cA6 := hA6.cell; have fA6 := hA6.frozen; have lA6 := hA6.lt; have mA6 := Nat.ne_of_gt lA6; have nA6 := Nat.ne_of_lt lA6; have hR6 : Blk v6 (w.heap.size + 1) 49 #[.int .i64 0, .int .i64 0, .int .i64 0, .int .i64 0] := Blk.call (by (repeat (first | with_reducible assumption | (with_reducible apply Blk.new_at; (first | rfl | (simp; done))) | with_reducible apply Blk.store3 | with_reducible apply Blk.store4 | (with_reducible apply Blk.farp; (first | omega | (simp <;> omega))) | with_reducible apply Blk.allocp | with_reducible apply Blk.drew | with_reducible apply Blk.drewN))) hB6; have cR6 := hR6.cell; have fR6 := hR6.frozen; have lR6 := hR6.lt; have mR6 := Nat.ne_of_gt lR6; have nR6 := Nat.ne_of_lt lR6; have hM6 : Blk v6 (MB) 49 #[.int .i64 D.p, .int .i64 D.q, .int .i64 D.r, .int .i64 D.s] := Blk.call (by (repeat (first | with_reducible assumption | (with_reducible apply Blk.new_at; (first | rfl | (simp; done))) | with_reducible apply Blk.store3 | with_reducible apply Blk.store4 | (with_reducible apply Blk.farp; (first | omega | (simp <;> omega))) | with_reducible apply Blk.allocp | with_reducible apply Blk.drew | with_reducible apply Blk.drewN))) hB6; have cM6 := hM6.cell; have fM6 := hM6.frozen; have lM6 := hM6.lt; have mM6 := Nat.ne_of_gt lM6; have nM6 := Nat.ne_of_lt lM6) | (go_at_call 92; (with_reducible refine (hN.out _).mono ?_); rintro e v7 ⟨rfl, hB7⟩; have hZ7 := hB7.size; (try simp at hZ7); (try have zl7 : w.heap.size < v7.heap.size := by omega); (try have ze7 : w.heap.size ≤ v7.heap.size := by omega); (try have zn7 : ¬ w.heap.size = v7.heap.size := by omega); (try have zm7 : ¬ v7.heap.size = w.heap.size := by omega); have hA7 : Blk v7 (w.heap.size) 70 #[.int .i64 s, .slice (some ⟨g, 0, none⟩) L.length vc] := Blk.call (by (repeat (first | with_reducible assumption | (with_reducible apply Blk.new_at; (first | rfl | (simp; done))) | with_reducible apply Blk.store3 | with_reducible apply Blk.store4 | (with_reducible apply Blk.farp; (first | omega | (simp <;> omega))) | with_reducible apply Blk.allocp | with_reducible apply Blk.drew | with_reducible apply Blk.drewN))) hB7; have cA7 := hA7.cell; have fA7 := hA7.frozen; have lA7 := hA7.lt; have mA7 := Nat.ne_of_gt lA7; have nA7 := Nat.ne_of_lt lA7; have hR7 : Blk v7 (w.heap.size + 1) 49 #[.int .i64 0, .int .i64 0, .int .i64 0, .int .i64 0] := Blk.call (by (repeat (first | with_reducible assumption | (with_reducible apply Blk.new_at; (first | rfl | (simp; done))) | with_reducible apply Blk.store3 | with_reducible apply Blk.store4 | (with_reducible apply Blk.farp; (first | omega | (simp <;> omega))) | with_reducible apply Blk.allocp | with_reducible apply Blk.drew | with_reducible apply Blk.drewN))) hB7; have cR7 := hR7.cell; have fR7 := hR7.frozen; have lR7 := hR7.lt; have mR7 := Nat.ne_of_gt lR7; have nR7 := Nat.ne_of_lt lR7; have hM7 : Blk v7 (MB) 49 #[.int .i64 N.p, .int .i64 N.q, .int .i64 N.r, .int .i64 N.s] := Blk.call (by (repeat (first | with_reducible assumption | (with_reducible apply Blk.new_at; (first | rfl | (simp; done))) | with_reducible apply Blk.store3 | with_reducible apply Blk.store4 | (with_reducible apply Blk.farp; (first | omega | (simp <;> omega))) | with_reducible apply Blk.allocp | with_reducible apply Blk.drew | with_reducible apply Blk.drewN))) hB7; have cM7 := hM7.cell; have fM7 := hM7.frozen; have lM7 := hM7.lt; have mM7 := Nat.ne_of_gt lM7; have nM7 := Nat.ne_of_lt lM7))
            go_roundw
            case measure => simp [intOf]; omega
            case rel => exact ⟨k + 1, rfl, hlt, Lib.hid (hyes.out hb), (by (repeat (first | with_reducible assumption | (with_reducible apply Blk.new_at; (first | rfl | (simp; done))) | with_reducible apply Blk.store3 | with_reducible apply Blk.store4 | (with_reducible apply Blk.farp; (first | omega | (simp <;> omega))) | with_reducible apply Blk.allocp | with_reducible apply Blk.drew | with_reducible apply Blk.drewN))), (by (repeat (first | with_reducible assumption | (with_reducible apply Blk.new_at; (first | rfl | (simp; done))) | with_reducible apply Blk.store3 | with_reducible apply Blk.store4 | (with_reducible apply Blk.farp; (first | omega | (simp <;> omega))) | with_reducible apply Blk.allocp | with_reducible apply Blk.drew | with_reducible apply Blk.drewN))), (by rw [hNe.out]; (repeat (first | with_reducible assumption | (with_reducible apply Blk.new_at; (first | rfl | (simp; done))) | with_reducible apply Blk.store3 | with_reducible apply Blk.store4 | (with_reducible apply Blk.farp; (first | omega | (simp <;> omega))) | with_reducible apply Blk.allocp | with_reducible apply Blk.drew | with_reducible apply Blk.drewN))), (by repeat (first | with_reducible exact Below.refl _ _ | with_reducible assumption | with_reducible apply Below.drew | with_reducible apply below_drewN | (with_reducible apply below_setp; (first | omega | (simp <;> omega))) | (with_reducible apply below_allocp; (first | omega | (simp <;> omega))) | (with_reducible refine below_viap (by assumption) ?_ ?_; (first | omega | (simp <;> omega)))))⟩
          · have hb' : numM N = false := by simpa using hb
            rw [hb'] at hN
            replace hN := Lib.hid hN
            have hZ : m = zM ∧ ok = false := by
              rcases HM.out with ⟨_, k1, k2⟩ | ⟨k1, _⟩
              · exact ⟨k1, k2⟩
              · rw [hno.out hb'] at k1; cases k1
            obtain ⟨rfl, rfl⟩ := hZ
            go_wp2
            refine wp_region_calm 3 (Below (wr.heap.size) _) (by kernel_rfl) (by kernel_rfl) ((Below.refl _ _).drew) ?_
            simp only [List.take_succ_cons, List.take_zero, List.drop_succ_cons, List.drop_zero]
            repeat (first | (apply wpCalm_go; go_simp; (intro w' hw' hcc hff; go_simp; first | exact rfl | ((with_reducible refine (hSw.out _).mono ?_); rintro ee w1 ⟨rfl, hb⟩; exact ⟨rfl, calm_call (by simp <;> omega) hw' hb⟩) | ((with_reducible refine (hT1.out _).mono ?_); rintro ee w1 ⟨rfl, hb⟩; exact ⟨rfl, calm_call (by simp <;> omega) hw' hb⟩)); (intro K hK; go_simp; refine hK _ ?_; clear hK K)) | (apply wpCalm_skip; go_simp; (try (focus (simp [undef]; done))); (intro K hK; go_simp; refine hK _ ?_; clear hK K)))
            refine wpCalm_nil ?_
            intro w1 hw1
            have hcc := (calm_cells hw1).1
            have hff := (calm_cells hw1).2
            have hss := calm_size hw1
            have hsz := hw1.size
            (try simp at hsz)
            have hA5 : Blk w1 (w.heap.size) 70 #[.int .i64 s, .slice (some ⟨g, 0, none⟩) L.length vc] := Blk.below (by (repeat (first | with_reducible assumption | (with_reducible apply Blk.new_at; (first | rfl | (simp; done))) | with_reducible apply Blk.store3 | with_reducible apply Blk.store4 | (with_reducible apply Blk.farp; (first | omega | (simp <;> omega))) | with_reducible apply Blk.allocp | with_reducible apply Blk.drew | with_reducible apply Blk.drewN))) hw1 (by first | omega | (simp <;> omega))
            have cA5 := hA5.cell; have fA5 := hA5.frozen; have lA5 := hA5.lt; have mA5 := Nat.ne_of_gt lA5; have nA5 := Nat.ne_of_lt lA5
            have hR5 : Blk w1 (w.heap.size + 1) 49 #[.int .i64 0, .int .i64 0, .int .i64 0, .int .i64 0] := Blk.below (by (repeat (first | with_reducible assumption | (with_reducible apply Blk.new_at; (first | rfl | (simp; done))) | with_reducible apply Blk.store3 | with_reducible apply Blk.store4 | (with_reducible apply Blk.farp; (first | omega | (simp <;> omega))) | with_reducible apply Blk.allocp | with_reducible apply Blk.drew | with_reducible apply Blk.drewN))) hw1 (by first | omega | (simp <;> omega))
            have cR5 := hR5.cell; have fR5 := hR5.frozen; have lR5 := hR5.lt; have mR5 := Nat.ne_of_gt lR5; have nR5 := Nat.ne_of_lt lR5
            have hM5 : Blk w1 (MB) 49 #[.int .i64 C.p, .int .i64 C.q, .int .i64 C.r, .int .i64 C.s] := Blk.below (by (repeat (first | with_reducible assumption | (with_reducible apply Blk.new_at; (first | rfl | (simp; done))) | with_reducible apply Blk.store3 | with_reducible apply Blk.store4 | (with_reducible apply Blk.farp; (first | omega | (simp <;> omega))) | with_reducible apply Blk.allocp | with_reducible apply Blk.drew | with_reducible apply Blk.drewN))) hw1 (by first | omega | (simp <;> omega))
            have cM5 := hM5.cell; have fM5 := hM5.frozen; have lM5 := hM5.lt; have mM5 := Nat.ne_of_gt lM5; have nM5 := Nat.ne_of_lt lM5
            have hb5 : Below w.heap.size w w1 := (by repeat (first | with_reducible exact Below.refl _ _ | with_reducible assumption | with_reducible apply Below.drew | with_reducible apply below_drewN | (with_reducible apply below_setp; (first | omega | (simp <;> omega))) | (with_reducible apply below_allocp; (first | omega | (simp <;> omega))) | (with_reducible refine below_viap (by assumption) ?_ ?_; (first | omega | (simp <;> omega)))))
            clear hcc hff hss hw1 cA fA lA mA nA hA cR fR lR mR nR hR cM fM lM mM nM hM
            go_wp2_with (first | (go_at_call 121; (with_reducible refine (hT2.out _).mono ?_); rintro e v6 ⟨rfl, hB6⟩; have hZ6 := hB6.size; (try simp at hZ6); (try have zl6 : w.heap.size < v6.heap.size := by omega); (try have ze6 : w.heap.size ≤ v6.heap.size := by omega); (try have zn6 : ¬ w.heap.size = v6.heap.size := by omega); (try have zm6 : ¬ v6.heap.size = w.heap.size := by omega); have hA6 : Blk v6 (w.heap.size) 70 #[.int .i64 s, .slice (some ⟨g, 0, none⟩) L.length vc] := Blk.call (by (repeat (first | with_reducible assumption | (with_reducible apply Blk.new_at; (first | rfl | (simp; done))) | with_reducible apply Blk.store3 | with_reducible apply Blk.store4 | (with_reducible apply Blk.farp; (first | omega | (simp <;> omega))) | with_reducible apply Blk.allocp | with_reducible apply Blk.drew | with_reducible apply Blk.drewN))) hB6; have cA6 := hA6.cell; have fA6 := hA6.frozen; have lA6 := hA6.lt; have mA6 := Nat.ne_of_gt lA6; have nA6 := Nat.ne_of_lt lA6; have hR6 : Blk v6 (w.heap.size + 1) 49 #[.int .i64 0, .int .i64 0, .int .i64 0, .int .i64 0] := Blk.call (by (repeat (first | with_reducible assumption | (with_reducible apply Blk.new_at; (first | rfl | (simp; done))) | with_reducible apply Blk.store3 | with_reducible apply Blk.store4 | (with_reducible apply Blk.farp; (first | omega | (simp <;> omega))) | with_reducible apply Blk.allocp | with_reducible apply Blk.drew | with_reducible apply Blk.drewN))) hB6; have cR6 := hR6.cell; have fR6 := hR6.frozen; have lR6 := hR6.lt; have mR6 := Nat.ne_of_gt lR6; have nR6 := Nat.ne_of_lt lR6; have hM6 : Blk v6 (MB) 49 #[.int .i64 D.p, .int .i64 D.q, .int .i64 D.r, .int .i64 D.s] := Blk.call (by (repeat (first | with_reducible assumption | (with_reducible apply Blk.new_at; (first | rfl | (simp; done))) | with_reducible apply Blk.store3 | with_reducible apply Blk.store4 | (with_reducible apply Blk.farp; (first | omega | (simp <;> omega))) | with_reducible apply Blk.allocp | with_reducible apply Blk.drew | with_reducible apply Blk.drewN))) hB6; have cM6 := hM6.cell; have fM6 := hM6.frozen; have lM6 := hM6.lt; have mM6 := Nat.ne_of_gt lM6; have nM6 := Nat.ne_of_lt lM6) | (go_at_call 92; (with_reducible refine (hN.out _).mono ?_); rintro e v7 ⟨rfl, hB7⟩; have hZ7 := hB7.size; (try simp at hZ7); (try have zl7 : w.heap.size < v7.heap.size := by omega); (try have ze7 : w.heap.size ≤ v7.heap.size := by omega); (try have zn7 : ¬ w.heap.size = v7.heap.size := by omega); (try have zm7 : ¬ v7.heap.size = w.heap.size := by omega); have hA7 : Blk v7 (w.heap.size) 70 #[.int .i64 s, .slice (some ⟨g, 0, none⟩) L.length vc] := Blk.call (by (repeat (first | with_reducible assumption | (with_reducible apply Blk.new_at; (first | rfl | (simp; done))) | with_reducible apply Blk.store3 | with_reducible apply Blk.store4 | (with_reducible apply Blk.farp; (first | omega | (simp <;> omega))) | with_reducible apply Blk.allocp | with_reducible apply Blk.drew | with_reducible apply Blk.drewN))) hB7; have cA7 := hA7.cell; have fA7 := hA7.frozen; have lA7 := hA7.lt; have mA7 := Nat.ne_of_gt lA7; have nA7 := Nat.ne_of_lt lA7; have hR7 : Blk v7 (w.heap.size + 1) 49 #[.int .i64 0, .int .i64 0, .int .i64 0, .int .i64 0] := Blk.call (by (repeat (first | with_reducible assumption | (with_reducible apply Blk.new_at; (first | rfl | (simp; done))) | with_reducible apply Blk.store3 | with_reducible apply Blk.store4 | (with_reducible apply Blk.farp; (first | omega | (simp <;> omega))) | with_reducible apply Blk.allocp | with_reducible apply Blk.drew | with_reducible apply Blk.drewN))) hB7; have cR7 := hR7.cell; have fR7 := hR7.frozen; have lR7 := hR7.lt; have mR7 := Nat.ne_of_gt lR7; have nR7 := Nat.ne_of_lt lR7; have hM7 : Blk v7 (MB) 49 #[.int .i64 N.p, .int .i64 N.q, .int .i64 N.r, .int .i64 N.s] := Blk.call (by (repeat (first | with_reducible assumption | (with_reducible apply Blk.new_at; (first | rfl | (simp; done))) | with_reducible apply Blk.store3 | with_reducible apply Blk.store4 | (with_reducible apply Blk.farp; (first | omega | (simp <;> omega))) | with_reducible apply Blk.allocp | with_reducible apply Blk.drew | with_reducible apply Blk.drewN))) hB7; have cM7 := hM7.cell; have fM7 := hM7.frozen; have lM7 := hM7.lt; have mM7 := Nat.ne_of_gt lM7; have nM7 := Nat.ne_of_lt lM7))
            exact bodyPost_ret (v := .tuple #[.agg #[.int .i64 0, .int .i64 0, .int .i64 0, .int .i64 0], .bool false]) (by simp [results, Try.results39, go_sem, *]) rfl ⟨rfl, (by repeat (first | with_reducible exact Below.refl _ _ | with_reducible assumption | with_reducible apply Below.drew | with_reducible apply below_drewN | (with_reducible apply below_setp; (first | omega | (simp <;> omega))) | (with_reducible apply below_allocp; (first | omega | (simp <;> omega))) | (with_reducible refine below_viap (by assumption) ?_ ?_; (first | omega | (simp <;> omega)))))⟩
        · have hnx : (wordM (L.take k)).mul (tM L[k]) = wordM (L.take (k + 1)) := by
            have e : k = 0 := by omega
            subst e
            exact wordM_first hlt
          have hT2 := fun w => times_mul (m := wordM (L.take k)) (n := tM L[k]) b1 b2 b3 b4 (by simp [tM]) (by simp [tM]; omega) (by simp [tM]) (by simp [tM]) w
          rw [hnx] at hT2
          have hN := fun w => isMx_any (wordM (L.take (k + 1))) w
          have kI : ¬ (0 : Int) < (k : Int) := by omega
          have hno := Lib.hid (fun h => wordB_no (L := L) hlt h)
          have hyes := Lib.hid (fun (h : numM (wordM (L.take (k + 1))) = true) (j : Nat) (hj : j < k + 1) => (show numM (wordM (L.take (j + 1))) = true from by rcases Nat.lt_or_ge j k with a | a; exact hall.out j a; exact (show j = k by omega) ▸ h))
          clear hnx cb
          generalize wordM (L.take k) = C at *
          generalize hNe : wordM (L.take (k + 1)) = N at *
          replace hNe := Lib.hid hNe
          generalize L[k] = x at *
          simp only [tM] at hT2
          replace hT2 := Lib.hid hT2
          by_cases hb : numM N = true
          · rw [hb] at hN
            replace hN := Lib.hid hN
            go_wp2_with (first | (go_at_call 121; (with_reducible refine (hT2.out _).mono ?_); rintro e v6 ⟨rfl, hB6⟩; have hZ6 := hB6.size; (try simp at hZ6); (try have zl6 : w.heap.size < v6.heap.size := by omega); (try have ze6 : w.heap.size ≤ v6.heap.size := by omega); (try have zn6 : ¬ w.heap.size = v6.heap.size := by omega); (try have zm6 : ¬ v6.heap.size = w.heap.size := by omega); have hA6 : Blk v6 (w.heap.size) 70 #[.int .i64 s, .slice (some ⟨g, 0, none⟩) L.length vc] := Blk.call (by (repeat (first | with_reducible assumption | (with_reducible apply Blk.new_at; (first | rfl | (simp; done))) | with_reducible apply Blk.store3 | with_reducible apply Blk.store4 | (with_reducible apply Blk.farp; (first | omega | (simp <;> omega))) | with_reducible apply Blk.allocp | with_reducible apply Blk.drew | with_reducible apply Blk.drewN))) hB6; have cA6 := hA6.cell; have fA6 := hA6.frozen; have lA6 := hA6.lt; have mA6 := Nat.ne_of_gt lA6; have nA6 := Nat.ne_of_lt lA6; have hR6 : Blk v6 (w.heap.size + 1) 49 #[.int .i64 0, .int .i64 0, .int .i64 0, .int .i64 0] := Blk.call (by (repeat (first | with_reducible assumption | (with_reducible apply Blk.new_at; (first | rfl | (simp; done))) | with_reducible apply Blk.store3 | with_reducible apply Blk.store4 | (with_reducible apply Blk.farp; (first | omega | (simp <;> omega))) | with_reducible apply Blk.allocp | with_reducible apply Blk.drew | with_reducible apply Blk.drewN))) hB6; have cR6 := hR6.cell; have fR6 := hR6.frozen; have lR6 := hR6.lt; have mR6 := Nat.ne_of_gt lR6; have nR6 := Nat.ne_of_lt lR6; have hM6 : Blk v6 (MB) 49 #[.int .i64 C.p, .int .i64 C.q, .int .i64 C.r, .int .i64 C.s] := Blk.call (by (repeat (first | with_reducible assumption | (with_reducible apply Blk.new_at; (first | rfl | (simp; done))) | with_reducible apply Blk.store3 | with_reducible apply Blk.store4 | (with_reducible apply Blk.farp; (first | omega | (simp <;> omega))) | with_reducible apply Blk.allocp | with_reducible apply Blk.drew | with_reducible apply Blk.drewN))) hB6; have cM6 := hM6.cell; have fM6 := hM6.frozen; have lM6 := hM6.lt; have mM6 := Nat.ne_of_gt lM6; have nM6 := Nat.ne_of_lt lM6) | (go_at_call 92; (with_reducible refine (hN.out _).mono ?_); rintro e v7 ⟨rfl, hB7⟩; have hZ7 := hB7.size; (try simp at hZ7); (try have zl7 : w.heap.size < v7.heap.size := by omega); (try have ze7 : w.heap.size ≤ v7.heap.size := by omega); (try have zn7 : ¬ w.heap.size = v7.heap.size := by omega); (try have zm7 : ¬ v7.heap.size = w.heap.size := by omega); have hA7 : Blk v7 (w.heap.size) 70 #[.int .i64 s, .slice (some ⟨g, 0, none⟩) L.length vc] := Blk.call (by (repeat (first | with_reducible assumption | (with_reducible apply Blk.new_at; (first | rfl | (simp; done))) | with_reducible apply Blk.store3 | with_reducible apply Blk.store4 | (with_reducible apply Blk.farp; (first | omega | (simp <;> omega))) | with_reducible apply Blk.allocp | with_reducible apply Blk.drew | with_reducible apply Blk.drewN))) hB7; have cA7 := hA7.cell; have fA7 := hA7.frozen; have lA7 := hA7.lt; have mA7 := Nat.ne_of_gt lA7; have nA7 := Nat.ne_of_lt lA7; have hR7 : Blk v7 (w.heap.size + 1) 49 #[.int .i64 0, .int .i64 0, .int .i64 0, .int .i64 0] := Blk.call (by (repeat (first | with_reducible assumption | (with_reducible apply Blk.new_at; (first | rfl | (simp; done))) | with_reducible apply Blk.store3 | with_reducible apply Blk.store4 | (with_reducible apply Blk.farp; (first | omega | (simp <;> omega))) | with_reducible apply Blk.allocp | with_reducible apply Blk.drew | with_reducible apply Blk.drewN))) hB7; have cR7 := hR7.cell; have fR7 := hR7.frozen; have lR7 := hR7.lt; have mR7 := Nat.ne_of_gt lR7; have nR7 := Nat.ne_of_lt lR7; have hM7 : Blk v7 (MB) 49 #[.int .i64 N.p, .int .i64 N.q, .int .i64 N.r, .int .i64 N.s] := Blk.call (by (repeat (first | with_reducible assumption | (with_reducible apply Blk.new_at; (first | rfl | (simp; done))) | with_reducible apply Blk.store3 | with_reducible apply Blk.store4 | (with_reducible apply Blk.farp; (first | omega | (simp <;> omega))) | with_reducible apply Blk.allocp | with_reducible apply Blk.drew | with_reducible apply Blk.drewN))) hB7; have cM7 := hM7.cell; have fM7 := hM7.frozen; have lM7 := hM7.lt; have mM7 := Nat.ne_of_gt lM7; have nM7 := Nat.ne_of_lt lM7))
            go_roundw
            case measure => simp [intOf]; omega
            case rel => exact ⟨k + 1, rfl, hlt, Lib.hid (hyes.out hb), (by (repeat (first | with_reducible assumption | (with_reducible apply Blk.new_at; (first | rfl | (simp; done))) | with_reducible apply Blk.store3 | with_reducible apply Blk.store4 | (with_reducible apply Blk.farp; (first | omega | (simp <;> omega))) | with_reducible apply Blk.allocp | with_reducible apply Blk.drew | with_reducible apply Blk.drewN))), (by (repeat (first | with_reducible assumption | (with_reducible apply Blk.new_at; (first | rfl | (simp; done))) | with_reducible apply Blk.store3 | with_reducible apply Blk.store4 | (with_reducible apply Blk.farp; (first | omega | (simp <;> omega))) | with_reducible apply Blk.allocp | with_reducible apply Blk.drew | with_reducible apply Blk.drewN))), (by rw [hNe.out]; (repeat (first | with_reducible assumption | (with_reducible apply Blk.new_at; (first | rfl | (simp; done))) | with_reducible apply Blk.store3 | with_reducible apply Blk.store4 | (with_reducible apply Blk.farp; (first | omega | (simp <;> omega))) | with_reducible apply Blk.allocp | with_reducible apply Blk.drew | with_reducible apply Blk.drewN))), (by repeat (first | with_reducible exact Below.refl _ _ | with_reducible assumption | with_reducible apply Below.drew | with_reducible apply below_drewN | (with_reducible apply below_setp; (first | omega | (simp <;> omega))) | (with_reducible apply below_allocp; (first | omega | (simp <;> omega))) | (with_reducible refine below_viap (by assumption) ?_ ?_; (first | omega | (simp <;> omega)))))⟩
          · have hb' : numM N = false := by simpa using hb
            rw [hb'] at hN
            replace hN := Lib.hid hN
            have hZ : m = zM ∧ ok = false := by
              rcases HM.out with ⟨_, k1, k2⟩ | ⟨k1, _⟩
              · exact ⟨k1, k2⟩
              · rw [hno.out hb'] at k1; cases k1
            obtain ⟨rfl, rfl⟩ := hZ
            go_wp2_with (first | (go_at_call 121; (with_reducible refine (hT2.out _).mono ?_); rintro e v6 ⟨rfl, hB6⟩; have hZ6 := hB6.size; (try simp at hZ6); (try have zl6 : w.heap.size < v6.heap.size := by omega); (try have ze6 : w.heap.size ≤ v6.heap.size := by omega); (try have zn6 : ¬ w.heap.size = v6.heap.size := by omega); (try have zm6 : ¬ v6.heap.size = w.heap.size := by omega); have hA6 : Blk v6 (w.heap.size) 70 #[.int .i64 s, .slice (some ⟨g, 0, none⟩) L.length vc] := Blk.call (by (repeat (first | with_reducible assumption | (with_reducible apply Blk.new_at; (first | rfl | (simp; done))) | with_reducible apply Blk.store3 | with_reducible apply Blk.store4 | (with_reducible apply Blk.farp; (first | omega | (simp <;> omega))) | with_reducible apply Blk.allocp | with_reducible apply Blk.drew | with_reducible apply Blk.drewN))) hB6; have cA6 := hA6.cell; have fA6 := hA6.frozen; have lA6 := hA6.lt; have mA6 := Nat.ne_of_gt lA6; have nA6 := Nat.ne_of_lt lA6; have hR6 : Blk v6 (w.heap.size + 1) 49 #[.int .i64 0, .int .i64 0, .int .i64 0, .int .i64 0] := Blk.call (by (repeat (first | with_reducible assumption | (with_reducible apply Blk.new_at; (first | rfl | (simp; done))) | with_reducible apply Blk.store3 | with_reducible apply Blk.store4 | (with_reducible apply Blk.farp; (first | omega | (simp <;> omega))) | with_reducible apply Blk.allocp | with_reducible apply Blk.drew | with_reducible apply Blk.drewN))) hB6; have cR6 := hR6.cell; have fR6 := hR6.frozen; have lR6 := hR6.lt; have mR6 := Nat.ne_of_gt lR6; have nR6 := Nat.ne_of_lt lR6; have hM6 : Blk v6 (MB) 49 #[.int .i64 C.p, .int .i64 C.q, .int .i64 C.r, .int .i64 C.s] := Blk.call (by (repeat (first | with_reducible assumption | (with_reducible apply Blk.new_at; (first | rfl | (simp; done))) | with_reducible apply Blk.store3 | with_reducible apply Blk.store4 | (with_reducible apply Blk.farp; (first | omega | (simp <;> omega))) | with_reducible apply Blk.allocp | with_reducible apply Blk.drew | with_reducible apply Blk.drewN))) hB6; have cM6 := hM6.cell; have fM6 := hM6.frozen; have lM6 := hM6.lt; have mM6 := Nat.ne_of_gt lM6; have nM6 := Nat.ne_of_lt lM6) | (go_at_call 92; (with_reducible refine (hN.out _).mono ?_); rintro e v7 ⟨rfl, hB7⟩; have hZ7 := hB7.size; (try simp at hZ7); (try have zl7 : w.heap.size < v7.heap.size := by omega); (try have ze7 : w.heap.size ≤ v7.heap.size := by omega); (try have zn7 : ¬ w.heap.size = v7.heap.size := by omega); (try have zm7 : ¬ v7.heap.size = w.heap.size := by omega); have hA7 : Blk v7 (w.heap.size) 70 #[.int .i64 s, .slice (some ⟨g, 0, none⟩) L.length vc] := Blk.call (by (repeat (first | with_reducible assumption | (with_reducible apply Blk.new_at; (first | rfl | (simp; done))) | with_reducible apply Blk.store3 | with_reducible apply Blk.store4 | (with_reducible apply Blk.farp; (first | omega | (simp <;> omega))) | with_reducible apply Blk.allocp | with_reducible apply Blk.drew | with_reducible apply Blk.drewN))) hB7; have cA7 := hA7.cell; have fA7 := hA7.frozen; have lA7 := hA7.lt; have mA7 := Nat.ne_of_gt lA7; have nA7 := Nat.ne_of_lt lA7; have hR7 : Blk v7 (w.heap.size + 1) 49 #[.int .i64 0, .int .i64 0, .int .i64 0, .int .i64 0] := Blk.call (by (repeat (first | with_reducible assumption | (with_reducible apply Blk.new_at; (first | rfl | (simp; done))) | with_reducible apply Blk.store3 | with_reducible apply Blk.store4 | (with_reducible apply Blk.farp; (first | omega | (simp <;> omega))) | with_reducible apply Blk.allocp | with_reducible apply Blk.drew | with_reducible apply Blk.drewN))) hB7; have cR7 := hR7.cell; have fR7 := hR7.frozen; have lR7 := hR7.lt; have mR7 := Nat.ne_of_gt lR7; have nR7 := Nat.ne_of_lt lR7; have hM7 : Blk v7 (MB) 49 #[.int .i64 N.p, .int .i64 N.q, .int .i64 N.r, .int .i64 N.s] := Blk.call (by (repeat (first | with_reducible assumption | (with_reducible apply Blk.new_at; (first | rfl | (simp; done))) | with_reducible apply Blk.store3 | with_reducible apply Blk.store4 | (with_reducible apply Blk.farp; (first | omega | (simp <;> omega))) | with_reducible apply Blk.allocp | with_reducible apply Blk.drew | with_reducible apply Blk.drewN))) hB7; have cM7 := hM7.cell; have fM7 := hM7.frozen; have lM7 := hM7.lt; have mM7 := Nat.ne_of_gt lM7; have nM7 := Nat.ne_of_lt lM7))
            exact bodyPost_ret (v := .tuple #[.agg #[.int .i64 0, .int .i64 0, .int .i64 0, .int .i64 0], .bool false]) (by simp [results, Try.results39, go_sem, *]) rfl ⟨rfl, (by repeat (first | with_reducible exact Below.refl _ _ | with_reducible assumption | with_reducible apply Below.drew | with_reducible apply below_drewN | (with_reducible apply below_setp; (first | omega | (simp <;> omega))) | (with_reducible apply below_allocp; (first | omega | (simp <;> omega))) | (with_reducible refine below_viap (by assumption) ?_ ?_; (first | omega | (simp <;> omega)))))⟩
      · have hkL : k = L.length := by omega
        have cb := cur_bd hall.out
        have ht : L.take k = L := List.take_of_length_le (by omega)
        have hZ : m = sgM s (wordM L) ∧ ok = true := by
          have hy := wordB_yes (L := L) (fun j hj => hall.out j (by omega))
          rcases HM.out with ⟨k1, _⟩ | ⟨_, k1, k2⟩
          · rw [hy] at k1; cases k1
          · exact ⟨k1, k2⟩
        rw [ht] at hM cM cb
        clear ht
        obtain ⟨hm, rfl⟩ := hZ
        rcases (show s = 1 ∨ s = -1 by omega) with rfl | rfl
        · rw [sgM_one] at hm
          subst hm
          clear cb
          go_wp2
          exact bodyPost_ret (v := .tuple #[.agg #[.int .i64 (wordM L).p, .int .i64 (wordM L).q, .int .i64 (wordM L).r, .int .i64 (wordM L).s], .bool true]) (by simp [results, Try.results39, go_sem, *]) rfl ⟨rfl, (by repeat (first | with_reducible exact Below.refl _ _ | with_reducible assumption | with_reducible apply Below.drew | with_reducible apply below_drewN | (with_reducible apply below_setp; (first | omega | (simp <;> omega))) | (with_reducible apply below_allocp; (first | omega | (simp <;> omega))) | (with_reducible refine below_viap (by assumption) ?_ ?_; (first | omega | (simp <;> omega)))))⟩
        · have hG := fun w => negative_any (wordM L) w cb
          have e1 : -(wordM L).p = m.p := by rw [hm]; unfold sgM; simp only; omega
          have e2 : -(wordM L).q = m.q := by rw [hm]; unfold sgM; simp only; omega
          have e3 : -(wordM L).r = m.r := by rw [hm]; unfold sgM; simp only; omega
          have e4 : -(wordM L).s = m.s := by rw [hm]; unfold sgM; simp only; omega
          rw [e1, e2, e3, e4] at hG
          replace hG := Lib.hid hG
          clear hm e1 e2 e3 e4 cb
          generalize wordM L = C at *
          go_wp2_with (go_at_call 123; (with_reducible refine (hG.out _).mono ?_); rintro e v8 ⟨rfl, hB8⟩; have hZ8 := hB8.size; (try simp at hZ8); (try have zl8 : w.heap.size < v8.heap.size := by omega); (try have ze8 : w.heap.size ≤ v8.heap.size := by omega); (try have zn8 : ¬ w.heap.size = v8.heap.size := by omega); (try have zm8 : ¬ v8.heap.size = w.heap.size := by omega); have hA8 : Blk v8 (w.heap.size) 70 #[.int .i64 (-1), .slice vb L.length vc] := Blk.call (by (repeat (first | with_reducible assumption | (with_reducible apply Blk.new_at; (first | rfl | (simp; done))) | with_reducible apply Blk.store3 | with_reducible apply Blk.store4 | (with_reducible apply Blk.farp; (first | omega | (simp <;> omega))) | with_reducible apply Blk.allocp | with_reducible apply Blk.drew | with_reducible apply Blk.drewN))) hB8; have cA8 := hA8.cell; have fA8 := hA8.frozen; have lA8 := hA8.lt; have mA8 := Nat.ne_of_gt lA8; have nA8 := Nat.ne_of_lt lA8; have hR8 : Blk v8 (w.heap.size + 1) 49 #[.int .i64 0, .int .i64 0, .int .i64 0, .int .i64 0] := Blk.call (by (repeat (first | with_reducible assumption | (with_reducible apply Blk.new_at; (first | rfl | (simp; done))) | with_reducible apply Blk.store3 | with_reducible apply Blk.store4 | (with_reducible apply Blk.farp; (first | omega | (simp <;> omega))) | with_reducible apply Blk.allocp | with_reducible apply Blk.drew | with_reducible apply Blk.drewN))) hB8; have cR8 := hR8.cell; have fR8 := hR8.frozen; have lR8 := hR8.lt; have mR8 := Nat.ne_of_gt lR8; have nR8 := Nat.ne_of_lt lR8; have hM8 : Blk v8 (MB) 49 #[.int .i64 C.p, .int .i64 C.q, .int .i64 C.r, .int .i64 C.s] := Blk.call (by (repeat (first | with_reducible assumption | (with_reducible apply Blk.new_at; (first | rfl | (simp; done))) | with_reducible apply Blk.store3 | with_reducible apply Blk.store4 | (with_reducible apply Blk.farp; (first | omega | (simp <;> omega))) | with_reducible apply Blk.allocp | with_reducible apply Blk.drew | with_reducible apply Blk.drewN))) hB8; have cM8 := hM8.cell; have fM8 := hM8.frozen; have lM8 := hM8.lt; have mM8 := Nat.ne_of_gt lM8; have nM8 := Nat.ne_of_lt lM8)
          exact bodyPost_ret (v := .tuple #[.agg #[.int .i64 m.p, .int .i64 m.q, .int .i64 m.r, .int .i64 m.s], .bool true]) (by simp [results, Try.results39, go_sem, *]) rfl ⟨rfl, (by repeat (first | with_reducible exact Below.refl _ _ | with_reducible assumption | with_reducible apply Below.drew | with_reducible apply below_drewN | (with_reducible apply below_setp; (first | omega | (simp <;> omega))) | (with_reducible apply below_allocp; (first | omega | (simp <;> omega))) | (with_reducible refine below_viap (by assumption) ?_ ?_; (first | omega | (simp <;> omega)))))⟩
  · have hw' : isWd s L = false := by simpa using hw
    rcases h with ⟨_, rfl, rfl⟩ | ⟨k, _⟩ | ⟨k, _⟩
    · rw [hw'] at hIs
      clear hw hw'
      go_enter Try.func39, Try.ntmps39
      go_wp2_with (go_at_call 119; (with_reducible refine (hIs.out _ hal).mono ?_); rintro e v1 ⟨rfl, hB1⟩; have hZ1 := hB1.size; (try simp at hZ1); (try have zl1 : w.heap.size < v1.heap.size := by omega); (try have ze1 : w.heap.size ≤ v1.heap.size := by omega); (try have zn1 : ¬ w.heap.size = v1.heap.size := by omega); (try have zm1 : ¬ v1.heap.size = w.heap.size := by omega); have hA1 : Blk v1 (w.heap.size) 70 #[.int .i64 s, .slice vb L.length vc] := Blk.call (by (repeat (first | with_reducible assumption | (with_reducible apply Blk.new_at; (first | rfl | (simp; done))) | with_reducible apply Blk.store3 | with_reducible apply Blk.store4 | (with_reducible apply Blk.farp; (first | omega | (simp <;> omega))) | with_reducible apply Blk.allocp | with_reducible apply Blk.drew | with_reducible apply Blk.drewN))) hB1; have cA1 := hA1.cell; have fA1 := hA1.frozen; have lA1 := hA1.lt; have mA1 := Nat.ne_of_gt lA1; have nA1 := Nat.ne_of_lt lA1; have hR1 : Blk v1 (w.heap.size + 1) 49 #[.int .i64 0, .int .i64 0, .int .i64 0, .int .i64 0] := Blk.call (by (repeat (first | with_reducible assumption | (with_reducible apply Blk.new_at; (first | rfl | (simp; done))) | with_reducible apply Blk.store3 | with_reducible apply Blk.store4 | (with_reducible apply Blk.farp; (first | omega | (simp <;> omega))) | with_reducible apply Blk.allocp | with_reducible apply Blk.drew | with_reducible apply Blk.drewN))) hB1; have cR1 := hR1.cell; have fR1 := hR1.frozen; have lR1 := hR1.lt; have mR1 := Nat.ne_of_gt lR1; have nR1 := Nat.ne_of_lt lR1)
      exact bodyPost_ret (v := .tuple #[.agg #[.int .i64 0, .int .i64 0, .int .i64 0, .int .i64 0], .bool false]) (by simp [results, Try.results39, go_sem, *]) rfl ⟨rfl, (by repeat (first | with_reducible exact Below.refl _ _ | with_reducible assumption | with_reducible apply Below.drew | with_reducible apply below_drewN | (with_reducible apply below_setp; (first | omega | (simp <;> omega))) | (with_reducible apply below_allocp; (first | omega | (simp <;> omega))) | (with_reducible refine below_viap (by assumption) ?_ ?_; (first | omega | (simp <;> omega)))))⟩
    · exact absurd k hw
    · exact absurd k hw
end Go.Proofs.Ytdaofpjanklmeaa
