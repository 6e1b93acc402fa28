/- Contract: the automorphs, of the reference. -/
import Derived.Test.YteicampphegolaaVF
namespace Go.Proofs.Yteicampphegolaa
open Go.RowKit Go

/-- The automorphs that are found by the first n pairs. -/
def autP (f' : Fm) (n : Nat) : List M4 := ((tuA.take n).filter (tuB (disc f'))).map fun p => autM f' p.1 p.2
theorem autP_end (f' : Fm) : autP f' 15 = autS f' := by
  unfold autP autS
  rw [List.take_of_length_le (by simp [tuA])]
theorem autP_len (f' : Fm) (n : Nat) : (autP f' n).length ≤ 15 := by
  unfold autP
  rw [List.length_map]
  refine Nat.le_trans (List.length_filter_le _ _) ?_
  rw [List.length_take]
  have : tuA.length = 15 := by simp [tuA]
  omega
theorem tuA_get {i j : Nat} (hi : i < 5) (hj : j < 3) : ∃ h : 3 * i + j < tuA.length, tuA[3 * i + j] = ((i : Int) - 2, (j : Int) - 1) := by
  have hl : 3 * i + j < tuA.length := by simp [tuA]; omega
  refine ⟨hl, ?_⟩
  rw [List.getElem_eq_iff]
  have e1 : (3 * i + j) / 3 = i := by omega
  have e2 : (3 * i + j) % 3 = j := by omega
  unfold tuA
  rw [List.getElem?_map, List.getElem?_range (by omega), Option.map_some, e1, e2]
theorem autP_next (f' : Fm) {i j : Nat} (hi : i < 5) (hj : j < 3) : autP f' (3 * i + (j + 1)) = if tuB (disc f') ((i : Int) - 2, (j : Int) - 1) then autP f' (3 * i + j) ++ [autM f' ((i : Int) - 2) ((j : Int) - 1)] else autP f' (3 * i + j) := by
  obtain ⟨hl, he⟩ := tuA_get hi hj
  unfold autP
  rw [show 3 * i + (j + 1) = (3 * i + j) + 1 by omega, List.take_succ_eq_append_getElem hl, List.filter_append, he]
  cases hb : tuB (disc f') ((i : Int) - 2, (j : Int) - 1) with
  | true => rw [List.filter_cons_of_pos hb]; simp
  | false => rw [List.filter_cons_of_neg (by simp [hb])]; simp
theorem srt_snoc (L : List M4) (m : M4) : srtM (L ++ [m]) = insM (srtM L) m := by unfold srtM; rw [List.foldl_append]; rfl
/-- The numbers of one pair. -/
theorem aut_par {f' : Fm} {t u : Int} (h : t * t - disc f' * u * u = 4) : (t - f'.b * u).tdiv 2 = (autM f' t u).p ∧ (t + f'.b * u).tdiv 2 = (autM f' t u).s := by
  obtain ⟨a, b, c⟩ := f'
  unfold disc at h
  unfold autM
  simp only at *
  have e : (t - b * u) * (t + b * u) = 4 * (1 - (a * c) * (u * u)) := by grind
  generalize b * u = z at *
  have hev : ∃ m, t - z = 2 * m := by
    rcases Int.emod_two_eq (t - z) with h0 | h1
    · exact ⟨(t - z) / 2, by omega⟩
    · exfalso
      obtain ⟨m, hm⟩ : ∃ m, t - z = 2 * m + 1 := ⟨(t - z) / 2, by omega⟩
      have hp : t + z = 2 * (m + z) + 1 := by omega
      rw [hm, hp] at e
      have : (2 * m + 1) * (2 * (m + z) + 1) = 2 * (2 * (m * (m + z)) + m + (m + z)) + 1 := by grind
      omega
  obtain ⟨m, hm⟩ := hev
  have h2 : t + z = 2 * (m + z) := by omega
  rw [hm, h2, Int.mul_tdiv_cancel_left _ (by omega), Int.mul_tdiv_cancel_left _ (by omega), Int.mul_ediv_cancel_left _ (by omega), Int.mul_ediv_cancel_left _ (by omega)]
  exact ⟨rfl, rfl⟩
theorem own_mid2 {w : World} {B g n cap : Nat} {e : TypeId} {L : List M4} {a : Nat} (ha : a ≤ L.length) {X : M4} (m : M4) (h : w.ownsRow B e 4 (.slice (some ⟨g, 0, none⟩) n cap) n (cellsM (L.take a ++ X :: L.drop a))) :
    ((((w.setCell ⟨g, a * 4, none⟩ (.int .i64 m.p)).setCell ⟨g, a * 4 + 1, none⟩ (.int .i64 m.q)).setCell ⟨g, a * 4 + 2, none⟩ (.int .i64 m.r)).setCell ⟨g, a * 4 + 3, none⟩ (.int .i64 m.s)).ownsRow B e 4 (.slice (some ⟨g, 0, none⟩) n cap) n (cellsM (L.take a ++ m :: L.drop a)) := by
  rw [cellsM_mid] at h
  exact own_mid ha m h
/-- The states of the loops. -/
def ReOut (f' : Fm) (w : World) (v vt : Value) (wr : World) : Prop :=
  ∃ i : Nat, vt = .int .i64 ((i : Int) - 2) ∧ i ≤ 5 ∧ wr.ownsRow (w.heap.size + 1) 49 4 v (srtM (autP f' (3 * i))).length (cellsM (srtM (autP f' (3 * i)))) ∧ Blk wr w.heap.size 35 #[.int .i64 f'.a, .int .i64 f'.b, .int .i64 f'.c] ∧ Below w.heap.size w wr
def ReIn (f' : Fm) (i : Nat) (w : World) (v vu : Value) (wr : World) : Prop :=
  ∃ j : Nat, vu = .int .i64 ((j : Int) - 1) ∧ j ≤ 3 ∧ wr.ownsRow (w.heap.size + 1) 49 4 v (srtM (autP f' (3 * i + j))).length (cellsM (srtM (autP f' (3 * i + j)))) ∧ Blk wr w.heap.size 35 #[.int .i64 f'.a, .int .i64 f'.b, .int .i64 f'.c] ∧ Below w.heap.size w wr

set_option maxRecDepth 100000 in
set_option maxHeartbeats 12800000 in
theorem reAut_any (f : Fm) (w : World) (hd : isDefB f.a f.b f.c = true) :
    Calls Try.prog 127 #[.agg #[.int .i64 f.a, .int .i64 f.b, .int .i64 f.c]] w (RetM (srtM (autI (red f) (redM f M4.one))) w) := by
  obtain ⟨i0, hi, hz0, hz1, hz2⟩ := info_parts infoMt
  have h6 := defB_def hd
  have AD := autD_of h6
  rw [srt_eq AD.perm]
  obtain ⟨⟨fa1, fa2⟩, ⟨fb1, fb2⟩, ⟨fc1, fc2⟩⟩ := isFm_bd (idef_form hd)
  have hC := Lib.hid (fun w => foContent_any f.a f.b f.c w ⟨by omega, by omega⟩ ⟨by omega, by omega⟩ ⟨by omega, by omega⟩)
  obtain ⟨f', hf'⟩ : ∃ f', (⟨f.a / (Int.gcd f.a (Int.gcd f.b f.c) : Nat), f.b / (Int.gcd f.a (Int.gcd f.b f.c) : Nat), f.c / (Int.gcd f.a (Int.gcd f.b f.c) : Nat)⟩ : Fm) = f' := ⟨_, rfl⟩
  rw [hf'] at AD ⊢
  obtain ⟨k, hk⟩ : ∃ k : Int, (Int.gcd f.a (Int.gcd f.b f.c) : Int) = k := ⟨_, rfl⟩
  rw [hk] at AD hC
  have hk0 := AD.k0
  have ea : f.a = k * f'.a := congrArg Fm.a AD.eq
  have eb : f.b = k * f'.b := congrArg Fm.b AD.eq
  have ec : f.c = k * f'.c := congrArg Fm.c AD.eq
  have ta : f.a.tdiv k = f'.a := by rw [ea, Int.mul_tdiv_cancel_left _ (by omega)]
  have tb : f.b.tdiv k = f'.b := by rw [eb, Int.mul_tdiv_cancel_left _ (by omega)]
  have tc : f.c.tdiv k = f'.c := by rw [ec, Int.mul_tdiv_cancel_left _ (by omega)]
  have bd : ∀ x X : Int, x = k * X → -1000000 ≤ x → x ≤ 1000000 → -1000000 ≤ X ∧ X ≤ 1000000 := by
    intro x X e h1 h2
    constructor
    · apply Int.not_lt.1; intro hl
      have : k * X ≤ k * (-1000001) := Int.mul_le_mul_of_nonneg_left (by omega) (by omega)
      have : k * (-1000001) ≤ 1 * (-1000001) := Int.mul_le_mul_of_nonpos_right (by omega) (by omega)
      omega
    · apply Int.not_lt.1; intro hl
      have : k * 1000001 ≤ k * X := Int.mul_le_mul_of_nonneg_left (by omega) (by omega)
      have : 1 * 1000001 ≤ k * 1000001 := Int.mul_le_mul_of_nonneg_right (by omega) (by omega)
      omega
  obtain ⟨a1, a2⟩ := bd _ _ ea fa1 fa2
  obtain ⟨b1, b2⟩ := bd _ _ eb fb1 fb2
  obtain ⟨c1, c2⟩ := bd _ _ ec fc1 fc2
  have hd3 := AD.d3
  have p1 := mul_bd (a := f'.b) (x := f'.b) (A := 1000000) (X := 1000000) b1 b2 b1 b2
  have p2 := mul_bd (a := 4 * f'.a) (x := f'.c) (A := 4000000) (X := 1000000) (by omega) (by omega) c1 c2
  have hdlo : -5000000000000 ≤ disc f' := by unfold disc; omega
  have hD := Lib.hid (fun w => sdisc_any f'.a f'.b f'.c w ⟨by omega, by omega⟩ ⟨by omega, by omega⟩ ⟨by omega, by omega⟩)
  have wfa : IntKind.i64.wrap f'.a = f'.a := IntWalk.i64_in _ (by omega)
  have wfb : IntKind.i64.wrap f'.b = f'.b := IntWalk.i64_in _ (by omega)
  have wfc : IntKind.i64.wrap f'.c = f'.c := IntWalk.i64_in _ (by omega)
  have hk00 : ¬ k = 0 := by omega
  have hkb : (k == 0) = false := beq_eq_false_iff_ne.2 hk00
  rw [← autP_end]
  have hfe : disc ⟨f'.a, f'.b, f'.c⟩ = disc f' := rfl
  rw [hfe] at hD
  clear AD hd h6 hk ea eb ec bd p1 p2 hf' hfe
  obtain ⟨D, hDe⟩ : ∃ D, disc f' = D := ⟨_, rfl⟩
  rw [hDe] at hD hdlo hd3
  have HD := Lib.hid hDe
  clear hDe
  go_enter Try.func127, Try.ntmps127
  go_wp2_with (go_at_call 145; (with_reducible refine (hC.out _).mono ?_); rintro e v1 ⟨rfl, hB1⟩; have hZ1 := hB1.size; (try simp at hZ1); (try have zl1 : w.heap.size < v1.heap.size := by omega); (try have ze1 : w.heap.size ≤ v1.heap.size := by omega); (try have zn1 : ¬ w.heap.size = v1.heap.size := by omega); (try have zm1 : ¬ v1.heap.size = w.heap.size := by omega); have hA1 : Blk v1 (w.heap.size) 35 #[.int .i64 f.a, .int .i64 f.b, .int .i64 f.c] := Blk.call (by (repeat (first | with_reducible assumption | (with_reducible apply Blk.new_at; (first | rfl | (simp; done))) | with_reducible apply Blk.store3 | with_reducible apply Blk.store4 | (with_reducible apply Blk.farp; (first | omega | (simp <;> omega))) | with_reducible apply Blk.allocp | with_reducible apply Blk.drew | with_reducible apply Blk.drewN))) hB1; have cA1 := hA1.cell; have fA1 := hA1.frozen; have lA1 := hA1.lt; have mA1 := Nat.ne_of_gt lA1; have nA1 := Nat.ne_of_lt lA1)
  refine wp_region_calm 13 (Below (v1.heap.size) _) (by kernel_rfl) (by kernel_rfl) ((Below.refl _ _).drew) ?_
  simp only [List.take_succ_cons, List.take_zero, List.drop_succ_cons, List.drop_zero]
  repeat (first | (apply wpCalm_go; go_simp; (intro w' hw' hcc hff; go_simp; first | exact rfl | fail); (intro K hK; go_simp; refine hK _ ?_; clear hK K)) | (apply wpCalm_skip; go_simp; (try (focus (simp [undef]; done))); (intro K hK; go_simp; refine hK _ ?_; clear hK K)))
  refine wpCalm_nil ?_
  intro w1 hw1
  have hcc := (calm_cells hw1).1
  have hff := (calm_cells hw1).2
  have hss := calm_size hw1
  have hsz := hw1.size
  (try simp at hsz)
  have hA2 : Blk w1 (w.heap.size) 35 #[.int .i64 f.a, .int .i64 f.b, .int .i64 f.c] := Blk.below (by (repeat (first | with_reducible assumption | (with_reducible apply Blk.new_at; (first | rfl | (simp; done))) | with_reducible apply Blk.store3 | with_reducible apply Blk.store4 | (with_reducible apply Blk.farp; (first | omega | (simp <;> omega))) | with_reducible apply Blk.allocp | with_reducible apply Blk.drew | with_reducible apply Blk.drewN))) hw1 (by first | omega | (simp <;> omega))
  have cA2 := hA2.cell; have fA2 := hA2.frozen; have lA2 := hA2.lt; have mA2 := Nat.ne_of_gt lA2; have nA2 := Nat.ne_of_lt lA2
  have hb2 : Below w.heap.size w w1 := below_via (show Below w.heap.size w v1 from (by repeat (first | with_reducible exact Below.refl _ _ | with_reducible assumption | with_reducible apply Below.drew | with_reducible apply below_drewN | (with_reducible apply below_setp; (first | omega | (simp <;> omega))) | (with_reducible apply below_allocp; (first | omega | (simp <;> omega))) | (with_reducible refine below_viap (by assumption) ?_ ?_; (first | omega | (simp <;> omega)))))) hw1 (by omega)
  have hz2w : w.heap.size + 1 ≤ w1.heap.size := by omega
  clear hcc hff hss hw1 hB1 hZ1 zl1 ze1 zn1 zm1 hA1 cA1 fA1 lA1 mA1 nA1
  go_wp2_with (go_at_call 115; (with_reducible refine (hD.out _).mono ?_); rintro e v3 ⟨rfl, hB3⟩; have hZ3 := hB3.size; (try simp at hZ3); (try have zl3 : w.heap.size < v3.heap.size := by omega); (try have ze3 : w.heap.size ≤ v3.heap.size := by omega); (try have zn3 : ¬ w.heap.size = v3.heap.size := by omega); (try have zm3 : ¬ v3.heap.size = w.heap.size := by omega); have hA3 : Blk v3 (w.heap.size) 35 #[.int .i64 f'.a, .int .i64 f'.b, .int .i64 f'.c] := Blk.call (by (repeat (first | with_reducible assumption | (with_reducible apply Blk.new_at; (first | rfl | (simp; done))) | with_reducible apply Blk.store3 | with_reducible apply Blk.store4 | (with_reducible apply Blk.farp; (first | omega | (simp <;> omega))) | with_reducible apply Blk.allocp | with_reducible apply Blk.drew | with_reducible apply Blk.drewN))) hB3; have cA3 := hA3.cell; have fA3 := hA3.frozen; have lA3 := hA3.lt; have mA3 := Nat.ne_of_gt lA3; have nA3 := Nat.ne_of_lt lA3)
  have hA3' := hA3
  have hb3 : Below w.heap.size w v3 := (by repeat (first | with_reducible exact Below.refl _ _ | with_reducible assumption | with_reducible apply Below.drew | with_reducible apply below_drewN | (with_reducible apply below_setp; (first | omega | (simp <;> omega))) | (with_reducible apply below_allocp; (first | omega | (simp <;> omega))) | (with_reducible refine below_viap (by assumption) ?_ ?_; (first | omega | (simp <;> omega)))))
  have hz3w : w.heap.size + 1 ≤ v3.heap.size := by omega
  clear hb2 hB3 hZ3 zl3 ze3 zn3 zm3 hA2 cA2 fA2 lA2 mA2 nA2 cA3 fA3 lA3 mA3 nA3 hD hC ta tb tc fa1 fa2 fb1 fb2 fc1 fc2 hk0 hk00 hkb hz2w
  go_loopw [5, 6] (fun v vt wr => ReOut f' w v vt wr) (fun _ vt _ => (3 - intOf vt).toNat)
  case atStart => exact ⟨0, rfl, by omega, (World.ownsRow_nil _ _ _ _ : v3.ownsRow (w.heap.size + 1) 49 4 (.slice none 0 0) 0 []), hA3', hb3⟩
  case round =>
    clear hA3 hA3' hb3 hz3w
    obtain ⟨i, rfl, hi5, hown, hA, hbel⟩ := hrel
    by_cases hlt : i < 5
    · have hi1 : (i : Int) - 2 ≤ 2 := by omega
      obtain ⟨t, ht⟩ : ∃ t : Int, t = (i : Int) - 2 := ⟨_, rfl⟩
      have Ht := Lib.hid ht
      rw [← ht] at hi1 ⊢
      have ht0 : -2 ≤ t := by omega
      clear ht
      obtain ⟨wo, hwo⟩ : ∃ wo : World, wo = wr := ⟨_, rfl⟩
      rw [← hwo] at hown hA hbel ⊢
      clear hwo
      go_wp2
      go_loopw [5, 7] (fun v vu wr => ReIn f' i w v vu wr) (fun _ vu _ => (2 - intOf vu).toNat)
      case atStart => exact ⟨0, rfl, by omega, hown, hA, hbel⟩
      case round =>
        clear hown hA hbel
        obtain ⟨j, rfl, hj3, hown, hA, hbel⟩ := hrel
        have hz := hbel.size
        have cA := hA.cell; have fA := hA.frozen; have lA := hA.lt; have mA := Nat.ne_of_gt lA; have nA := Nat.ne_of_lt lA
        by_cases hj : j < 3
        · have hj1 : (j : Int) - 1 ≤ 1 := by omega
          obtain ⟨u, hu⟩ : ∃ u : Int, u = (j : Int) - 1 := ⟨_, rfl⟩
          have hu0 : -1 ≤ u := by omega
          have hnx := autP_next f' hlt hj
          rw [← hu] at hj1 hnx ⊢
          rw [← Ht.out, HD.out] at hnx
          have Hu := Lib.hid hu
          clear hu
          have q1 := mul_bd (a := t) (x := t) (A := 2) (X := 2) ht0 hi1 ht0 hi1
          have q2 := mul_bd (a := D) (x := u) (A := 5000000000000) (X := 1) hdlo (by omega) hu0 hj1
          have q3 := mul_bd (a := D * u) (x := u) (A := 5000000000000) (X := 1) (by omega) (by omega) hu0 hj1
          have q4 := mul_bd (a := f'.b) (x := u) (A := 1000000) (X := 1) b1 b2 hu0 hj1
          have q5 := mul_bd (a := f'.c) (x := u) (A := 1000000) (X := 1) c1 c2 hu0 hj1
          have q6 := mul_bd (a := f'.a) (x := u) (A := 1000000) (X := 1) a1 a2 hu0 hj1
          cases hB : tuB D (t, u) with
          | false =>
            rw [hB] at hnx
            have hne : (t * t - D * u * u == 4) = false := by
              unfold tuB at hB
              rw [decide_eq_false_iff_not] at hB
              exact beq_eq_false_iff_ne.2 hB
            simp only [Bool.false_eq_true, if_false] at hnx
            have Hnx := Lib.hid hnx
            clear hnx hB
            go_wp2
            go_roundw
            case rel => exact ⟨j + 1, congrArg (Value.int IntKind.i64) (by have := Hu.out; omega), hj, by rw [Hnx.out]; exact hown, hA, hbel⟩
            case measure => have := Hu.out; simp [intOf]; omega
          | true =>
            rw [hB, if_pos rfl] at hnx
            have h4 : t * t - D * u * u = 4 := by
              unfold tuB at hB
              exact of_decide_eq_true hB
            have heq : (t * t - D * u * u == 4) = true := beq_iff_eq.2 h4
            obtain ⟨e1, e2⟩ := aut_par (f' := f') (t := t) (u := u) (by rw [HD.out]; exact h4)
            have e3 : -f'.c * u = (autM f' t u).q := rfl
            have k1 : wrap64 (autM f' t u).p = (autM f' t u).p := IntWalk.wrap64_in _ (by show _ ≤ (t - f'.b * u) / 2 ∧ (t - f'.b * u) / 2 ≤ _; omega)
            have k2 : wrap64 (autM f' t u).q = (autM f' t u).q := IntWalk.wrap64_in _ (by show _ ≤ -f'.c * u ∧ -f'.c * u ≤ _; rw [Int.neg_mul]; omega)
            have k3 : wrap64 (autM f' t u).r = (autM f' t u).r := IntWalk.wrap64_in _ (by show _ ≤ f'.a * u ∧ f'.a * u ≤ _; omega)
            have k4 : wrap64 (autM f' t u).s = (autM f' t u).s := IntWalk.wrap64_in _ (by show _ ≤ (t + f'.b * u) / 2 ∧ (t + f'.b * u) / 2 ≤ _; omega)
            have e4 : f'.a * u = (autM f' t u).r := rfl
            have hnx := Lib.hid hnx
            clear h4 hB
            obtain ⟨m, hm⟩ : ∃ m, autM f' t u = m := ⟨_, rfl⟩
            rw [hm] at e1 e2 e3 e4 hnx k1 k2 k3 k4
            clear hm
            have hLl : (srtM (autP f' (3 * i + j))).length ≤ 15 := by rw [srt_len]; exact autP_len _ _
            obtain ⟨L, hL⟩ : ∃ L, srtM (autP f' (3 * i + j)) = L := ⟨_, rfl⟩
            rw [hL] at hown hLl
            have hL := Lib.hid hL
            obtain ⟨lb, lc, rfl⟩ := own_shape hown
            go_wp2_with (at_builtin; refine wpList_append_own_at _ rfl (.tmp 71) (.tmp 73) 61 rfl (w.heap.size + 1) 49 i0 _ 4 32 Try.underlying61 hi hz0 hz1 hz2 rfl (by decide) (.slice lb L.length lc) L.length (cellsM L) rfl ?_ ⟨wr.heap.size + 1, 0, none⟩ 1 1 [.int .i64 m.p, .int .i64 m.q, .int .i64 m.r, .int .i64 m.s] rfl rfl ?_ (one4m _ _ _ _) ?_ ?_ ?_ ?_; exact (by repeat (first | with_reducible assumption | with_reducible apply own_alloc | with_reducible apply own_drew | with_reducible apply own_drewN | (with_reducible refine own_setp (by assumption) ?_ ?_; (first | omega | (simp <;> omega))) | (with_reducible refine own_call (by assumption) ?_))); exact blk_news (Blk.new_at (by simp)); (unfold maxLen; omega); omega; (first | omega | (simp; omega)); intro x2 w2 hown2 hgr _ hloc; obtain ⟨g5, c5, rfl, hg5, hl5, hc5⟩ := own_some hown2 (by omega); have hsy := hgr.size; (try simp at hsy))
            have hKn : ∀ q, (Value.slice lb L.length lc).ownBlock = some q → q ≠ wr.heap.size := fun q hq => by have := (hown.lt q hq).2; omega
            have hKg : wr.heap.size ≠ g5 := hloc.elim (fun e h => hKn g5 (e.symm.trans rfl) h.symm) (fun e h => by injection e with e; simp at e; omega)
            have hK2 : Blk w2 wr.heap.size 49 #[.int .i64 m.p, .int .i64 m.q, .int .i64 m.r, .int .i64 m.s] := Blk.grown (Blk.allocp (Blk.new _ _ _)) hgr (fun e => hKn _ e.symm rfl)
            have hA2 : Blk w2 w.heap.size 35 #[.int .i64 f'.a, .int .i64 f'.b, .int .i64 f'.c] := Blk.grown (Blk.allocp (Blk.allocp hA)) hgr (fun e => by have := own_ge hown _ e.symm; omega)
            have hb2 : Below w.heap.size w w2 := Below.grown ((by repeat (first | with_reducible exact Below.refl _ _ | with_reducible assumption | with_reducible apply Below.drew | with_reducible apply below_drewN | (with_reducible apply below_setp; (first | omega | (simp <;> omega))) | (with_reducible apply below_allocp; (first | omega | (simp <;> omega))) | (with_reducible refine below_viap (by assumption) ?_ ?_; (first | omega | (simp <;> omega)))))) hgr (by simp; omega) (fun q hq => by have := own_ge hown q hq; omega)
            have hrow2 : w2.ownsRow (w.heap.size + 1) 49 4 (.slice (some ⟨g5, 0, none⟩) (L.length + 1) c5) (L.length + 1) (cellsM (L.take L.length ++ m :: L.drop L.length)) := by rw [cellsM_mid, List.take_length, List.drop_length]; simpa [cellsM] using hown2
            clear hown2 hgr hloc hKn hown hA cA fA lA mA nA hbel q1 q2 q3 q4 q5 q6 e1 e2 e3 e4 k1 k2 k3 k4 heq
            obtain ⟨kB, hkB⟩ : ∃ kB, wr.heap.size = kB := ⟨_, rfl⟩
            have hkw : w.heap.size ≤ kB := by omega
            rw [hkB] at hKg hK2 hsy ⊢
            clear hkB hz
            go_loopw [9] (fun va wr => ∃ (a : Nat) (X : M4), va = .int .i64 a ∧ a ≤ L.length ∧ Hid (posM m L L.length = posM m L a) ∧ wr.ownsRow (w.heap.size + 1) 49 4 (.slice (some ⟨g5, 0, none⟩) (L.length + 1) c5) (L.length + 1) (cellsM (L.take a ++ X :: L.drop a)) ∧ Blk wr kB 49 #[.int .i64 m.p, .int .i64 m.q, .int .i64 m.r, .int .i64 m.s] ∧ Blk wr w.heap.size 35 #[.int .i64 f'.a, .int .i64 f'.b, .int .i64 f'.c] ∧ Below w.heap.size w wr) (fun va _ => (intOf va).toNat)
            case atStart => exact ⟨L.length, m, rfl, Nat.le_refl _, Lib.hid rfl, hrow2, hK2, hA2, hb2⟩
            case round =>
              clear hrow2 hK2 hA2 hb2
              obtain ⟨a, X, rfl, ha, hp, hrow6, hK6, hA6, hb6⟩ := hrel
              have hz6 := hb6.size
              have cK6 := hK6.cell; have fK6 := hK6.frozen; have lK6 := hK6.lt
              have lA6 := hA6.lt
              by_cases h0 : 0 < a
              · obtain ⟨b, hb⟩ : ∃ b, a = b + 1 := ⟨a - 1, by omega⟩
                have haL : b < L.length := by omega
                obtain ⟨g6, hlb, l6, e1, e2, e3, e4⟩ := own_elemM (k := b) (by rw [mid_len L X ha]; exact hrow6) (by rw [mid_len L X ha]; omega)
                injection hlb with hlb
                injection hlb with hlb
                subst hlb
                have hLb : (L.take a ++ X :: L.drop a)[b]'(by rw [mid_len L X ha]; omega) = L[b] := by rw [List.getElem_append_left (by rw [List.length_take]; omega), List.getElem_take]
                rw [hLb] at e1 e2 e3 e4
                have hwa : IntKind.i64.wrap ((a : Int) - 1) = (b : Int) := by rw [show (a : Int) - 1 = (b : Int) by omega]; exact IntWalk.i64_in _ (by omega)
                have haI : (b : Int) < (L.length : Int) + 1 := by omega
                have ha2 : (0 : Int) < (a : Int) := by omega
                have hLa : (L.getD b M4.one) = L[b] := by rw [List.getD_eq_getElem?_getD, List.getElem?_eq_getElem haL]; rfl
                have hLs := Lib.hid (fun w => reLess_any m L[b] w)
                have hp' := hp.out
                rw [hb] at hp'
                have HB := Lib.hid hb
                cases hl : lesM m L[b] with
                | true =>
                  have hp2 := Lib.hid (hp'.trans (posM_succ m L b (by rw [hLa]; exact hl)))
                  rw [hl] at hLs
                  have hstep : Hid (L.take a ++ L[b] :: L.drop a = L.take b ++ L[b] :: L.drop b) := Lib.hid (by rw [hb, List.take_succ_eq_append_getElem haL, List.append_assoc, List.singleton_append, ← List.drop_eq_getElem_cons haL])
                  clear hp hp' hl hLa hb hLb
                  obtain ⟨y, hy⟩ : ∃ y, L[b] = y := ⟨_, rfl⟩
                  rw [hy] at e1 e2 e3 e4 hLs hstep
                  clear hy
                  go_wp2
                  refine wp_region_calm 11 (Below (wr.heap.size) _) (by kernel_rfl) (by kernel_rfl) ((Below.refl _ _).drew) ?_
                  simp only [List.take_succ_cons, List.take_zero, List.drop_succ_cons, List.drop_zero]
                  repeat (first | (apply wpCalm_go; go_simp; (intro w' hw' hcc hff; go_simp; first | exact rfl | ((with_reducible refine (hLs.out _).mono ?_); rintro ee w1 ⟨rfl, hb⟩; exact ⟨rfl, calm_call (by simp <;> omega) hw' hb⟩)); (intro K hK; go_simp; refine hK _ ?_; clear hK K)) | (apply wpCalm_skip; go_simp; (try (focus (simp [undef]; done))); (intro K hK; go_simp; refine hK _ ?_; clear hK K)))
                  refine wpCalm_nil ?_
                  intro w1 hw1
                  have hcc := (calm_cells hw1).1
                  have hff := (calm_cells hw1).2
                  have hss := calm_size hw1
                  have hsz := hw1.size
                  (try simp at hsz)
                  have hK7 := hK6.below hw1 (by omega)
                  have hA7 := hA6.below hw1 (by omega)
                  have hrow7 := own_call hw1 hrow6
                  have hb7 : Below w.heap.size w w1 := below_via hb6 hw1 (by omega)
                  obtain ⟨g7, hg7, l7, f0, f1, f2, f3⟩ := own_elemM (k := a) (by rw [mid_len L X ha]; exact hrow7) (by rw [mid_len L X ha]; omega)
                  injection hg7 with hg7
                  injection hg7 with hg7
                  subst hg7
                  have fz := own_froz hrow7
                  have d1 := (hcc _ (b * 4) l6).trans e1
                  have d2 := (hcc _ (b * 4 + 1) l6).trans e2
                  have d3 := (hcc _ (b * 4 + 2) l6).trans e3
                  have d4 := (hcc _ (b * 4 + 3) l6).trans e4
                  have hA5 : (a : Int) < (L.length : Int) + 1 := by omega
                  have Hrow := Lib.hid hrow7
                  generalize (L.take a ++ X :: L.drop a)[a]'_ = Y at f0 f1 f2 f3
                  have hgk : ¬ g5 = kB := fun e => hKg e.symm
                  have hgw : ¬ g5 = w.heap.size := by omega
                  clear hrow7 hrow6 hK6 hA6 hb6 hw1 hcc hff hss hsz e1 e2 e3 e4 cK6 fK6 lK6 lA6 hLs
                  go_wp2
                  go_roundw
                  case rel => exact ⟨b, y, congrArg (Value.int IntKind.i64) (by have := HB.out; omega), by omega, hp2, by rw [← hstep.out]; exact own_mid2 ha y Hrow.out, (by (repeat (first | with_reducible assumption | (with_reducible apply Blk.new_at; (first | rfl | (simp; done))) | with_reducible apply Blk.store3 | with_reducible apply Blk.store4 | (with_reducible apply Blk.farp; (first | omega | (simp <;> omega))) | with_reducible apply Blk.allocp | with_reducible apply Blk.drew | with_reducible apply Blk.drewN))), (by (repeat (first | with_reducible assumption | (with_reducible apply Blk.new_at; (first | rfl | (simp; done))) | with_reducible apply Blk.store3 | with_reducible apply Blk.store4 | (with_reducible apply Blk.farp; (first | omega | (simp <;> omega))) | with_reducible apply Blk.allocp | with_reducible apply Blk.drew | with_reducible apply Blk.drewN))), (by repeat (first | with_reducible exact Below.refl _ _ | with_reducible assumption | with_reducible apply Below.drew | with_reducible apply below_drewN | (with_reducible apply below_setp; (first | omega | (simp <;> omega))) | (with_reducible apply below_allocp; (first | omega | (simp <;> omega))) | (with_reducible refine below_viap (by assumption) ?_ ?_; (first | omega | (simp <;> omega)))))⟩
                  case measure => have := HB.out; simp [intOf]; omega
                | false =>
                  have hpos : Hid (posM m L L.length = a) := Lib.hid (hp'.trans ((posM_stop m L b (by rw [hLa]; exact hl)).trans hb.symm))
                  rw [hl] at hLs
                  clear hp hp' hl hLa hb hLb
                  generalize L[b] = y at *
                  go_wp2
                  refine wp_region_calm 11 (Below (wr.heap.size) _) (by kernel_rfl) (by kernel_rfl) ((Below.refl _ _).drew) ?_
                  simp only [List.take_succ_cons, List.take_zero, List.drop_succ_cons, List.drop_zero]
                  repeat (first | (apply wpCalm_go; go_simp; (intro w' hw' hcc hff; go_simp; first | exact rfl | ((with_reducible refine (hLs.out _).mono ?_); rintro ee w1 ⟨rfl, hb⟩; exact ⟨rfl, calm_call (by simp <;> omega) hw' hb⟩)); (intro K hK; go_simp; refine hK _ ?_; clear hK K)) | (apply wpCalm_skip; go_simp; (try (focus (simp [undef]; done))); (intro K hK; go_simp; refine hK _ ?_; clear hK K)))
                  refine wpCalm_nil ?_
                  intro w1 hw1
                  have hcc := (calm_cells hw1).1
                  have hff := (calm_cells hw1).2
                  have hss := calm_size hw1
                  have hsz := hw1.size
                  (try simp at hsz)
                  clear hLs e1 e2 e3 e4 hwa haI ha2 HB haL l6 h0
                  have hin := Lib.hid (show insM L m = L.take a ++ m :: L.drop a by unfold insM; rw [hpos.out])
                  clear hpos hcc hff hsz hss
                  have hK7 := hK6.below hw1 (by omega)
                  have hA7 := hA6.below hw1 (by omega)
                  have hrow7 := own_call hw1 hrow6
                  have hb7 : Below w.heap.size w w1 := below_via hb6 hw1 (by omega)
                  obtain ⟨g7, hg7, l7, f0, f1, f2, f3⟩ := own_elemM (k := a) (by rw [mid_len L X ha]; exact hrow7) (by rw [mid_len L X ha]; omega)
                  injection hg7 with hg7; injection hg7 with hg7; subst hg7
                  have fz := own_froz hrow7
                  have kK := hK7.cell; have kF := hK7.frozen; have kL := hK7.lt
                  have hA5 : (a : Int) < (L.length : Int) + 1 := by omega
                  have Hrow := Lib.hid hrow7
                  clear hrow7 hrow6 hK6 hA6 hb6 hw1
                  generalize (L.take a ++ X :: L.drop a)[a]'_ = Y at f0 f1 f2 f3
                  have hgk : ¬ g5 = kB := fun e => hKg e.symm
                  have hgw : ¬ g5 = w.heap.size := by omega
                  go_wp2
                  go_roundw
                  case rel => exact ⟨j + 1, congrArg (Value.int IntKind.i64) (by have := Hu.out; omega), hj, by rw [hnx.out, srt_snoc, hL.out, hin.out, mid_len L m ha]; exact own_mid2 ha m Hrow.out, (by (repeat (first | with_reducible assumption | (with_reducible apply Blk.new_at; (first | rfl | (simp; done))) | with_reducible apply Blk.store3 | with_reducible apply Blk.store4 | (with_reducible apply Blk.farp; (first | omega | (simp <;> omega))) | with_reducible apply Blk.allocp | with_reducible apply Blk.drew | with_reducible apply Blk.drewN))), (by repeat (first | with_reducible exact Below.refl _ _ | with_reducible assumption | with_reducible apply Below.drew | with_reducible apply below_drewN | (with_reducible apply below_setp; (first | omega | (simp <;> omega))) | (with_reducible apply below_allocp; (first | omega | (simp <;> omega))) | (with_reducible refine below_viap (by assumption) ?_ ?_; (first | omega | (simp <;> omega)))))⟩
                  case measure => have := Hu.out; simp [intOf]; omega
              · have hn0 : ¬ (0 : Int) < (a : Int) := by omega
                have hpos : Hid (posM m L L.length = a) := Lib.hid (by
                  have h : a = 0 := (by omega)
                  have hq := hp.out
                  rw [h] at hq ⊢
                  exact hq)
                clear hp
                go_wp2
                refine wp_region_calm 11 (Below (wr.heap.size) _) (by kernel_rfl) (by kernel_rfl) ((Below.refl _ _).drew) ?_
                simp only [List.take_succ_cons, List.take_zero, List.drop_succ_cons, List.drop_zero]
                repeat (first | (apply wpCalm_go; go_simp; (intro w' hw' hcc hff; go_simp; first | exact rfl | fail); (intro K hK; go_simp; refine hK _ ?_; clear hK K)) | (apply wpCalm_skip; go_simp; (try (focus (simp [undef]; done))); (intro K hK; go_simp; refine hK _ ?_; clear hK K)))
                refine wpCalm_nil ?_
                intro w1 hw1
                have hcc := (calm_cells hw1).1
                have hff := (calm_cells hw1).2
                have hss := calm_size hw1
                have hsz := hw1.size
                (try simp at hsz)
                clear hn0 h0
                have hin := Lib.hid (show insM L m = L.take a ++ m :: L.drop a by unfold insM; rw [hpos.out])
                clear hpos hcc hff hsz hss
                have hK7 := hK6.below hw1 (by omega)
                have hA7 := hA6.below hw1 (by omega)
                have hrow7 := own_call hw1 hrow6
                have hb7 : Below w.heap.size w w1 := below_via hb6 hw1 (by omega)
                obtain ⟨g7, hg7, l7, f0, f1, f2, f3⟩ := own_elemM (k := a) (by rw [mid_len L X ha]; exact hrow7) (by rw [mid_len L X ha]; omega)
                injection hg7 with hg7; injection hg7 with hg7; subst hg7
                have fz := own_froz hrow7
                have kK := hK7.cell; have kF := hK7.frozen; have kL := hK7.lt
                have hA5 : (a : Int) < (L.length : Int) + 1 := by omega
                have Hrow := Lib.hid hrow7
                clear hrow7 hrow6 hK6 hA6 hb6 hw1
                generalize (L.take a ++ X :: L.drop a)[a]'_ = Y at f0 f1 f2 f3
                have hgk : ¬ g5 = kB := fun e => hKg e.symm
                have hgw : ¬ g5 = w.heap.size := by omega
                go_wp2
                go_roundw
                case rel => exact ⟨j + 1, congrArg (Value.int IntKind.i64) (by have := Hu.out; omega), hj, by rw [hnx.out, srt_snoc, hL.out, hin.out, mid_len L m ha]; exact own_mid2 ha m Hrow.out, (by (repeat (first | with_reducible assumption | (with_reducible apply Blk.new_at; (first | rfl | (simp; done))) | with_reducible apply Blk.store3 | with_reducible apply Blk.store4 | (with_reducible apply Blk.farp; (first | omega | (simp <;> omega))) | with_reducible apply Blk.allocp | with_reducible apply Blk.drew | with_reducible apply Blk.drewN))), (by repeat (first | with_reducible exact Below.refl _ _ | with_reducible assumption | with_reducible apply Below.drew | with_reducible apply below_drewN | (with_reducible apply below_setp; (first | omega | (simp <;> omega))) | (with_reducible apply below_allocp; (first | omega | (simp <;> omega))) | (with_reducible refine below_viap (by assumption) ?_ ?_; (first | omega | (simp <;> omega)))))⟩
                case measure => have := Hu.out; simp [intOf]; omega
        · have hj2 : j = 3 := by omega
          subst hj2
          go_wp2
          go_roundw
          case rel => exact ⟨i + 1, congrArg (Value.int IntKind.i64) (by have := Ht.out; omega), hlt, hown, hA, hbel⟩
          case measure => have := Ht.out; simp [intOf]; omega
    · have hi2 : i = 5 := by omega
      subst hi2
      obtain ⟨lb, lc, rfl⟩ := own_shape hown
      go_wp2
      go_ret
      exact ⟨_, rfl, own_base (by omega) hown, hbel⟩
end Go.Proofs.Yteicampphegolaa
