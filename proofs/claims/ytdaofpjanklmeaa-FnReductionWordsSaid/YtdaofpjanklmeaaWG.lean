/- Contracts: the inverse word, of both sides (written by gen_WG.py). -/
import Derived.Test.YtdaofpjanklmeaaWF
import Derived.Deep.RegionLaw
namespace Go.Proofs.Ytdaofpjanklmeaa
open Go.RowKit Go

/-- A word and a flag, the exponents in new memory. -/
def RetWb (s : Int) (L : List Int) (ok : Bool) (w : World) (e : Ending) (w' : World) : Prop := ∃ v, e = .returned (.tuple #[.agg #[.int .i64 s, v], .bool ok]) ∧ w'.ownsRow w.heap.size 3 1 v L.length (cellsI L) ∧ Below w.heap.size w w'
theorem ivL_full (L : List Int) : invL (L.drop L.length) = [] := by simp [invL]
theorem ivL_step {L : List Int} {k : Nat} (h : k < L.length) : invL (L.drop k) = invL (L.drop (k + 1)) ++ [-L[k]] := by
  rw [List.drop_eq_getElem_cons h, invL_cons]
theorem ivL_len (L : List Int) (k : Nat) : (invL (L.drop k)).length ≤ L.length := by simp [invL]
theorem even_tmod {n : Nat} (h : n % 2 = 0) : (n : Int).tmod 2 = 0 := by rw [Int.tmod_eq_emod_of_nonneg (by omega)]; omega
theorem odd_tmod {n : Nat} (h : ¬ n % 2 = 0) : (n : Int).tmod 2 = 1 := by rw [Int.tmod_eq_emod_of_nonneg (by omega)]; omega
/-- The state of the loop. -/
def IvSt (s s1 : Int) (L : List Int) (v : Value) (MB : Nat) (w : World) (vi : Value) (wr : World) : Prop :=
  ∃ (j : Nat) (i : Int) (u : Value), vi = .int .i64 i ∧ i = (j : Int) - 1 ∧ j ≤ L.length ∧ Blk wr w.heap.size 70 #[.int .i64 s, v] ∧ Blk wr (w.heap.size + 1) 70 #[.int .i64 0, .slice none 0 0] ∧ Blk wr MB 70 #[.int .i64 s1, u] ∧
    wr.ownsRow (MB + 1) 3 1 u (invL (L.drop j)).length (cellsI (invL (L.drop j))) ∧ Below w.heap.size w wr
set_option maxRecDepth 100000 in
set_option maxHeartbeats 12800000 in
theorem implInv_any (s : Int) (v : Value) (B : Nat) (L : List Int) (w : World) (hs0 : sgn64 s) (ho : OwnE w B v L) :
    Calls Try.prog 45 #[.agg #[.int .i64 s, v]] w (RetWb (if isWd s L then pmL L * s else 0) (if isWd s L then invL L else []) (isWd s L) w) := by
  obtain ⟨i0, hi0, hz0, hz1, hz2⟩ := info_parts infoInt
  obtain ⟨vb, vc, rfl⟩ := own_shape ho.2
  have hIs := Lib.hid (fun w (ho : OwnE w B (.slice vb L.length vc) L) => isWord_any s (.slice vb L.length vc) B L w hs0 ho)
  have hal : OwnE (((w.alloc (.cells #[.int .i64 s, .slice vb L.length vc] 70)).alloc (.cells #[.int .i64 0, .slice none 0 0] 70))) B (.slice vb L.length vc) L := ⟨ho.1, own_alloc (own_alloc ho.2)⟩
  have HO := Lib.hid ho
  clear ho hs0
  cases hw : isWd s L with
  | false =>
    rw [hw] at hIs
    clear hw
    rw [if_neg (by simp), if_neg (by simp)]
    go_enter Try.func45, Try.ntmps45
    go_wp2_with (go_at_call 119; (with_reducible refine (hIs.out _ hal).mono ?_); rintro e v1 ⟨rfl, hB1⟩; have hZ1 := hB1.size; (try simp at hZ1); (try have zl1 : w.heap.size < v1.heap.size := by omega); (try have ze1 : w.heap.size ≤ v1.heap.size := by omega); (try have zn1 : ¬ w.heap.size = v1.heap.size := by omega); (try have zm1 : ¬ v1.heap.size = w.heap.size := by omega); have hA1 : Blk v1 (w.heap.size) 70 #[.int .i64 s, (.slice vb L.length vc)] := Blk.call (by (repeat (first | with_reducible assumption | (with_reducible apply Blk.new_at; (first | rfl | (simp; done))) | with_reducible apply Blk.store3 | with_reducible apply Blk.store4 | (with_reducible apply Blk.farp; (first | omega | (simp <;> omega))) | with_reducible apply Blk.allocp | with_reducible apply Blk.drew | with_reducible apply Blk.drewN))) hB1; have cA1 := hA1.cell; have fA1 := hA1.frozen; have lA1 := hA1.lt; have mA1 := Nat.ne_of_gt lA1; have nA1 := Nat.ne_of_lt lA1; have hR1 : Blk v1 (w.heap.size + 1) 70 #[.int .i64 0, .slice none 0 0] := Blk.call (by (repeat (first | with_reducible assumption | (with_reducible apply Blk.new_at; (first | rfl | (simp; done))) | with_reducible apply Blk.store3 | with_reducible apply Blk.store4 | (with_reducible apply Blk.farp; (first | omega | (simp <;> omega))) | with_reducible apply Blk.allocp | with_reducible apply Blk.drew | with_reducible apply Blk.drewN))) hB1; have cR1 := hR1.cell; have fR1 := hR1.frozen; have lR1 := hR1.lt; have mR1 := Nat.ne_of_gt lR1; have nR1 := Nat.ne_of_lt lR1)
    exact bodyPost_ret (v := .tuple #[.agg #[.int .i64 0, .slice none 0 0], .bool false]) (by simp [results, Try.results45, go_sem, *]) rfl ⟨_, rfl, World.ownsRow_nil _ _ _ _, (by repeat (first | with_reducible exact Below.refl _ _ | with_reducible assumption | with_reducible apply Below.drew | with_reducible apply below_drewN | (with_reducible apply below_setp; (first | omega | (simp <;> omega))) | (with_reducible apply below_allocp; (first | omega | (simp <;> omega))) | (with_reducible refine below_viap (by assumption) ?_ ?_; (first | omega | (simp <;> omega)))))⟩
  | true =>
    obtain ⟨hs1, hn1, hn2, hall⟩ := isWd_yes hw
    have HA := Lib.hid hall
    rw [hw] at hIs
    rw [if_pos rfl, if_pos rfl]
    clear hw hall
    unfold pmL
    by_cases hev : L.length % 2 = 0
    · rw [if_pos hev, show (-1 : Int) * s = -s by omega]
      have hpar := even_tmod hev
      go_enter Try.func45, Try.ntmps45
      go_wp2_with (go_at_call 119; (with_reducible refine (hIs.out _ hal).mono ?_); rintro e v1 ⟨rfl, hB1⟩; have hZ1 := hB1.size; (try simp at hZ1); (try have zl1 : w.heap.size < v1.heap.size := by omega); (try have ze1 : w.heap.size ≤ v1.heap.size := by omega); (try have zn1 : ¬ w.heap.size = v1.heap.size := by omega); (try have zm1 : ¬ v1.heap.size = w.heap.size := by omega); have hA1 : Blk v1 (w.heap.size) 70 #[.int .i64 s, (.slice vb L.length vc)] := Blk.call (by (repeat (first | with_reducible assumption | (with_reducible apply Blk.new_at; (first | rfl | (simp; done))) | with_reducible apply Blk.store3 | with_reducible apply Blk.store4 | (with_reducible apply Blk.farp; (first | omega | (simp <;> omega))) | with_reducible apply Blk.allocp | with_reducible apply Blk.drew | with_reducible apply Blk.drewN))) hB1; have cA1 := hA1.cell; have fA1 := hA1.frozen; have lA1 := hA1.lt; have mA1 := Nat.ne_of_gt lA1; have nA1 := Nat.ne_of_lt lA1; have hR1 : Blk v1 (w.heap.size + 1) 70 #[.int .i64 0, .slice none 0 0] := Blk.call (by (repeat (first | with_reducible assumption | (with_reducible apply Blk.new_at; (first | rfl | (simp; done))) | with_reducible apply Blk.store3 | with_reducible apply Blk.store4 | (with_reducible apply Blk.farp; (first | omega | (simp <;> omega))) | with_reducible apply Blk.allocp | with_reducible apply Blk.drew | with_reducible apply Blk.drewN))) hB1; have cR1 := hR1.cell; have fR1 := hR1.frozen; have lR1 := hR1.lt; have mR1 := Nat.ne_of_gt lR1; have nR1 := Nat.ne_of_lt lR1)
      have hM2 : Blk (v1.alloc (.cells #[.int .i64 s, .slice none 0 0] 70)) v1.heap.size 70 #[.int .i64 s, .slice none 0 0] := Blk.new _ _ _
      have hA2 : Blk (v1.alloc (.cells #[.int .i64 s, .slice none 0 0] 70)) w.heap.size 70 #[.int .i64 s, (.slice vb L.length vc)] := Blk.allocp hA1
      have hR2 : Blk (v1.alloc (.cells #[.int .i64 s, .slice none 0 0] 70)) (w.heap.size + 1) 70 #[.int .i64 0, .slice none 0 0] := Blk.allocp hR1
      have hb2 : Below w.heap.size w (v1.alloc (.cells #[.int .i64 s, .slice none 0 0] 70)) := (by repeat (first | with_reducible exact Below.refl _ _ | with_reducible assumption | with_reducible apply Below.drew | with_reducible apply below_drewN | (with_reducible apply below_setp; (first | omega | (simp <;> omega))) | (with_reducible apply below_allocp; (first | omega | (simp <;> omega))) | (with_reducible refine below_viap (by assumption) ?_ ?_; (first | omega | (simp <;> omega)))))
      go_loopw [5] (fun vi wr => IvSt s (-s) L (.slice vb L.length vc) v1.heap.size w vi wr) (fun vi _ => (intOf vi + 1).toNat)
      case atStart =>
        refine ⟨L.length, (L.length : Int) - 1, .slice none 0 0, rfl, rfl, Nat.le_refl _, ?_, ?_, ?_, ?_, (by repeat (first | with_reducible exact Below.refl _ _ | with_reducible assumption | with_reducible apply Below.drew | with_reducible apply below_drewN | (with_reducible apply below_setp; (first | omega | (simp <;> omega))) | (with_reducible apply below_allocp; (first | omega | (simp <;> omega))) | (with_reducible refine below_viap (by assumption) ?_ ?_; (first | omega | (simp <;> omega)))))⟩
        · (repeat (first | with_reducible assumption | (with_reducible apply Blk.new_at; (first | rfl | (simp; done))) | with_reducible apply Blk.store3 | with_reducible apply Blk.store4 | (with_reducible apply Blk.farp; (first | omega | (simp <;> omega))) | with_reducible apply Blk.allocp | with_reducible apply Blk.drew | with_reducible apply Blk.drewN))
        · (repeat (first | with_reducible assumption | (with_reducible apply Blk.new_at; (first | rfl | (simp; done))) | with_reducible apply Blk.store3 | with_reducible apply Blk.store4 | (with_reducible apply Blk.farp; (first | omega | (simp <;> omega))) | with_reducible apply Blk.allocp | with_reducible apply Blk.drew | with_reducible apply Blk.drewN))
        · exact Blk.new _ _ _
        · rw [ivL_full]; exact World.ownsRow_nil _ _ _ _
      case round =>
        clear hM2 hA2 hR2 hb2 hA1 cA1 fA1 lA1 mA1 nA1 hR1 cR1 fR1 mR1 nR1 hB1 hIs hal
        obtain ⟨MB, hMB⟩ : ∃ MB, v1.heap.size = MB := ⟨_, rfl⟩
        have hMw : w.heap.size + 1 < MB := by omega
        rw [hMB] at hrel ⊢
        clear hMB lR1
        obtain ⟨j, i, u, rfl, hij, hj, hA, hR, hM, hown, hbel⟩ := hrel
        have hz := hbel.size
        obtain ⟨ub, uc, rfl⟩ := own_shape hown
        have cA := hA.cell; have fA := hA.frozen; have lA := hA.lt; have mA := Nat.ne_of_gt lA; have nA := Nat.ne_of_lt lA
        have cR := hR.cell; have fR := hR.frozen; have lR := hR.lt; have mR := Nat.ne_of_gt lR; have nR := Nat.ne_of_lt lR
        have cM := hM.cell; have fM := hM.frozen; have lM := hM.lt; have mM := Nat.ne_of_gt lM; have nM := Nat.ne_of_lt lM
        have q1 : ¬ w.heap.size = MB := by omega
        have q2 : ¬ MB = w.heap.size := by omega
        have q3 : ¬ w.heap.size + 1 = MB := by omega
        have q4 : ¬ MB = w.heap.size + 1 := by omega
        by_cases h0 : j = 0
        · subst h0
          obtain rfl : i = -1 := by omega
          clear hij
          rw [List.drop_zero] at *
          go_wp2
          exact bodyPost_ret (v := .tuple #[.agg #[.int .i64 (-s), .slice ub (invL L).length uc], .bool true]) (by simp [results, Try.results45, go_sem, *]) rfl ⟨.slice ub (invL L).length uc, rfl, own_base (show w.heap.size ≤ MB + 1 by omega) (by repeat (first | exact hown | refine own_nqv (fun q hq => by have := own_ge hown q hq; simp; omega) ?_)), (by repeat (first | with_reducible exact Below.refl _ _ | with_reducible assumption | with_reducible apply Below.drew | with_reducible apply below_drewN | (with_reducible apply below_setp; (first | omega | (simp <;> omega))) | (with_reducible apply below_allocp; (first | omega | (simp <;> omega))) | (with_reducible refine below_viap (by assumption) ?_ ?_; (first | omega | (simp <;> omega)))))⟩
        · obtain ⟨k, rfl⟩ : ∃ k, j = k + 1 := ⟨j - 1, by omega⟩
          obtain rfl : i = (k : Int) := by omega
          clear hij
          obtain ⟨g, rfl, lg, d1⟩ := own_elemI (own_call hbel HO.out.2) (k := k) (by omega)
          obtain ⟨e1, e2⟩ := numI_bd HA.out (k := k) (by omega)
          have Hst := Lib.hid (ivL_step (L := L) (k := k) (by omega))
          have hql := ivL_len L (k + 1)
          generalize L[k] = x at *
          generalize invL (L.drop (k + 1)) = Q at *
          have hkl : k < L.length := by omega
          have hwx : IntKind.i64.wrap (-x) = -x := IntWalk.i64_in _ (by omega)
          go_wp2
          go_region_law (first
            | (go_loud (refine step_append_any (wr.alloc (.cells #[.int .i64 (-x)] 3)).drew rfl (.tmp 31) (.tmp 38) 31 rfl (MB + 1) 3 i0 _ 1 8 Try.underlying31 hi0 hz0 hz1 hz2 rfl (by omega) (.slice ub Q.length uc) Q.length (cellsI Q) rfl (own_drew (own_alloc hown)) (wr.heap.size + 1) (some ⟨wr.heap.size, 0, none⟩) 1 1 [.int .i64 (-x)] rfl ⟨rfl, fun _ => ⟨_, rfl, (by simp), cells1 (Blk.drew (Blk.new _ _ _))⟩⟩ (one1 _) (by unfold maxLen; omega) (by omega) (by simp; omega) ?_; intro x2 w2 hown2 hgr2 _; obtain ⟨xb, xc, rfl⟩ := own_shape hown2; have hgs := hgr2.size; (try simp at hgs); have hA2 : Blk w2 (w.heap.size) 70 #[.int .i64 s, .slice (some ⟨g, 0, none⟩) L.length vc] := Blk.grown (by (repeat (first | with_reducible assumption | (with_reducible apply Blk.new_at; (first | rfl | (simp; done))) | with_reducible apply Blk.store3 | with_reducible apply Blk.store4 | (with_reducible apply Blk.farp; (first | omega | (simp <;> omega))) | with_reducible apply Blk.allocp | with_reducible apply Blk.drew | with_reducible apply Blk.drewN))) hgr2 (fun e => by have := own_ge hown _ e.symm; omega); have cA2 := hA2.cell; have fA2 := hA2.frozen; have lA2 := hA2.lt; have hR2 : Blk w2 (w.heap.size + 1) 70 #[.int .i64 0, .slice none 0 0] := Blk.grown (by (repeat (first | with_reducible assumption | (with_reducible apply Blk.new_at; (first | rfl | (simp; done))) | with_reducible apply Blk.store3 | with_reducible apply Blk.store4 | (with_reducible apply Blk.farp; (first | omega | (simp <;> omega))) | with_reducible apply Blk.allocp | with_reducible apply Blk.drew | with_reducible apply Blk.drewN))) hgr2 (fun e => by have := own_ge hown _ e.symm; omega); have cR2 := hR2.cell; have fR2 := hR2.frozen; have lR2 := hR2.lt; have hM2 : Blk w2 MB 70 #[.int .i64 (-s), .slice ub Q.length uc] := Blk.grown (by (repeat (first | with_reducible assumption | (with_reducible apply Blk.new_at; (first | rfl | (simp; done))) | with_reducible apply Blk.store3 | with_reducible apply Blk.store4 | (with_reducible apply Blk.farp; (first | omega | (simp <;> omega))) | with_reducible apply Blk.allocp | with_reducible apply Blk.drew | with_reducible apply Blk.drewN))) hgr2 (fun e => by have := own_ge hown _ e.symm; omega); have cM2 := hM2.cell; have fM2 := hM2.frozen; have lM2 := hM2.lt)))
          all_goals
            have hbN : Below w.heap.size w w2 := below_grown (fun q hq => by have := own_ge hown q hq; omega) (by simp; omega) hgr2 (by repeat (first | with_reducible exact Below.refl _ _ | with_reducible assumption | with_reducible apply Below.drew | with_reducible apply below_drewN | (with_reducible apply below_setp; (first | omega | (simp <;> omega))) | (with_reducible apply below_allocp; (first | omega | (simp <;> omega))) | (with_reducible refine below_viap (by assumption) ?_ ?_; (first | omega | (simp <;> omega)))))
            have hge2 := own_ge hown2
            go_wp2
            go_roundw
            case measure => simp [intOf] <;> omega
            case rel =>
              have hM3 : Blk (w2.setCell ⟨MB, 1, none⟩ (.slice xb (Q.length + 1) xc)) MB 70 #[.int .i64 (-s), .slice xb (Q.length + 1) xc] := hM2.set_ 1 _
              refine ⟨k, (k : Int) - 1, .slice xb (Q.length + 1) xc, by first | rfl | go_num, rfl, by omega, ?_, ?_, ?_, ?_, (by repeat (first | with_reducible exact Below.refl _ _ | with_reducible assumption | with_reducible apply Below.drew | with_reducible apply below_drewN | (with_reducible apply below_setp; (first | omega | (simp <;> omega))) | (with_reducible apply below_allocp; (first | omega | (simp <;> omega))) | (with_reducible refine below_viap (by assumption) ?_ ?_; (first | omega | (simp <;> omega)))))⟩
              · (repeat (first | with_reducible assumption | (with_reducible apply Blk.new_at; (first | rfl | (simp; done))) | with_reducible apply Blk.store3 | with_reducible apply Blk.store4 | (with_reducible apply Blk.farp; (first | omega | (simp <;> omega))) | with_reducible apply Blk.allocp | with_reducible apply Blk.drew | with_reducible apply Blk.drewN))
              · (repeat (first | with_reducible assumption | (with_reducible apply Blk.new_at; (first | rfl | (simp; done))) | with_reducible apply Blk.store3 | with_reducible apply Blk.store4 | (with_reducible apply Blk.farp; (first | omega | (simp <;> omega))) | with_reducible apply Blk.allocp | with_reducible apply Blk.drew | with_reducible apply Blk.drewN))
              · (repeat (first | with_reducible assumption | (with_reducible apply Blk.new_at; (first | rfl | (simp; done))) | with_reducible apply Blk.store3 | with_reducible apply Blk.store4 | (with_reducible apply Blk.farp; (first | omega | (simp <;> omega))) | with_reducible apply Blk.allocp | with_reducible apply Blk.drew | with_reducible apply Blk.drewN))
              · exact own_nqv (fun q hq => by have := hge2 q hq; simp; omega) (own_snocI Hst.out hown2)
    · rw [if_neg hev, Int.one_mul]
      have hpar := odd_tmod hev
      go_enter Try.func45, Try.ntmps45
      go_wp2_with (go_at_call 119; (with_reducible refine (hIs.out _ hal).mono ?_); rintro e v1 ⟨rfl, hB1⟩; have hZ1 := hB1.size; (try simp at hZ1); (try have zl1 : w.heap.size < v1.heap.size := by omega); (try have ze1 : w.heap.size ≤ v1.heap.size := by omega); (try have zn1 : ¬ w.heap.size = v1.heap.size := by omega); (try have zm1 : ¬ v1.heap.size = w.heap.size := by omega); have hA1 : Blk v1 (w.heap.size) 70 #[.int .i64 s, (.slice vb L.length vc)] := Blk.call (by (repeat (first | with_reducible assumption | (with_reducible apply Blk.new_at; (first | rfl | (simp; done))) | with_reducible apply Blk.store3 | with_reducible apply Blk.store4 | (with_reducible apply Blk.farp; (first | omega | (simp <;> omega))) | with_reducible apply Blk.allocp | with_reducible apply Blk.drew | with_reducible apply Blk.drewN))) hB1; have cA1 := hA1.cell; have fA1 := hA1.frozen; have lA1 := hA1.lt; have mA1 := Nat.ne_of_gt lA1; have nA1 := Nat.ne_of_lt lA1; have hR1 : Blk v1 (w.heap.size + 1) 70 #[.int .i64 0, .slice none 0 0] := Blk.call (by (repeat (first | with_reducible assumption | (with_reducible apply Blk.new_at; (first | rfl | (simp; done))) | with_reducible apply Blk.store3 | with_reducible apply Blk.store4 | (with_reducible apply Blk.farp; (first | omega | (simp <;> omega))) | with_reducible apply Blk.allocp | with_reducible apply Blk.drew | with_reducible apply Blk.drewN))) hB1; have cR1 := hR1.cell; have fR1 := hR1.frozen; have lR1 := hR1.lt; have mR1 := Nat.ne_of_gt lR1; have nR1 := Nat.ne_of_lt lR1)
      have hM2 : Blk (v1.alloc (.cells #[.int .i64 s, .slice none 0 0] 70)) v1.heap.size 70 #[.int .i64 s, .slice none 0 0] := Blk.new _ _ _
      have hA2 : Blk (v1.alloc (.cells #[.int .i64 s, .slice none 0 0] 70)) w.heap.size 70 #[.int .i64 s, (.slice vb L.length vc)] := Blk.allocp hA1
      have hR2 : Blk (v1.alloc (.cells #[.int .i64 s, .slice none 0 0] 70)) (w.heap.size + 1) 70 #[.int .i64 0, .slice none 0 0] := Blk.allocp hR1
      have hb2 : Below w.heap.size w (v1.alloc (.cells #[.int .i64 s, .slice none 0 0] 70)) := (by repeat (first | with_reducible exact Below.refl _ _ | with_reducible assumption | with_reducible apply Below.drew | with_reducible apply below_drewN | (with_reducible apply below_setp; (first | omega | (simp <;> omega))) | (with_reducible apply below_allocp; (first | omega | (simp <;> omega))) | (with_reducible refine below_viap (by assumption) ?_ ?_; (first | omega | (simp <;> omega)))))
      go_loopw [5] (fun vi wr => IvSt s s L (.slice vb L.length vc) v1.heap.size w vi wr) (fun vi _ => (intOf vi + 1).toNat)
      case atStart =>
        refine ⟨L.length, (L.length : Int) - 1, .slice none 0 0, rfl, rfl, Nat.le_refl _, ?_, ?_, ?_, ?_, (by repeat (first | with_reducible exact Below.refl _ _ | with_reducible assumption | with_reducible apply Below.drew | with_reducible apply below_drewN | (with_reducible apply below_setp; (first | omega | (simp <;> omega))) | (with_reducible apply below_allocp; (first | omega | (simp <;> omega))) | (with_reducible refine below_viap (by assumption) ?_ ?_; (first | omega | (simp <;> omega)))))⟩
        · (repeat (first | with_reducible assumption | (with_reducible apply Blk.new_at; (first | rfl | (simp; done))) | with_reducible apply Blk.store3 | with_reducible apply Blk.store4 | (with_reducible apply Blk.farp; (first | omega | (simp <;> omega))) | with_reducible apply Blk.allocp | with_reducible apply Blk.drew | with_reducible apply Blk.drewN))
        · (repeat (first | with_reducible assumption | (with_reducible apply Blk.new_at; (first | rfl | (simp; done))) | with_reducible apply Blk.store3 | with_reducible apply Blk.store4 | (with_reducible apply Blk.farp; (first | omega | (simp <;> omega))) | with_reducible apply Blk.allocp | with_reducible apply Blk.drew | with_reducible apply Blk.drewN))
        · exact Blk.new _ _ _
        · rw [ivL_full]; exact World.ownsRow_nil _ _ _ _
      case round =>
        clear hM2 hA2 hR2 hb2 hA1 cA1 fA1 lA1 mA1 nA1 hR1 cR1 fR1 mR1 nR1 hB1 hIs hal
        obtain ⟨MB, hMB⟩ : ∃ MB, v1.heap.size = MB := ⟨_, rfl⟩
        have hMw : w.heap.size + 1 < MB := by omega
        rw [hMB] at hrel ⊢
        clear hMB lR1
        obtain ⟨j, i, u, rfl, hij, hj, hA, hR, hM, hown, hbel⟩ := hrel
        have hz := hbel.size
        obtain ⟨ub, uc, rfl⟩ := own_shape hown
        have cA := hA.cell; have fA := hA.frozen; have lA := hA.lt; have mA := Nat.ne_of_gt lA; have nA := Nat.ne_of_lt lA
        have cR := hR.cell; have fR := hR.frozen; have lR := hR.lt; have mR := Nat.ne_of_gt lR; have nR := Nat.ne_of_lt lR
        have cM := hM.cell; have fM := hM.frozen; have lM := hM.lt; have mM := Nat.ne_of_gt lM; have nM := Nat.ne_of_lt lM
        have q1 : ¬ w.heap.size = MB := by omega
        have q2 : ¬ MB = w.heap.size := by omega
        have q3 : ¬ w.heap.size + 1 = MB := by omega
        have q4 : ¬ MB = w.heap.size + 1 := by omega
        by_cases h0 : j = 0
        · subst h0
          obtain rfl : i = -1 := by omega
          clear hij
          rw [List.drop_zero] at *
          go_wp2
          exact bodyPost_ret (v := .tuple #[.agg #[.int .i64 s, .slice ub (invL L).length uc], .bool true]) (by simp [results, Try.results45, go_sem, *]) rfl ⟨.slice ub (invL L).length uc, rfl, own_base (show w.heap.size ≤ MB + 1 by omega) (by repeat (first | exact hown | refine own_nqv (fun q hq => by have := own_ge hown q hq; simp; omega) ?_)), (by repeat (first | with_reducible exact Below.refl _ _ | with_reducible assumption | with_reducible apply Below.drew | with_reducible apply below_drewN | (with_reducible apply below_setp; (first | omega | (simp <;> omega))) | (with_reducible apply below_allocp; (first | omega | (simp <;> omega))) | (with_reducible refine below_viap (by assumption) ?_ ?_; (first | omega | (simp <;> omega)))))⟩
        · obtain ⟨k, rfl⟩ : ∃ k, j = k + 1 := ⟨j - 1, by omega⟩
          obtain rfl : i = (k : Int) := by omega
          clear hij
          obtain ⟨g, rfl, lg, d1⟩ := own_elemI (own_call hbel HO.out.2) (k := k) (by omega)
          obtain ⟨e1, e2⟩ := numI_bd HA.out (k := k) (by omega)
          have Hst := Lib.hid (ivL_step (L := L) (k := k) (by omega))
          have hql := ivL_len L (k + 1)
          generalize L[k] = x at *
          generalize invL (L.drop (k + 1)) = Q at *
          have hkl : k < L.length := by omega
          have hwx : IntKind.i64.wrap (-x) = -x := IntWalk.i64_in _ (by omega)
          go_wp2
          go_region_law (first
            | (go_loud (refine step_append_any (wr.alloc (.cells #[.int .i64 (-x)] 3)).drew rfl (.tmp 31) (.tmp 38) 31 rfl (MB + 1) 3 i0 _ 1 8 Try.underlying31 hi0 hz0 hz1 hz2 rfl (by omega) (.slice ub Q.length uc) Q.length (cellsI Q) rfl (own_drew (own_alloc hown)) (wr.heap.size + 1) (some ⟨wr.heap.size, 0, none⟩) 1 1 [.int .i64 (-x)] rfl ⟨rfl, fun _ => ⟨_, rfl, (by simp), cells1 (Blk.drew (Blk.new _ _ _))⟩⟩ (one1 _) (by unfold maxLen; omega) (by omega) (by simp; omega) ?_; intro x2 w2 hown2 hgr2 _; obtain ⟨xb, xc, rfl⟩ := own_shape hown2; have hgs := hgr2.size; (try simp at hgs); have hA2 : Blk w2 (w.heap.size) 70 #[.int .i64 s, .slice (some ⟨g, 0, none⟩) L.length vc] := Blk.grown (by (repeat (first | with_reducible assumption | (with_reducible apply Blk.new_at; (first | rfl | (simp; done))) | with_reducible apply Blk.store3 | with_reducible apply Blk.store4 | (with_reducible apply Blk.farp; (first | omega | (simp <;> omega))) | with_reducible apply Blk.allocp | with_reducible apply Blk.drew | with_reducible apply Blk.drewN))) hgr2 (fun e => by have := own_ge hown _ e.symm; omega); have cA2 := hA2.cell; have fA2 := hA2.frozen; have lA2 := hA2.lt; have hR2 : Blk w2 (w.heap.size + 1) 70 #[.int .i64 0, .slice none 0 0] := Blk.grown (by (repeat (first | with_reducible assumption | (with_reducible apply Blk.new_at; (first | rfl | (simp; done))) | with_reducible apply Blk.store3 | with_reducible apply Blk.store4 | (with_reducible apply Blk.farp; (first | omega | (simp <;> omega))) | with_reducible apply Blk.allocp | with_reducible apply Blk.drew | with_reducible apply Blk.drewN))) hgr2 (fun e => by have := own_ge hown _ e.symm; omega); have cR2 := hR2.cell; have fR2 := hR2.frozen; have lR2 := hR2.lt; have hM2 : Blk w2 MB 70 #[.int .i64 s, .slice ub Q.length uc] := Blk.grown (by (repeat (first | with_reducible assumption | (with_reducible apply Blk.new_at; (first | rfl | (simp; done))) | with_reducible apply Blk.store3 | with_reducible apply Blk.store4 | (with_reducible apply Blk.farp; (first | omega | (simp <;> omega))) | with_reducible apply Blk.allocp | with_reducible apply Blk.drew | with_reducible apply Blk.drewN))) hgr2 (fun e => by have := own_ge hown _ e.symm; omega); have cM2 := hM2.cell; have fM2 := hM2.frozen; have lM2 := hM2.lt)))
          all_goals
            have hbN : Below w.heap.size w w2 := below_grown (fun q hq => by have := own_ge hown q hq; omega) (by simp; omega) hgr2 (by repeat (first | with_reducible exact Below.refl _ _ | with_reducible assumption | with_reducible apply Below.drew | with_reducible apply below_drewN | (with_reducible apply below_setp; (first | omega | (simp <;> omega))) | (with_reducible apply below_allocp; (first | omega | (simp <;> omega))) | (with_reducible refine below_viap (by assumption) ?_ ?_; (first | omega | (simp <;> omega)))))
            have hge2 := own_ge hown2
            go_wp2
            go_roundw
            case measure => simp [intOf] <;> omega
            case rel =>
              have hM3 : Blk (w2.setCell ⟨MB, 1, none⟩ (.slice xb (Q.length + 1) xc)) MB 70 #[.int .i64 s, .slice xb (Q.length + 1) xc] := hM2.set_ 1 _
              refine ⟨k, (k : Int) - 1, .slice xb (Q.length + 1) xc, by first | rfl | go_num, rfl, by omega, ?_, ?_, ?_, ?_, (by repeat (first | with_reducible exact Below.refl _ _ | with_reducible assumption | with_reducible apply Below.drew | with_reducible apply below_drewN | (with_reducible apply below_setp; (first | omega | (simp <;> omega))) | (with_reducible apply below_allocp; (first | omega | (simp <;> omega))) | (with_reducible refine below_viap (by assumption) ?_ ?_; (first | omega | (simp <;> omega)))))⟩
              · (repeat (first | with_reducible assumption | (with_reducible apply Blk.new_at; (first | rfl | (simp; done))) | with_reducible apply Blk.store3 | with_reducible apply Blk.store4 | (with_reducible apply Blk.farp; (first | omega | (simp <;> omega))) | with_reducible apply Blk.allocp | with_reducible apply Blk.drew | with_reducible apply Blk.drewN))
              · (repeat (first | with_reducible assumption | (with_reducible apply Blk.new_at; (first | rfl | (simp; done))) | with_reducible apply Blk.store3 | with_reducible apply Blk.store4 | (with_reducible apply Blk.farp; (first | omega | (simp <;> omega))) | with_reducible apply Blk.allocp | with_reducible apply Blk.drew | with_reducible apply Blk.drewN))
              · (repeat (first | with_reducible assumption | (with_reducible apply Blk.new_at; (first | rfl | (simp; done))) | with_reducible apply Blk.store3 | with_reducible apply Blk.store4 | (with_reducible apply Blk.farp; (first | omega | (simp <;> omega))) | with_reducible apply Blk.allocp | with_reducible apply Blk.drew | with_reducible apply Blk.drewN))
              · exact own_nqv (fun q hq => by have := hge2 q hq; simp; omega) (own_snocI Hst.out hown2)
set_option maxRecDepth 100000 in
set_option maxHeartbeats 12800000 in
theorem specInv_any (s : Int) (v : Value) (B : Nat) (L : List Int) (w : World) (hs0 : sgn64 s) (ho : OwnE w B v L) :
    Calls Try.prog 46 #[.agg #[.int .i64 s, v]] w (RetWb (if isWd s L then pmL L * s else 0) (if isWd s L then invL L else []) (isWd s L) w) := by
  obtain ⟨i0, hi0, hz0, hz1, hz2⟩ := info_parts infoInt
  obtain ⟨vb, vc, rfl⟩ := own_shape ho.2
  have hIs := Lib.hid (fun w (ho : OwnE w B (.slice vb L.length vc) L) => moGood_any s (.slice vb L.length vc) B L w hs0 ho)
  have hal : OwnE (((w.alloc (.cells #[.int .i64 s, .slice vb L.length vc] 70)).alloc (.cells #[.int .i64 0, .slice none 0 0] 70))) B (.slice vb L.length vc) L := ⟨ho.1, own_alloc (own_alloc ho.2)⟩
  have HO := Lib.hid ho
  clear ho hs0
  cases hw : isWd s L with
  | false =>
    rw [hw] at hIs
    clear hw
    rw [if_neg (by simp), if_neg (by simp)]
    go_enter Try.func46, Try.ntmps46
    go_wp2_with (go_at_call 124; (with_reducible refine (hIs.out _ hal).mono ?_); rintro e v1 ⟨rfl, hB1⟩; have hZ1 := hB1.size; (try simp at hZ1); (try have zl1 : w.heap.size < v1.heap.size := by omega); (try have ze1 : w.heap.size ≤ v1.heap.size := by omega); (try have zn1 : ¬ w.heap.size = v1.heap.size := by omega); (try have zm1 : ¬ v1.heap.size = w.heap.size := by omega); have hA1 : Blk v1 (w.heap.size) 70 #[.int .i64 s, (.slice vb L.length vc)] := Blk.call (by (repeat (first | with_reducible assumption | (with_reducible apply Blk.new_at; (first | rfl | (simp; done))) | with_reducible apply Blk.store3 | with_reducible apply Blk.store4 | (with_reducible apply Blk.farp; (first | omega | (simp <;> omega))) | with_reducible apply Blk.allocp | with_reducible apply Blk.drew | with_reducible apply Blk.drewN))) hB1; have cA1 := hA1.cell; have fA1 := hA1.frozen; have lA1 := hA1.lt; have mA1 := Nat.ne_of_gt lA1; have nA1 := Nat.ne_of_lt lA1; have hR1 : Blk v1 (w.heap.size + 1) 70 #[.int .i64 0, .slice none 0 0] := Blk.call (by (repeat (first | with_reducible assumption | (with_reducible apply Blk.new_at; (first | rfl | (simp; done))) | with_reducible apply Blk.store3 | with_reducible apply Blk.store4 | (with_reducible apply Blk.farp; (first | omega | (simp <;> omega))) | with_reducible apply Blk.allocp | with_reducible apply Blk.drew | with_reducible apply Blk.drewN))) hB1; have cR1 := hR1.cell; have fR1 := hR1.frozen; have lR1 := hR1.lt; have mR1 := Nat.ne_of_gt lR1; have nR1 := Nat.ne_of_lt lR1)
    exact bodyPost_ret (v := .tuple #[.agg #[.int .i64 0, .slice none 0 0], .bool false]) (by simp [results, Try.results46, go_sem, *]) rfl ⟨_, rfl, World.ownsRow_nil _ _ _ _, (by repeat (first | with_reducible exact Below.refl _ _ | with_reducible assumption | with_reducible apply Below.drew | with_reducible apply below_drewN | (with_reducible apply below_setp; (first | omega | (simp <;> omega))) | (with_reducible apply below_allocp; (first | omega | (simp <;> omega))) | (with_reducible refine below_viap (by assumption) ?_ ?_; (first | omega | (simp <;> omega)))))⟩
  | true =>
    obtain ⟨hs1, hn1, hn2, hall⟩ := isWd_yes hw
    have HA := Lib.hid hall
    rw [hw] at hIs
    rw [if_pos rfl, if_pos rfl]
    clear hw hall
    unfold pmL
    by_cases hev : L.length % 2 = 0
    · rw [if_pos hev, show (-1 : Int) * s = -s by omega]
      have hpar := even_tmod hev
      go_enter Try.func46, Try.ntmps46
      go_wp2_with (go_at_call 124; (with_reducible refine (hIs.out _ hal).mono ?_); rintro e v1 ⟨rfl, hB1⟩; have hZ1 := hB1.size; (try simp at hZ1); (try have zl1 : w.heap.size < v1.heap.size := by omega); (try have ze1 : w.heap.size ≤ v1.heap.size := by omega); (try have zn1 : ¬ w.heap.size = v1.heap.size := by omega); (try have zm1 : ¬ v1.heap.size = w.heap.size := by omega); have hA1 : Blk v1 (w.heap.size) 70 #[.int .i64 s, (.slice vb L.length vc)] := Blk.call (by (repeat (first | with_reducible assumption | (with_reducible apply Blk.new_at; (first | rfl | (simp; done))) | with_reducible apply Blk.store3 | with_reducible apply Blk.store4 | (with_reducible apply Blk.farp; (first | omega | (simp <;> omega))) | with_reducible apply Blk.allocp | with_reducible apply Blk.drew | with_reducible apply Blk.drewN))) hB1; have cA1 := hA1.cell; have fA1 := hA1.frozen; have lA1 := hA1.lt; have mA1 := Nat.ne_of_gt lA1; have nA1 := Nat.ne_of_lt lA1; have hR1 : Blk v1 (w.heap.size + 1) 70 #[.int .i64 0, .slice none 0 0] := Blk.call (by (repeat (first | with_reducible assumption | (with_reducible apply Blk.new_at; (first | rfl | (simp; done))) | with_reducible apply Blk.store3 | with_reducible apply Blk.store4 | (with_reducible apply Blk.farp; (first | omega | (simp <;> omega))) | with_reducible apply Blk.allocp | with_reducible apply Blk.drew | with_reducible apply Blk.drewN))) hB1; have cR1 := hR1.cell; have fR1 := hR1.frozen; have lR1 := hR1.lt; have mR1 := Nat.ne_of_gt lR1; have nR1 := Nat.ne_of_lt lR1)
      have hM2 : Blk (v1.alloc (.cells #[.int .i64 s, .slice none 0 0] 70)) v1.heap.size 70 #[.int .i64 s, .slice none 0 0] := Blk.new _ _ _
      have hA2 : Blk (v1.alloc (.cells #[.int .i64 s, .slice none 0 0] 70)) w.heap.size 70 #[.int .i64 s, (.slice vb L.length vc)] := Blk.allocp hA1
      have hR2 : Blk (v1.alloc (.cells #[.int .i64 s, .slice none 0 0] 70)) (w.heap.size + 1) 70 #[.int .i64 0, .slice none 0 0] := Blk.allocp hR1
      have hb2 : Below w.heap.size w (v1.alloc (.cells #[.int .i64 s, .slice none 0 0] 70)) := (by repeat (first | with_reducible exact Below.refl _ _ | with_reducible assumption | with_reducible apply Below.drew | with_reducible apply below_drewN | (with_reducible apply below_setp; (first | omega | (simp <;> omega))) | (with_reducible apply below_allocp; (first | omega | (simp <;> omega))) | (with_reducible refine below_viap (by assumption) ?_ ?_; (first | omega | (simp <;> omega)))))
      go_loopw [5] (fun vi wr => IvSt s s L (.slice vb L.length vc) v1.heap.size w vi wr) (fun vi _ => (intOf vi + 1).toNat)
      case atStart =>
        refine ⟨L.length, (L.length : Int) - 1, .slice none 0 0, rfl, rfl, Nat.le_refl _, ?_, ?_, ?_, ?_, (by repeat (first | with_reducible exact Below.refl _ _ | with_reducible assumption | with_reducible apply Below.drew | with_reducible apply below_drewN | (with_reducible apply below_setp; (first | omega | (simp <;> omega))) | (with_reducible apply below_allocp; (first | omega | (simp <;> omega))) | (with_reducible refine below_viap (by assumption) ?_ ?_; (first | omega | (simp <;> omega)))))⟩
        · (repeat (first | with_reducible assumption | (with_reducible apply Blk.new_at; (first | rfl | (simp; done))) | with_reducible apply Blk.store3 | with_reducible apply Blk.store4 | (with_reducible apply Blk.farp; (first | omega | (simp <;> omega))) | with_reducible apply Blk.allocp | with_reducible apply Blk.drew | with_reducible apply Blk.drewN))
        · (repeat (first | with_reducible assumption | (with_reducible apply Blk.new_at; (first | rfl | (simp; done))) | with_reducible apply Blk.store3 | with_reducible apply Blk.store4 | (with_reducible apply Blk.farp; (first | omega | (simp <;> omega))) | with_reducible apply Blk.allocp | with_reducible apply Blk.drew | with_reducible apply Blk.drewN))
        · exact Blk.new _ _ _
        · rw [ivL_full]; exact World.ownsRow_nil _ _ _ _
      case round =>
        clear hM2 hA2 hR2 hb2 hA1 cA1 fA1 lA1 mA1 nA1 hR1 cR1 fR1 mR1 nR1 hB1 hIs hal
        obtain ⟨MB, hMB⟩ : ∃ MB, v1.heap.size = MB := ⟨_, rfl⟩
        have hMw : w.heap.size + 1 < MB := by omega
        rw [hMB] at hrel ⊢
        clear hMB lR1
        obtain ⟨j, i, u, rfl, hij, hj, hA, hR, hM, hown, hbel⟩ := hrel
        have hz := hbel.size
        obtain ⟨ub, uc, rfl⟩ := own_shape hown
        have cA := hA.cell; have fA := hA.frozen; have lA := hA.lt; have mA := Nat.ne_of_gt lA; have nA := Nat.ne_of_lt lA
        have cR := hR.cell; have fR := hR.frozen; have lR := hR.lt; have mR := Nat.ne_of_gt lR; have nR := Nat.ne_of_lt lR
        have cM := hM.cell; have fM := hM.frozen; have lM := hM.lt; have mM := Nat.ne_of_gt lM; have nM := Nat.ne_of_lt lM
        have q1 : ¬ w.heap.size = MB := by omega
        have q2 : ¬ MB = w.heap.size := by omega
        have q3 : ¬ w.heap.size + 1 = MB := by omega
        have q4 : ¬ MB = w.heap.size + 1 := by omega
        by_cases h0 : j = 0
        · subst h0
          obtain rfl : i = -1 := by omega
          clear hij
          rw [List.drop_zero] at *
          go_wp2
          exact bodyPost_ret (v := .tuple #[.agg #[.int .i64 (-s), .slice ub (invL L).length uc], .bool true]) (by simp [results, Try.results46, go_sem, *]) rfl ⟨.slice ub (invL L).length uc, rfl, own_base (show w.heap.size ≤ MB + 1 by omega) (by repeat (first | exact hown | refine own_nqv (fun q hq => by have := own_ge hown q hq; simp; omega) ?_)), (by repeat (first | with_reducible exact Below.refl _ _ | with_reducible assumption | with_reducible apply Below.drew | with_reducible apply below_drewN | (with_reducible apply below_setp; (first | omega | (simp <;> omega))) | (with_reducible apply below_allocp; (first | omega | (simp <;> omega))) | (with_reducible refine below_viap (by assumption) ?_ ?_; (first | omega | (simp <;> omega)))))⟩
        · obtain ⟨k, rfl⟩ : ∃ k, j = k + 1 := ⟨j - 1, by omega⟩
          obtain rfl : i = (k : Int) := by omega
          clear hij
          obtain ⟨g, rfl, lg, d1⟩ := own_elemI (own_call hbel HO.out.2) (k := k) (by omega)
          obtain ⟨e1, e2⟩ := numI_bd HA.out (k := k) (by omega)
          have Hst := Lib.hid (ivL_step (L := L) (k := k) (by omega))
          have hql := ivL_len L (k + 1)
          generalize L[k] = x at *
          generalize invL (L.drop (k + 1)) = Q at *
          have hkl : k < L.length := by omega
          have hwx : IntKind.i64.wrap (-x) = -x := IntWalk.i64_in _ (by omega)
          go_wp2
          go_region_law (first
            | (go_loud (refine step_append_any (wr.alloc (.cells #[.int .i64 (-x)] 3)).drew rfl (.tmp 22) (.tmp 29) 31 rfl (MB + 1) 3 i0 _ 1 8 Try.underlying31 hi0 hz0 hz1 hz2 rfl (by omega) (.slice ub Q.length uc) Q.length (cellsI Q) rfl (own_drew (own_alloc hown)) (wr.heap.size + 1) (some ⟨wr.heap.size, 0, none⟩) 1 1 [.int .i64 (-x)] rfl ⟨rfl, fun _ => ⟨_, rfl, (by simp), cells1 (Blk.drew (Blk.new _ _ _))⟩⟩ (one1 _) (by unfold maxLen; omega) (by omega) (by simp; omega) ?_; intro x2 w2 hown2 hgr2 _; obtain ⟨xb, xc, rfl⟩ := own_shape hown2; have hgs := hgr2.size; (try simp at hgs); have hA2 : Blk w2 (w.heap.size) 70 #[.int .i64 s, .slice (some ⟨g, 0, none⟩) L.length vc] := Blk.grown (by (repeat (first | with_reducible assumption | (with_reducible apply Blk.new_at; (first | rfl | (simp; done))) | with_reducible apply Blk.store3 | with_reducible apply Blk.store4 | (with_reducible apply Blk.farp; (first | omega | (simp <;> omega))) | with_reducible apply Blk.allocp | with_reducible apply Blk.drew | with_reducible apply Blk.drewN))) hgr2 (fun e => by have := own_ge hown _ e.symm; omega); have cA2 := hA2.cell; have fA2 := hA2.frozen; have lA2 := hA2.lt; have hR2 : Blk w2 (w.heap.size + 1) 70 #[.int .i64 0, .slice none 0 0] := Blk.grown (by (repeat (first | with_reducible assumption | (with_reducible apply Blk.new_at; (first | rfl | (simp; done))) | with_reducible apply Blk.store3 | with_reducible apply Blk.store4 | (with_reducible apply Blk.farp; (first | omega | (simp <;> omega))) | with_reducible apply Blk.allocp | with_reducible apply Blk.drew | with_reducible apply Blk.drewN))) hgr2 (fun e => by have := own_ge hown _ e.symm; omega); have cR2 := hR2.cell; have fR2 := hR2.frozen; have lR2 := hR2.lt; have hM2 : Blk w2 MB 70 #[.int .i64 s, .slice ub Q.length uc] := Blk.grown (by (repeat (first | with_reducible assumption | (with_reducible apply Blk.new_at; (first | rfl | (simp; done))) | with_reducible apply Blk.store3 | with_reducible apply Blk.store4 | (with_reducible apply Blk.farp; (first | omega | (simp <;> omega))) | with_reducible apply Blk.allocp | with_reducible apply Blk.drew | with_reducible apply Blk.drewN))) hgr2 (fun e => by have := own_ge hown _ e.symm; omega); have cM2 := hM2.cell; have fM2 := hM2.frozen; have lM2 := hM2.lt)))
          all_goals
            have hbN : Below w.heap.size w w2 := below_grown (fun q hq => by have := own_ge hown q hq; omega) (by simp; omega) hgr2 (by repeat (first | with_reducible exact Below.refl _ _ | with_reducible assumption | with_reducible apply Below.drew | with_reducible apply below_drewN | (with_reducible apply below_setp; (first | omega | (simp <;> omega))) | (with_reducible apply below_allocp; (first | omega | (simp <;> omega))) | (with_reducible refine below_viap (by assumption) ?_ ?_; (first | omega | (simp <;> omega)))))
            have hge2 := own_ge hown2
            go_wp2
            go_roundw
            case measure => simp [intOf] <;> omega
            case rel =>
              have hM3 : Blk (w2.setCell ⟨MB, 1, none⟩ (.slice xb (Q.length + 1) xc)) MB 70 #[.int .i64 s, .slice xb (Q.length + 1) xc] := hM2.set_ 1 _
              refine ⟨k, (k : Int) - 1, .slice xb (Q.length + 1) xc, by first | rfl | go_num, rfl, by omega, ?_, ?_, ?_, ?_, (by repeat (first | with_reducible exact Below.refl _ _ | with_reducible assumption | with_reducible apply Below.drew | with_reducible apply below_drewN | (with_reducible apply below_setp; (first | omega | (simp <;> omega))) | (with_reducible apply below_allocp; (first | omega | (simp <;> omega))) | (with_reducible refine below_viap (by assumption) ?_ ?_; (first | omega | (simp <;> omega)))))⟩
              · (repeat (first | with_reducible assumption | (with_reducible apply Blk.new_at; (first | rfl | (simp; done))) | with_reducible apply Blk.store3 | with_reducible apply Blk.store4 | (with_reducible apply Blk.farp; (first | omega | (simp <;> omega))) | with_reducible apply Blk.allocp | with_reducible apply Blk.drew | with_reducible apply Blk.drewN))
              · (repeat (first | with_reducible assumption | (with_reducible apply Blk.new_at; (first | rfl | (simp; done))) | with_reducible apply Blk.store3 | with_reducible apply Blk.store4 | (with_reducible apply Blk.farp; (first | omega | (simp <;> omega))) | with_reducible apply Blk.allocp | with_reducible apply Blk.drew | with_reducible apply Blk.drewN))
              · (repeat (first | with_reducible assumption | (with_reducible apply Blk.new_at; (first | rfl | (simp; done))) | with_reducible apply Blk.store3 | with_reducible apply Blk.store4 | (with_reducible apply Blk.farp; (first | omega | (simp <;> omega))) | with_reducible apply Blk.allocp | with_reducible apply Blk.drew | with_reducible apply Blk.drewN))
              · exact own_nqv (fun q hq => by have := hge2 q hq; simp; omega) (own_snocI Hst.out hown2)
    · rw [if_neg hev, Int.one_mul]
      have hpar := odd_tmod hev
      go_enter Try.func46, Try.ntmps46
      go_wp2_with (go_at_call 124; (with_reducible refine (hIs.out _ hal).mono ?_); rintro e v1 ⟨rfl, hB1⟩; have hZ1 := hB1.size; (try simp at hZ1); (try have zl1 : w.heap.size < v1.heap.size := by omega); (try have ze1 : w.heap.size ≤ v1.heap.size := by omega); (try have zn1 : ¬ w.heap.size = v1.heap.size := by omega); (try have zm1 : ¬ v1.heap.size = w.heap.size := by omega); have hA1 : Blk v1 (w.heap.size) 70 #[.int .i64 s, (.slice vb L.length vc)] := Blk.call (by (repeat (first | with_reducible assumption | (with_reducible apply Blk.new_at; (first | rfl | (simp; done))) | with_reducible apply Blk.store3 | with_reducible apply Blk.store4 | (with_reducible apply Blk.farp; (first | omega | (simp <;> omega))) | with_reducible apply Blk.allocp | with_reducible apply Blk.drew | with_reducible apply Blk.drewN))) hB1; have cA1 := hA1.cell; have fA1 := hA1.frozen; have lA1 := hA1.lt; have mA1 := Nat.ne_of_gt lA1; have nA1 := Nat.ne_of_lt lA1; have hR1 : Blk v1 (w.heap.size + 1) 70 #[.int .i64 0, .slice none 0 0] := Blk.call (by (repeat (first | with_reducible assumption | (with_reducible apply Blk.new_at; (first | rfl | (simp; done))) | with_reducible apply Blk.store3 | with_reducible apply Blk.store4 | (with_reducible apply Blk.farp; (first | omega | (simp <;> omega))) | with_reducible apply Blk.allocp | with_reducible apply Blk.drew | with_reducible apply Blk.drewN))) hB1; have cR1 := hR1.cell; have fR1 := hR1.frozen; have lR1 := hR1.lt; have mR1 := Nat.ne_of_gt lR1; have nR1 := Nat.ne_of_lt lR1)
      have hM2 : Blk (v1.alloc (.cells #[.int .i64 s, .slice none 0 0] 70)) v1.heap.size 70 #[.int .i64 s, .slice none 0 0] := Blk.new _ _ _
      have hA2 : Blk (v1.alloc (.cells #[.int .i64 s, .slice none 0 0] 70)) w.heap.size 70 #[.int .i64 s, (.slice vb L.length vc)] := Blk.allocp hA1
      have hR2 : Blk (v1.alloc (.cells #[.int .i64 s, .slice none 0 0] 70)) (w.heap.size + 1) 70 #[.int .i64 0, .slice none 0 0] := Blk.allocp hR1
      have hb2 : Below w.heap.size w (v1.alloc (.cells #[.int .i64 s, .slice none 0 0] 70)) := (by repeat (first | with_reducible exact Below.refl _ _ | with_reducible assumption | with_reducible apply Below.drew | with_reducible apply below_drewN | (with_reducible apply below_setp; (first | omega | (simp <;> omega))) | (with_reducible apply below_allocp; (first | omega | (simp <;> omega))) | (with_reducible refine below_viap (by assumption) ?_ ?_; (first | omega | (simp <;> omega)))))
      go_loopw [5] (fun vi wr => IvSt s s L (.slice vb L.length vc) v1.heap.size w vi wr) (fun vi _ => (intOf vi + 1).toNat)
      case atStart =>
        refine ⟨L.length, (L.length : Int) - 1, .slice none 0 0, rfl, rfl, Nat.le_refl _, ?_, ?_, ?_, ?_, (by repeat (first | with_reducible exact Below.refl _ _ | with_reducible assumption | with_reducible apply Below.drew | with_reducible apply below_drewN | (with_reducible apply below_setp; (first | omega | (simp <;> omega))) | (with_reducible apply below_allocp; (first | omega | (simp <;> omega))) | (with_reducible refine below_viap (by assumption) ?_ ?_; (first | omega | (simp <;> omega)))))⟩
        · (repeat (first | with_reducible assumption | (with_reducible apply Blk.new_at; (first | rfl | (simp; done))) | with_reducible apply Blk.store3 | with_reducible apply Blk.store4 | (with_reducible apply Blk.farp; (first | omega | (simp <;> omega))) | with_reducible apply Blk.allocp | with_reducible apply Blk.drew | with_reducible apply Blk.drewN))
        · (repeat (first | with_reducible assumption | (with_reducible apply Blk.new_at; (first | rfl | (simp; done))) | with_reducible apply Blk.store3 | with_reducible apply Blk.store4 | (with_reducible apply Blk.farp; (first | omega | (simp <;> omega))) | with_reducible apply Blk.allocp | with_reducible apply Blk.drew | with_reducible apply Blk.drewN))
        · exact Blk.new _ _ _
        · rw [ivL_full]; exact World.ownsRow_nil _ _ _ _
      case round =>
        clear hM2 hA2 hR2 hb2 hA1 cA1 fA1 lA1 mA1 nA1 hR1 cR1 fR1 mR1 nR1 hB1 hIs hal
        obtain ⟨MB, hMB⟩ : ∃ MB, v1.heap.size = MB := ⟨_, rfl⟩
        have hMw : w.heap.size + 1 < MB := by omega
        rw [hMB] at hrel ⊢
        clear hMB lR1
        obtain ⟨j, i, u, rfl, hij, hj, hA, hR, hM, hown, hbel⟩ := hrel
        have hz := hbel.size
        obtain ⟨ub, uc, rfl⟩ := own_shape hown
        have cA := hA.cell; have fA := hA.frozen; have lA := hA.lt; have mA := Nat.ne_of_gt lA; have nA := Nat.ne_of_lt lA
        have cR := hR.cell; have fR := hR.frozen; have lR := hR.lt; have mR := Nat.ne_of_gt lR; have nR := Nat.ne_of_lt lR
        have cM := hM.cell; have fM := hM.frozen; have lM := hM.lt; have mM := Nat.ne_of_gt lM; have nM := Nat.ne_of_lt lM
        have q1 : ¬ w.heap.size = MB := by omega
        have q2 : ¬ MB = w.heap.size := by omega
        have q3 : ¬ w.heap.size + 1 = MB := by omega
        have q4 : ¬ MB = w.heap.size + 1 := by omega
        by_cases h0 : j = 0
        · subst h0
          obtain rfl : i = -1 := by omega
          clear hij
          rw [List.drop_zero] at *
          go_wp2
          exact bodyPost_ret (v := .tuple #[.agg #[.int .i64 s, .slice ub (invL L).length uc], .bool true]) (by simp [results, Try.results46, go_sem, *]) rfl ⟨.slice ub (invL L).length uc, rfl, own_base (show w.heap.size ≤ MB + 1 by omega) (by repeat (first | exact hown | refine own_nqv (fun q hq => by have := own_ge hown q hq; simp; omega) ?_)), (by repeat (first | with_reducible exact Below.refl _ _ | with_reducible assumption | with_reducible apply Below.drew | with_reducible apply below_drewN | (with_reducible apply below_setp; (first | omega | (simp <;> omega))) | (with_reducible apply below_allocp; (first | omega | (simp <;> omega))) | (with_reducible refine below_viap (by assumption) ?_ ?_; (first | omega | (simp <;> omega)))))⟩
        · obtain ⟨k, rfl⟩ : ∃ k, j = k + 1 := ⟨j - 1, by omega⟩
          obtain rfl : i = (k : Int) := by omega
          clear hij
          obtain ⟨g, rfl, lg, d1⟩ := own_elemI (own_call hbel HO.out.2) (k := k) (by omega)
          obtain ⟨e1, e2⟩ := numI_bd HA.out (k := k) (by omega)
          have Hst := Lib.hid (ivL_step (L := L) (k := k) (by omega))
          have hql := ivL_len L (k + 1)
          generalize L[k] = x at *
          generalize invL (L.drop (k + 1)) = Q at *
          have hkl : k < L.length := by omega
          have hwx : IntKind.i64.wrap (-x) = -x := IntWalk.i64_in _ (by omega)
          go_wp2
          go_region_law (first
            | (go_loud (refine step_append_any (wr.alloc (.cells #[.int .i64 (-x)] 3)).drew rfl (.tmp 22) (.tmp 29) 31 rfl (MB + 1) 3 i0 _ 1 8 Try.underlying31 hi0 hz0 hz1 hz2 rfl (by omega) (.slice ub Q.length uc) Q.length (cellsI Q) rfl (own_drew (own_alloc hown)) (wr.heap.size + 1) (some ⟨wr.heap.size, 0, none⟩) 1 1 [.int .i64 (-x)] rfl ⟨rfl, fun _ => ⟨_, rfl, (by simp), cells1 (Blk.drew (Blk.new _ _ _))⟩⟩ (one1 _) (by unfold maxLen; omega) (by omega) (by simp; omega) ?_; intro x2 w2 hown2 hgr2 _; obtain ⟨xb, xc, rfl⟩ := own_shape hown2; have hgs := hgr2.size; (try simp at hgs); have hA2 : Blk w2 (w.heap.size) 70 #[.int .i64 s, .slice (some ⟨g, 0, none⟩) L.length vc] := Blk.grown (by (repeat (first | with_reducible assumption | (with_reducible apply Blk.new_at; (first | rfl | (simp; done))) | with_reducible apply Blk.store3 | with_reducible apply Blk.store4 | (with_reducible apply Blk.farp; (first | omega | (simp <;> omega))) | with_reducible apply Blk.allocp | with_reducible apply Blk.drew | with_reducible apply Blk.drewN))) hgr2 (fun e => by have := own_ge hown _ e.symm; omega); have cA2 := hA2.cell; have fA2 := hA2.frozen; have lA2 := hA2.lt; have hR2 : Blk w2 (w.heap.size + 1) 70 #[.int .i64 0, .slice none 0 0] := Blk.grown (by (repeat (first | with_reducible assumption | (with_reducible apply Blk.new_at; (first | rfl | (simp; done))) | with_reducible apply Blk.store3 | with_reducible apply Blk.store4 | (with_reducible apply Blk.farp; (first | omega | (simp <;> omega))) | with_reducible apply Blk.allocp | with_reducible apply Blk.drew | with_reducible apply Blk.drewN))) hgr2 (fun e => by have := own_ge hown _ e.symm; omega); have cR2 := hR2.cell; have fR2 := hR2.frozen; have lR2 := hR2.lt; have hM2 : Blk w2 MB 70 #[.int .i64 s, .slice ub Q.length uc] := Blk.grown (by (repeat (first | with_reducible assumption | (with_reducible apply Blk.new_at; (first | rfl | (simp; done))) | with_reducible apply Blk.store3 | with_reducible apply Blk.store4 | (with_reducible apply Blk.farp; (first | omega | (simp <;> omega))) | with_reducible apply Blk.allocp | with_reducible apply Blk.drew | with_reducible apply Blk.drewN))) hgr2 (fun e => by have := own_ge hown _ e.symm; omega); have cM2 := hM2.cell; have fM2 := hM2.frozen; have lM2 := hM2.lt)))
          all_goals
            have hbN : Below w.heap.size w w2 := below_grown (fun q hq => by have := own_ge hown q hq; omega) (by simp; omega) hgr2 (by repeat (first | with_reducible exact Below.refl _ _ | with_reducible assumption | with_reducible apply Below.drew | with_reducible apply below_drewN | (with_reducible apply below_setp; (first | omega | (simp <;> omega))) | (with_reducible apply below_allocp; (first | omega | (simp <;> omega))) | (with_reducible refine below_viap (by assumption) ?_ ?_; (first | omega | (simp <;> omega)))))
            have hge2 := own_ge hown2
            go_wp2
            go_roundw
            case measure => simp [intOf] <;> omega
            case rel =>
              have hM3 : Blk (w2.setCell ⟨MB, 1, none⟩ (.slice xb (Q.length + 1) xc)) MB 70 #[.int .i64 s, .slice xb (Q.length + 1) xc] := hM2.set_ 1 _
              refine ⟨k, (k : Int) - 1, .slice xb (Q.length + 1) xc, by first | rfl | go_num, rfl, by omega, ?_, ?_, ?_, ?_, (by repeat (first | with_reducible exact Below.refl _ _ | with_reducible assumption | with_reducible apply Below.drew | with_reducible apply below_drewN | (with_reducible apply below_setp; (first | omega | (simp <;> omega))) | (with_reducible apply below_allocp; (first | omega | (simp <;> omega))) | (with_reducible refine below_viap (by assumption) ?_ ?_; (first | omega | (simp <;> omega)))))⟩
              · (repeat (first | with_reducible assumption | (with_reducible apply Blk.new_at; (first | rfl | (simp; done))) | with_reducible apply Blk.store3 | with_reducible apply Blk.store4 | (with_reducible apply Blk.farp; (first | omega | (simp <;> omega))) | with_reducible apply Blk.allocp | with_reducible apply Blk.drew | with_reducible apply Blk.drewN))
              · (repeat (first | with_reducible assumption | (with_reducible apply Blk.new_at; (first | rfl | (simp; done))) | with_reducible apply Blk.store3 | with_reducible apply Blk.store4 | (with_reducible apply Blk.farp; (first | omega | (simp <;> omega))) | with_reducible apply Blk.allocp | with_reducible apply Blk.drew | with_reducible apply Blk.drewN))
              · (repeat (first | with_reducible assumption | (with_reducible apply Blk.new_at; (first | rfl | (simp; done))) | with_reducible apply Blk.store3 | with_reducible apply Blk.store4 | (with_reducible apply Blk.farp; (first | omega | (simp <;> omega))) | with_reducible apply Blk.allocp | with_reducible apply Blk.drew | with_reducible apply Blk.drewN))
              · exact own_nqv (fun q hq => by have := hge2 q hq; simp; omega) (own_snocI Hst.out hown2)
end Go.Proofs.Ytdaofpjanklmeaa
