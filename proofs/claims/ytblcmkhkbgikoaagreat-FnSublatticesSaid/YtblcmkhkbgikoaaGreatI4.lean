/- Contract: the shortest points, of the program. -/
import Derived.Test.YtblcmkhkbgikoaaGreatI3
import Derived.Test.YtblcmkhkbgikoaaGreatHX
namespace Go.Proofs.YtblcmkhkbgikoaaGreat
open Go.RowKit Go

theorem pts_two {a b c e : Int} (ha : 0 < a) (hb : -a ≤ b ∧ b ≤ a) (hac : a ≤ c) (he : 4 * a * c - b * b = e) : 2 ≤ (ptsK (-e) b c a 1 3).length ∧ (ptsK (-e) b c a 1 3).length ≤ 9 := by
  have hp : (ptsK (-e) b c a 1 3).Perm (shL a b c) := (List.perm_ext_iff_of_nodup (pts_nd (by omega) he) (shL_nd a b c)).2 (pts_mem ha hb hac he)
  rw [hp.length_eq]
  constructor
  · have h1 : ((1 : Int), (0 : Int)) ∈ shL a b c := (shL_mem ha hb hac _).2 (by simp)
    have h2 : ((-1 : Int), (0 : Int)) ∈ shL a b c := (shL_mem ha hb hac _).2 (by simp)
    match hl : shL a b c with
    | [] => rw [hl] at h1; cases h1
    | [x] =>
      rw [hl] at h1 h2
      rw [List.mem_singleton] at h1 h2
      rw [← h2] at h1
      cases h1
    | _ :: _ :: _ => simp
  · rw [show shL a b c = bxL ⟨a, b, c⟩ 9 from rfl]
    exact bxL_len _ _
/-- The points of the program, in order, are those of the reference. -/
theorem box_of_perm {r : Fm} {m : M4} {A B D e : Int} {K : List (Int × Int)} (ha : 0 < r.a) (hb : -r.a ≤ r.b ∧ r.b ≤ r.a) (hac : r.a ≤ r.c) (he : 4 * r.a * r.c - r.b * r.b = e)
    (hp : K.Perm ((ptsK (-e) r.b r.c r.a 1 3).map (laPt m A B D))) (hs : SrtN K K.length) : BxS r m A B D 9 K := by
  refine ⟨srtN_all hs, fun q => ?_⟩
  rw [hp.mem_iff, List.mem_map, bxL_all]
  constructor
  · rintro ⟨p, h1, h2⟩
    exact ⟨p, (pts_mem ha hb hac he p).1 h1, h2.symm⟩
  · rintro ⟨p, h1, h2⟩
    exact ⟨p, (pts_mem ha hb hac he p).2 h1, h2.symm⟩
theorem map_nd {r : Fm} {m : M4} {A B D e : Int} (hc : 0 < r.c) (he : 4 * r.a * r.c - r.b * r.b = e) (hm : m.p * m.s - m.q * m.r = 1) (hA : A ≠ 0) (hD : D ≠ 0) : ((ptsK (-e) r.b r.c r.a 1 3).map (laPt m A B D)).Nodup :=
  List.Pairwise.map _ (fun _ _ hne he2 => hne (laPt_inj hm hA hD he2)) (pts_nd hc he)
theorem own_someI {w : World} {B n sz : Nat} {e : TypeId} {v : Value} {xs : List Value} (h : w.ownsRow B e sz v n xs) (hn : 2 ≤ n) : ∃ g cap, v = .slice (some ⟨g, 0, none⟩) n cap ∧ B ≤ g ∧ g < w.heap.size := by
  rcases h.2 with ⟨_, h0⟩ | ⟨g, cap, cur, rfl, hb, hg, _⟩
  · omega
  · exact ⟨g, cap, rfl, hb, (Array.getElem?_eq_some_iff.1 hg).1⟩
theorem own_emptyI {w : World} {B g : Nat} {e : TypeId} {sz : Nat} (hg : g = w.heap.size) (hB : B ≤ w.heap.size) : (w.alloc (.cells #[] e)).ownsRow B e sz (.slice (some ⟨g, 0, none⟩) 0 0) 0 [] := by
  subst hg; exact own_empty hB
theorem pts_box {a b c e : Int} (ha : 0 < a) (hb : -a ≤ b ∧ b ≤ a) (hac : a ≤ c) (he : 4 * a * c - b * b = e) : ∀ p ∈ ptsK (-e) b c a 1 3, (-1 ≤ p.1 ∧ p.1 ≤ 1) ∧ (-1 ≤ p.2 ∧ p.2 ≤ 1) := fun p hp => least_box ha hb hac ((shL_mem ha hb hac p).1 ((pts_mem ha hb hac he p).1 hp))
theorem map_snocL {L : List (Int × Int)} {k : Nat} (h : k < L.length) (f : Int × Int → Int × Int) : (L.take (k + 1)).map f = (L.take k).map f ++ [f L[k]] := by
  rw [List.take_succ_eq_append_getElem h, List.map_append]; rfl
/-- The state of the loop over the points. -/
def ShSt (m : M4) (A B D : Int) (P : List (Int × Int)) (vp : Value) (w4 : World) (v11 v34 : Value) (wr : World) : Prop :=
  ∃ k : Nat, v34 = .int .i64 k ∧ k ≤ P.length ∧ wr.ownsRow w4.heap.size 51 2 v11 ((P.take k).map (laPt m A B D)).length (cellsP ((P.take k).map (laPt m A B D))) ∧ wr.ownsRow w4.heap.size 51 2 vp P.length (cellsP P) ∧ Apart v11 vp ∧ Below w4.heap.size w4 wr
set_option maxRecDepth 100000 in
set_option maxHeartbeats 6400000 in
theorem implSP_no (f : Fm) (A B D : Int) (w : World) (h : laA f A B D = false) : Calls Tryz.prog 11 #[.agg #[.int .i64 f.a, .int .i64 f.b, .int .i64 f.c], .agg #[.int .i64 A, .int .i64 B, .int .i64 D]] w fun e w' => ∃ v, e = .returned (.tuple #[.int .i64 0, v, .bool false]) ∧ w'.ownsRow w.heap.size 51 2 v 0 [] ∧ Below w.heap.size w w' := by
  have hF := Lib.hid (fun w => implFL_any f A B D w)
  rw [h] at hF
  rw [if_neg (by decide)] at hF
  clear h
  go_enter Tryz.func11, Tryz.ntmps11
  go_wp2_with (go_at_call 14; (with_reducible refine (hF.out _).mono ?_); rintro e v1 ⟨rfl, hB1⟩; have hZ1 := hB1.size; (try simp at hZ1); (try have zl1 : w.heap.size < v1.heap.size := by omega); (try have ze1 : w.heap.size ≤ v1.heap.size := by omega); (try have zn1 : ¬ w.heap.size = v1.heap.size := by omega); (try have zm1 : ¬ v1.heap.size = w.heap.size := by omega); have hX1 : Blk v1 (w.heap.size) 36 #[.int .i64 f.a, .int .i64 f.b, .int .i64 f.c] := Blk.call (by (repeat (first | with_reducible assumption | (with_reducible apply Blk.new_at; (first | rfl | (simp; done))) | with_reducible apply Blk.store3 | with_reducible apply Blk.store4 | (with_reducible apply Blk.farp; (first | omega | (simp <;> omega))) | with_reducible apply Blk.allocp | with_reducible apply Blk.drew | with_reducible apply Blk.drewN))) hB1; have cX1 := hX1.cell; have fX1 := hX1.frozen; have lX1 := hX1.lt; have mX1 := Nat.ne_of_gt lX1; have nX1 := Nat.ne_of_lt lX1; have hL1 : Blk v1 (w.heap.size + 1) 32 #[.int .i64 A, .int .i64 B, .int .i64 D] := Blk.call (by (repeat (first | with_reducible assumption | (with_reducible apply Blk.new_at; (first | rfl | (simp; done))) | with_reducible apply Blk.store3 | with_reducible apply Blk.store4 | (with_reducible apply Blk.farp; (first | omega | (simp <;> omega))) | with_reducible apply Blk.allocp | with_reducible apply Blk.drew | with_reducible apply Blk.drewN))) hB1; have cL1 := hL1.cell; have fL1 := hL1.frozen; have lL1 := hL1.lt; have mL1 := Nat.ne_of_gt lL1; have nL1 := Nat.ne_of_lt lL1)
  go_ret3
  exact ⟨_, rfl, own_emptyI (by simp) (by simp; omega), (by repeat (first | with_reducible exact Below.refl _ _ | with_reducible assumption | with_reducible apply Below.drew | with_reducible apply below_drewN | (with_reducible apply below_setp; (first | omega | (simp <;> omega))) | (with_reducible apply below_allocp; (first | omega | (simp <;> omega))) | (with_reducible refine below_viap (by assumption) ?_ ?_; (first | omega | (simp <;> omega)))))⟩
set_option maxRecDepth 100000 in
set_option maxHeartbeats 12800000 in
theorem implSP_yes (f : Fm) (A B D : Int) (r : Fm) (m : M4) (w : World) (h : laA f A B D = true) (S : SpV f A B D r m) : Calls Tryz.prog 11 #[.agg #[.int .i64 f.a, .int .i64 f.b, .int .i64 f.c], .agg #[.int .i64 A, .int .i64 B, .int .i64 D]] w (RetSp r m A B D w) := by
  obtain ⟨i0, hi, hz0, hz1, hz2⟩ := info_parts infoPt
  have hF := Lib.hid (fun w => implFL_any f A B D w)
  rw [h] at hF
  rw [if_pos rfl] at hF
  obtain ⟨hD, hV, hf⟩ := laDef h
  have hR := Lib.hid (fun w => reduce_m (laF f A B D) w hD)
  rw [← S.hr, ← S.hm] at hR
  unfold RetRM at hR
  have HS := Lib.hid S
  have HV := Lib.hid hV
  obtain ⟨e, he⟩ : ∃ e, 4 * r.a * r.c - r.b * r.b = e := ⟨_, rfl⟩
  have hP := Lib.hid (fun i j w hi hj => point_any A B D i j w hV hi hj)
  have hQ := Lib.hid (fun w => points2_any r.a r.b r.c e r.a w rfl S.ra S.rb S.rc he)
  unfold RetP at hQ
  have a0 : 0 < r.a := by have := S.ra; omega
  have hlen := Lib.hid (pts_two a0 S.rb S.rc.1 he)
  have hbox := Lib.hid (pts_box a0 S.rb S.rc.1 he)
  have hnd := Lib.hid (map_nd (A := A) (B := B) (D := D) (r := r) (by have := S.rc; omega) he S.det (by have := hV.a1; omega) (by have := hV.d1; omega))
  have hfin := Lib.hid (fun K => box_of_perm (A := A) (B := B) (D := D) (m := m) (K := K) a0 S.rb S.rc.1 he)
  generalize ptsK (-e) r.b r.c r.a 1 3 = P at *
  clear h hD hV hf S he a0
  generalize laF f A B D = g at *
  go_enter Tryz.func11, Tryz.ntmps11
  go_wp2_with (first | (go_at_call 14; (with_reducible refine (hF.out _).mono ?_); rintro e v1 ⟨rfl, hB1⟩; have hZ1 := hB1.size; (try simp at hZ1); (try have zl1 : w.heap.size < v1.heap.size := by omega); (try have ze1 : w.heap.size ≤ v1.heap.size := by omega); (try have zn1 : ¬ w.heap.size = v1.heap.size := by omega); (try have zm1 : ¬ v1.heap.size = w.heap.size := by omega); have hX1 : Blk v1 (w.heap.size) 36 #[.int .i64 f.a, .int .i64 f.b, .int .i64 f.c] := Blk.call (by (repeat (first | with_reducible assumption | (with_reducible apply Blk.new_at; (first | rfl | (simp; done))) | with_reducible apply Blk.store3 | with_reducible apply Blk.store4 | (with_reducible apply Blk.farp; (first | omega | (simp <;> omega))) | with_reducible apply Blk.allocp | with_reducible apply Blk.drew | with_reducible apply Blk.drewN))) hB1; have cX1 := hX1.cell; have fX1 := hX1.frozen; have lX1 := hX1.lt; have mX1 := Nat.ne_of_gt lX1; have nX1 := Nat.ne_of_lt lX1; have hL1 : Blk v1 (w.heap.size + 1) 32 #[.int .i64 A, .int .i64 B, .int .i64 D] := Blk.call (by (repeat (first | with_reducible assumption | (with_reducible apply Blk.new_at; (first | rfl | (simp; done))) | with_reducible apply Blk.store3 | with_reducible apply Blk.store4 | (with_reducible apply Blk.farp; (first | omega | (simp <;> omega))) | with_reducible apply Blk.allocp | with_reducible apply Blk.drew | with_reducible apply Blk.drewN))) hB1; have cL1 := hL1.cell; have fL1 := hL1.frozen; have lL1 := hL1.lt; have mL1 := Nat.ne_of_gt lL1; have nL1 := Nat.ne_of_lt lL1) | (go_at_call 28; (with_reducible refine (hR.out _).mono ?_); rintro e v2 ⟨rfl, hB2⟩; have hZ2 := hB2.size; (try simp at hZ2); (try have zl2 : w.heap.size < v2.heap.size := by omega); (try have ze2 : w.heap.size ≤ v2.heap.size := by omega); (try have zn2 : ¬ w.heap.size = v2.heap.size := by omega); (try have zm2 : ¬ v2.heap.size = w.heap.size := by omega); have hL2 : Blk v2 (w.heap.size + 1) 32 #[.int .i64 A, .int .i64 B, .int .i64 D] := Blk.call (by (repeat (first | with_reducible assumption | (with_reducible apply Blk.new_at; (first | rfl | (simp; done))) | with_reducible apply Blk.store3 | with_reducible apply Blk.store4 | (with_reducible apply Blk.farp; (first | omega | (simp <;> omega))) | with_reducible apply Blk.allocp | with_reducible apply Blk.drew | with_reducible apply Blk.drewN))) hB2; have cL2 := hL2.cell; have fL2 := hL2.frozen; have lL2 := hL2.lt; have mL2 := Nat.ne_of_gt lL2; have nL2 := Nat.ne_of_lt lL2) | fail)
  have hL4 : Blk ((v2.alloc (.cells #[.int .i64 r.a, .int .i64 r.b, .int .i64 r.c] 36)).alloc (.cells #[.int .i64 m.p, .int .i64 m.q, .int .i64 m.r, .int .i64 m.s] 46)) (w.heap.size + 1) 32 #[.int .i64 A, .int .i64 B, .int .i64 D] := by (repeat (first | with_reducible assumption | (with_reducible apply Blk.new_at; (first | rfl | (simp; done))) | with_reducible apply Blk.store3 | with_reducible apply Blk.store4 | (with_reducible apply Blk.farp; (first | omega | (simp <;> omega))) | with_reducible apply Blk.allocp | with_reducible apply Blk.drew | with_reducible apply Blk.drewN))
  have hR4 : Blk ((v2.alloc (.cells #[.int .i64 r.a, .int .i64 r.b, .int .i64 r.c] 36)).alloc (.cells #[.int .i64 m.p, .int .i64 m.q, .int .i64 m.r, .int .i64 m.s] 46)) v2.heap.size 36 #[.int .i64 r.a, .int .i64 r.b, .int .i64 r.c] := (Blk.new_at rfl).alloc _
  have hM4 : Blk ((v2.alloc (.cells #[.int .i64 r.a, .int .i64 r.b, .int .i64 r.c] 36)).alloc (.cells #[.int .i64 m.p, .int .i64 m.q, .int .i64 m.r, .int .i64 m.s] 46)) (v2.heap.size + 1) 46 #[.int .i64 m.p, .int .i64 m.q, .int .i64 m.r, .int .i64 m.s] := Blk.new_at (by simp)
  have hb4 : Below w.heap.size w ((v2.alloc (.cells #[.int .i64 r.a, .int .i64 r.b, .int .i64 r.c] 36)).alloc (.cells #[.int .i64 m.p, .int .i64 m.q, .int .i64 m.r, .int .i64 m.s] 46)) := (by repeat (first | with_reducible exact Below.refl _ _ | with_reducible assumption | with_reducible apply Below.drew | with_reducible apply below_drewN | (with_reducible apply below_setp; (first | omega | (simp <;> omega))) | (with_reducible apply below_allocp; (first | omega | (simp <;> omega))) | (with_reducible refine below_viap (by assumption) ?_ ?_; (first | omega | (simp <;> omega)))))
  have hz4 : ((v2.alloc (.cells #[.int .i64 r.a, .int .i64 r.b, .int .i64 r.c] 36)).alloc (.cells #[.int .i64 m.p, .int .i64 m.q, .int .i64 m.r, .int .i64 m.s] 46)).heap.size = v2.heap.size + 1 + 1 := by simp
  generalize ((v2.alloc (.cells #[.int .i64 r.a, .int .i64 r.b, .int .i64 r.c] 36)).alloc (.cells #[.int .i64 m.p, .int .i64 m.q, .int .i64 m.r, .int .i64 m.s] 46)) = v4 at *
  have zw4 := hb4.size
  clear hL2 cL2 fL2 lL2 mL2 nL2 hL1 cL1 fL1 lL1 mL1 nL1 hX1 cX1 fX1 lX1 mX1 nX1 hB1 hB2 hF hR
  refine (hQ.out _).mono ?_
  rintro ee v5 ⟨vp, rfl, hop, hB5⟩
  obtain ⟨bp, cp, rfl⟩ := own_shape hop
  have hz5 := hB5.size
  simp at hz5
  have hb5 : Below v4.heap.size v4 v5 := (by repeat (first | with_reducible exact Below.refl _ _ | with_reducible assumption | with_reducible apply Below.drew | with_reducible apply below_drewN | (with_reducible apply below_setp; (first | omega | (simp <;> omega))) | (with_reducible apply below_allocp; (first | omega | (simp <;> omega))) | (with_reducible refine below_viap (by assumption) ?_ ?_; (first | omega | (simp <;> omega)))))
  have hoe : v5.ownsRow v4.heap.size 51 2 (.slice (some ⟨v2.heap.size + 1 + 1, 0, none⟩) 0 0) 0 [] := own_call hB5 (own_emptyI hz4.symm (Nat.le_refl _))
  have hap : Apart (.slice (some ⟨v2.heap.size + 1 + 1, 0, none⟩) 0 0) (.slice bp P.length cp) := by
    right
    intro he
    have := own_ge hop _ he
    simp at this
    omega
  have hop5 : v5.ownsRow v4.heap.size 51 2 (.slice bp P.length cp) P.length (cellsP P) := own_base (by simp) hop
  clear hop hB5 hQ
  go_wp2
  go_loopw [11, 34] (fun v11 v34 wr => ShSt m A B D P (.slice bp P.length cp) v4 v11 v34 wr) (fun _ v34 _ => P.length - (intOf v34).toNat)
  case atStart => exact ⟨0, rfl, Nat.zero_le _, hoe, hop5, hap, hb5⟩
  case round =>
    clear hoe hop5 hap hb5 hz5
    obtain ⟨k, rfl, hk, hown, hop, hap, hbel⟩ := hrel
    have hz := hbel.size
    have hLr := hL4.below hbel (by omega); have hMr := hM4.below hbel (by omega); have hRr := hR4.below hbel (by omega)
    have cL := hLr.cell; have fL := hLr.frozen; have lL := hLr.lt; have cM := hMr.cell; have fM := hMr.frozen; have lM := hMr.lt
    by_cases hlt : k < P.length
    · obtain ⟨gp, egp, lg, c1, c2⟩ := own_elemP hop hlt
      subst egp
      obtain ⟨⟨x1, x2⟩, ⟨y1, y2⟩⟩ := hbox.out _ (List.getElem_mem hlt)
      have Hft := Lib.hid (map_snocL hlt (laPt m A B D))
      have hql : Hid (((P.take k).map (laPt m A B D)).length ≤ 9) := Lib.hid (by rw [List.length_map, List.length_take]; have := hlen.out; omega)
      generalize P[k] = p at *
      generalize (P.take k).map (laPt m A B D) = N at *
      obtain ⟨x, y⟩ := p
      dsimp only at *
      obtain ⟨⟨mb1, mb2⟩, ⟨mb3, mb4⟩, ⟨mb5, mb6⟩, ⟨mb7, mb8⟩⟩ := HS.out.mb
      have p1 := mul_bd (a := m.p) (x := x) (A := 1200) (X := 1) (by omega) (by omega) (by omega) (by omega)
      have p2 := mul_bd (a := m.q) (x := y) (A := 1200) (X := 1) (by omega) (by omega) (by omega) (by omega)
      have p3 := mul_bd (a := m.r) (x := x) (A := 1200) (X := 1) (by omega) (by omega) (by omega) (by omega)
      have p4 := mul_bd (a := m.s) (x := y) (A := 1200) (X := 1) (by omega) (by omega) (by omega) (by omega)
      have K1 := Lib.hid (show wrap64 (m.p * x) = m.p * x from IntWalk.wrap64_in _ (by omega))
      have K2 := Lib.hid (show wrap64 (m.q * y) = m.q * y from IntWalk.wrap64_in _ (by omega))
      have K3 := Lib.hid (show wrap64 (m.r * x) = m.r * x from IntWalk.wrap64_in _ (by omega))
      have K4 := Lib.hid (show wrap64 (m.s * y) = m.s * y from IntWalk.wrap64_in _ (by omega))
      have K5 := Lib.hid (show wrap64 (m.p * x + m.q * y) = m.p * x + m.q * y from IntWalk.wrap64_in _ (by omega))
      have K6 := Lib.hid (show wrap64 (m.r * x + m.s * y) = m.r * x + m.s * y from IntWalk.wrap64_in _ (by omega))
      have hPt := Lib.hid (fun w => hP.out (m.p * x + m.q * y) (m.r * x + m.s * y) w (by omega) (by omega))
      have hlp : laPt m A B D (x, y) = ((m.p * x + m.q * y) * A + (m.r * x + m.s * y) * B, (m.r * x + m.s * y) * D) := rfl
      rw [hlp] at Hft
      generalize (m.p * x + m.q * y) * A + (m.r * x + m.s * y) * B = X1 at *
      generalize (m.r * x + m.s * y) * D = Y1 at *
      clear x1 x2 y1 y2 mb1 mb2 mb3 mb4 mb5 mb6 mb7 mb8 p1 p2 p3 p4 hlp hLr hRr
      have ng : ¬ gp = wr.heap.size := by omega
      have nL : ¬ wr.heap.size = w.heap.size + 1 := by omega
      have nM : ¬ wr.heap.size = v2.heap.size + 1 := by omega
      have k1 := K1.out; have k2 := K2.out; have k3 := K3.out; have k4 := K4.out; have k5 := K5.out; have k6 := K6.out
      go_wp2_with fail
      clear k1 k2 k3 k4 k5 k6
      refine (hPt.out _).mono ?_
      rintro ee v6 ⟨rfl, hB6⟩
      have hz6 := hB6.size
      simp at hz6
      have hkb : k ≤ 9 := by have := hlen.out; omega
      have ho6 := own_call hB6 (own_alloc (o := .cells #[.int .i64 x, .int .i64 y] 51) hown)
      have hp6 := own_call hB6 (own_alloc (o := .cells #[.int .i64 x, .int .i64 y] 51) hop)
      have hb6 : Below v4.heap.size v4 v6 := (by repeat (first | with_reducible exact Below.refl _ _ | with_reducible assumption | with_reducible apply Below.drew | with_reducible apply below_drewN | (with_reducible apply below_setp; (first | omega | (simp <;> omega))) | (with_reducible apply below_allocp; (first | omega | (simp <;> omega))) | (with_reducible refine below_viap (by assumption) ?_ ?_; (first | omega | (simp <;> omega)))))
      have hql2 := hql.out
      clear hB6 hbel hown hop cL fL lL cM fM lM nL nM ng lg c1 c2 hMr
      go_wp2_with (at_builtin; refine wpList_append_own_at _ rfl (.tmp 38) (.tmp 63) 39 rfl v4.heap.size 51 i0 _ 2 16 Tryz.underlying39 hi hz0 hz1 hz2 rfl (by decide) u11 N.length (cellsP N) rfl ?_ ⟨v6.heap.size, 0, none⟩ 1 1 [.int .i64 X1, .int .i64 Y1] rfl rfl ?_ (one2 _ _) ?_ ?_ ?_ ?_; exact own_alloc ho6; exact cells2 (Blk.new_at (by simp)); (unfold maxLen; omega); omega; (simp; omega); intro x9 w9 hown9 hg9 _ hloc9)
      have hb9 : Below v4.heap.size v4 w9 := below_grown (own_ge ho6) (by simp; omega) hg9 (by repeat (first | with_reducible exact Below.refl _ _ | with_reducible assumption | with_reducible apply Below.drew | with_reducible apply below_drewN | (with_reducible apply below_setp; (first | omega | (simp <;> omega))) | (with_reducible apply below_allocp; (first | omega | (simp <;> omega))) | (with_reducible refine below_viap (by assumption) ?_ ?_; (first | omega | (simp <;> omega)))))
      have ho9 := own_snocP (p := (X1, Y1)) Hft.out hown9
      have hp7 := own_alloc (o := .cells #[.int .i64 X1, .int .i64 Y1] 51) hp6
      have hp9 := hp7.kept hg9 hap
      have ap9 := apart_next hap hp7 (Nat.le_refl _) hloc9
      clear hg9 hown9 ho6 hp6 hp7 hloc9 hql2 hap
      go_wp2
      go_roundw
      case rel => exact ⟨k + 1, by go_num, hlt, ho9, hp9, ap9, hb9⟩
      case measure => (first | (simp [intOf]; done) | (simp [intOf]; omega))
    · have ek : k = P.length := by omega
      rw [ek, List.take_length] at hown
      subst ek
      have hl2 := hlen.out
      rw [List.length_map] at hown
      obtain ⟨gl, cl, rfl, hbg, hlg⟩ := own_someI hown hl2.1
      have hS := Lib.hid (sortPoints_any (P.map (laPt m A B D)) P.length gl cl v4.heap.size v4.heap.size wr (List.length_map _) hl2.1 hl2.2 hnd.out hown hlg hbg)
      clear hown hl2 hap
      go_wp2_with fail
      refine hS.out.mono ?_
      rintro ee v7 ⟨rfl, K, hK1, hK2, hK3, hB7⟩
      have hKl : K.length = P.length := by rw [hK1.length_eq, List.length_map]
      have hF := hfin.out K hK1 (by rw [hKl]; exact hK2)
      have hb7 : Below v4.heap.size v4 v7 := hbel.trans hB7
      have hR7 := hR4.below hb7 (by omega)
      have cR := hR7.cell; have fR := hR7.frozen; have lR := hR7.lt
      have hb8 := Lib.hid (below_via hb4 hb7 zw4)
      rw [← hKl] at hK3
      have HF := Lib.hid (show BxS r m A B D 9 K ∧ v7.ownsRow w.heap.size 51 2 (.slice (some ⟨gl, 0, none⟩) P.length cl) K.length (cellsP K) from ⟨hF, hKl ▸ own_base zw4 hK3⟩)
      clear hF hK3 hK1 hK2 hb7 hR7 hB7 hbel hop hS hfin hnd hbox hlen hKl
      go_wp2
      go_ret3
      exact ⟨K, _, rfl, HF.out.1, HF.out.2, hb8.out⟩
end Go.Proofs.YtblcmkhkbgikoaaGreat
