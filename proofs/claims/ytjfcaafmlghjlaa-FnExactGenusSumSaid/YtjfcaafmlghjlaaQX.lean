/- Parts Q1 Q2 Q3 Q4 laid together by tp.py. -/
import Derived.Test.YtjfcaafmlghjlaaN12
import Derived.Test.YtjfcaafmlghjlaaGG
import Derived.Test.YtjfcaafmlghjlaaK7
namespace Go.Proofs.Ytjfcaafmlghjlaa
section
open Go.RowKit

open Classical in
/-- The genus values of the reduced form f. -/
noncomputable def gnL (d : Int) (f : Fm) : List Int := if h : ∃ x y v, GP d f x y v then vals (-d) (h.choose_spec.choose_spec.choose) else []
theorem gn_ex {d : Int} {f : Fm} (D : Dsc d) (hf : f ∈ clsL d) : ∃ x y v, GP d f x y v ∧ vals (-d) v = gnL d f := by
  have h : ∃ x y v, GP d f x y v := GP.ex D hf
  refine ⟨_, _, _, h.choose_spec.choose_spec.choose_spec, ?_⟩
  unfold gnL
  rw [dif_pos h]
theorem gn_len {d : Int} {f : Fm} (D : Dsc d) (hf : f ∈ clsL d) : (gnL d f).length ≤ 10000000 := by
  obtain ⟨x, y, v, h, he⟩ := gn_ex D hf
  have := D.lo
  rw [← he]
  exact Nat.le_trans (vals_len _ _ (by omega)) (by decide)
theorem genusValues_gn (d : Int) (f0 f : Fm) (w : World) (cf : CF d f0 f) :
    Calls Try.prog 298 #[.agg #[.int .i64 f0.a, .int .i64 f0.b, .int .i64 f0.c]] w (RetI (gnL d f) w) := by
  obtain ⟨x, y, v, h, he⟩ := gn_ex cf.D cf.mem
  rw [← he]
  exact genusValues_any d f0 f x y v w cf h
theorem chOf_gn (d : Int) (f0 f : Fm) (w : World) (cf : CF d f0 f) :
    Calls Try.prog 199 #[.agg #[.int .i64 f0.a, .int .i64 f0.b, .int .i64 f0.c]] w (RetI (gnL d f) w) := by
  obtain ⟨x, y, v, h, he⟩ := gn_ex cf.D cf.mem
  rw [← he]
  exact chOf_any d f0 f x y v w cf h

theorem same_yes {X Y : List Int} (hl : X.length = Y.length) (h : ∀ j (h1 : j < X.length) (h2 : j < Y.length), X[j] = Y[j]) : decide (X = Y) = true :=
  decide_eq_true (List.ext_getElem hl h)
theorem same_no {X Y : List Int} {k : Nat} (h1 : k < X.length) (h2 : k < Y.length) (h : X[k] ≠ Y[k]) : decide (X = Y) = false :=
  decide_eq_false (fun e => h (by subst e; rfl))
theorem same_len {X Y : List Int} (h : ¬ X.length = Y.length) : decide (X = Y) = false := decide_eq_false (fun e => h (by rw [e]))
def SamSt (X Y : List Int) (n : Nat) (w : World) (vi : Value) (wr : World) : Prop :=
  ∃ k : Nat, vi = .int .i64 k ∧ k ≤ n ∧ Hid (∀ j (h1 : j < X.length) (h2 : j < Y.length), j < k → X[j] = Y[j]) ∧ Below w.heap.size w wr

set_option maxRecDepth 100000 in
set_option maxHeartbeats 1600000 in
theorem sameValues_any (v u : Value) (B B2 : Nat) (X Y : List Int) (w : World) (hl1 : X.length ≤ 10000000) (_hl2 : Y.length ≤ 10000000) (h1 : w.ownsRow B 3 1 v X.length (cellsI X)) (h2 : w.ownsRow B2 3 1 u Y.length (cellsI Y)) :
    Calls Try.prog 327 #[v, u] w fun e w' => e = .returned (.bool (decide (X = Y))) ∧ Below w.heap.size w w' := by
  obtain ⟨b1, c1, rfl⟩ := own_shape h1
  obtain ⟨b2, c2, rfl⟩ := own_shape h2
  by_cases he : X.length = Y.length
  · obtain ⟨n, hX⟩ : ∃ n, X.length = n := ⟨_, rfl⟩
    have hY : Y.length = n := by rw [← he]; exact hX
    rw [hX] at h1 hl1 ⊢
    rw [hY] at h2 ⊢
    have H1 := Lib.hid h1
    have H2 := Lib.hid h2
    have HX := Lib.hid hX
    have HY := Lib.hid hY
    clear h1 h2 he hX hY
    go_enter Try.func327, Try.ntmps327
    go_wp2
    go_loopw [14] (fun i wr => SamSt X Y n w i wr) (fun i _ => n - (intOf i).toNat)
    case atStart => exact ⟨0, rfl, Nat.zero_le _, Lib.hid (fun j _ _ hj => absurd hj (Nat.not_lt_zero _)), (by repeat (first | with_reducible exact Below.refl _ _ | with_reducible assumption | with_reducible apply Below.drew | with_reducible apply below_drewN | (with_reducible apply below_setp; (first | omega | (simp <;> omega))) | (with_reducible apply below_allocp; (first | omega | (simp <;> omega))) | (with_reducible refine below_viap (by assumption) ?_ ?_; (first | omega | (simp <;> omega)))))⟩
    case round =>
      obtain ⟨k, rfl, hk, hno, hbel⟩ := hrel
      by_cases hlt : k < n
      · have hlt1 : k < X.length := by rw [HX.out]; exact hlt
        have hlt2 : k < Y.length := by rw [HY.out]; exact hlt
        obtain ⟨g1, rfl, e1, d1⟩ := own_elemI (n := n) (by rw [HX.out]; exact H1.out) hlt1
        obtain ⟨g2, rfl, e2, d2⟩ := own_elemI (n := n) (by rw [HY.out]; exact H2.out) hlt2
        have d4 := (hbel.cell (p := ⟨g1, k, none⟩) e1).trans d1
        have e4 := (hbel.cell (p := ⟨g2, k, none⟩) e2).trans d2
        have hfal := Lib.hid (fun (e : X[k] ≠ Y[k]) => same_no hlt1 hlt2 e)
        have hnx := Lib.hid (fun (e : X[k] = Y[k]) => (show ∀ j (h1 : j < X.length) (h2 : j < Y.length), j < k + 1 → X[j] = Y[j] from fun j h1 h2 hj => if he : j = k then (by subst he; exact e) else hno.out j h1 h2 (by omega)))
        clear d1 d2
        generalize X[k] = r at d4 hfal hnx
        generalize Y[k] = s at e4 hfal hnx
        clear hlt1 hlt2
        have hz := hbel.size
        have hg3 : g1 < wr.heap.size := by omega
        have hg4 : g2 < wr.heap.size := by omega
        by_cases hrs : r = s
        · have Hn := Lib.hid (hnx.out hrs)
          subst hrs
          clear hfal hnx
          go_wp2
          go_roundw
          case rel => exact ⟨k + 1, rfl, hlt, Hn, (by repeat (first | with_reducible exact Below.refl _ _ | with_reducible assumption | with_reducible apply Below.drew | with_reducible apply below_drewN | (with_reducible apply below_setp; (first | omega | (simp <;> omega))) | (with_reducible apply below_allocp; (first | omega | (simp <;> omega))) | (with_reducible refine below_viap (by assumption) ?_ ?_; (first | omega | (simp <;> omega)))))⟩
          case measure => simp [intOf]; omega
        · have Hf := Lib.hid (hfal.out hrs)
          have hbe : (r == s) = false := by rw [beq_eq_false_iff_ne]; exact hrs
          clear hfal hnx
          go_wp2
          go_ret
          exact ⟨ret_bool Hf.out.symm, hbel⟩
      · have Hy := Lib.hid (same_yes (HX.out.trans HY.out.symm) (fun j h1 h2 => hno.out j h1 h2 (by have := HX.out; omega)))
        go_wp2
        go_ret
        exact ⟨ret_bool Hy.out.symm, hbel⟩
  · have Hf := Lib.hid (same_len he)
    have hle : ((X.length : Int) == (Y.length : Int)) = false := by rw [beq_eq_false_iff_ne]; omega
    clear h1 h2
    go_enter Try.func327, Try.ntmps327
    go_wp2
    go_ret
    exact ⟨ret_bool Hf.out.symm, (by repeat (first | with_reducible exact Below.refl _ _ | with_reducible assumption | with_reducible apply Below.drew | with_reducible apply below_drewN | (with_reducible apply below_setp; (first | omega | (simp <;> omega))) | (with_reducible apply below_allocp; (first | omega | (simp <;> omega))) | (with_reducible refine below_viap (by assumption) ?_ ?_; (first | omega | (simp <;> omega)))))⟩
set_option maxRecDepth 100000 in
set_option maxHeartbeats 1600000 in
theorem l1Same_any (v u : Value) (B B2 : Nat) (X Y : List Int) (w : World) (hl1 : X.length ≤ 10000000) (_hl2 : Y.length ≤ 10000000) (h1 : w.ownsRow B 3 1 v X.length (cellsI X)) (h2 : w.ownsRow B2 3 1 u Y.length (cellsI Y)) :
    Calls Try.prog 294 #[v, u] w fun e w' => e = .returned (.bool (decide (X = Y))) ∧ Below w.heap.size w w' := by
  obtain ⟨b1, c1, rfl⟩ := own_shape h1
  obtain ⟨b2, c2, rfl⟩ := own_shape h2
  by_cases he : X.length = Y.length
  · obtain ⟨n, hX⟩ : ∃ n, X.length = n := ⟨_, rfl⟩
    have hY : Y.length = n := by rw [← he]; exact hX
    rw [hX] at h1 hl1 ⊢
    rw [hY] at h2 ⊢
    have H1 := Lib.hid h1
    have H2 := Lib.hid h2
    have HX := Lib.hid hX
    have HY := Lib.hid hY
    clear h1 h2 he hX hY
    go_enter Try.func294, Try.ntmps294
    go_wp2
    go_loopw [13] (fun i wr => SamSt X Y n w i wr) (fun i _ => n - (intOf i).toNat)
    case atStart => exact ⟨0, rfl, Nat.zero_le _, Lib.hid (fun j _ _ hj => absurd hj (Nat.not_lt_zero _)), (by repeat (first | with_reducible exact Below.refl _ _ | with_reducible assumption | with_reducible apply Below.drew | with_reducible apply below_drewN | (with_reducible apply below_setp; (first | omega | (simp <;> omega))) | (with_reducible apply below_allocp; (first | omega | (simp <;> omega))) | (with_reducible refine below_viap (by assumption) ?_ ?_; (first | omega | (simp <;> omega)))))⟩
    case round =>
      obtain ⟨k, rfl, hk, hno, hbel⟩ := hrel
      by_cases hlt : k < n
      · have hlt1 : k < X.length := by rw [HX.out]; exact hlt
        have hlt2 : k < Y.length := by rw [HY.out]; exact hlt
        obtain ⟨g1, rfl, e1, d1⟩ := own_elemI (n := n) (by rw [HX.out]; exact H1.out) hlt1
        obtain ⟨g2, rfl, e2, d2⟩ := own_elemI (n := n) (by rw [HY.out]; exact H2.out) hlt2
        have d4 := (hbel.cell (p := ⟨g1, k, none⟩) e1).trans d1
        have e4 := (hbel.cell (p := ⟨g2, k, none⟩) e2).trans d2
        have hfal := Lib.hid (fun (e : X[k] ≠ Y[k]) => same_no hlt1 hlt2 e)
        have hnx := Lib.hid (fun (e : X[k] = Y[k]) => (show ∀ j (h1 : j < X.length) (h2 : j < Y.length), j < k + 1 → X[j] = Y[j] from fun j h1 h2 hj => if he : j = k then (by subst he; exact e) else hno.out j h1 h2 (by omega)))
        clear d1 d2
        generalize X[k] = r at d4 hfal hnx
        generalize Y[k] = s at e4 hfal hnx
        clear hlt1 hlt2
        have hz := hbel.size
        have hg3 : g1 < wr.heap.size := by omega
        have hg4 : g2 < wr.heap.size := by omega
        by_cases hrs : r = s
        · have Hn := Lib.hid (hnx.out hrs)
          subst hrs
          clear hfal hnx
          go_wp2
          refine wp_region_calm 9 (Below (wr.heap.size) _) (by kernel_rfl) (by kernel_rfl) ((Below.refl _ _).drew) ?_
          simp only [List.take_succ_cons, List.take_zero, List.drop_succ_cons, List.drop_zero]
          repeat (first | (apply wpCalm_go; go_simp; (intro w' hw' hcc hff; go_simp; first | exact rfl | fail); (intro K hK; go_simp; refine hK _ ?_; clear hK K)) | (apply wpCalm_skip; go_simp; (intro K hK; go_simp; refine hK _ ?_; clear hK K)))
          refine wpCalm_nil ?_
          intro w1 hw1
          have hcc := (calm_cells hw1).1
          have hff := (calm_cells hw1).2
          have hss := calm_size hw1
          have hsz := hw1.size
          (try simp at hsz)
          go_wp2
          exact ⟨⟨k + 1, rfl, hlt, Hn, below_via hbel hw1 hz⟩, by simp [intOf]; omega⟩
        · have Hf := Lib.hid (hfal.out hrs)
          have hbe : (r == s) = false := by rw [beq_eq_false_iff_ne]; exact hrs
          clear hfal hnx
          go_wp2
          refine wp_region_calm 9 (Below (wr.heap.size) _) (by kernel_rfl) (by kernel_rfl) ((Below.refl _ _).drew) ?_
          simp only [List.take_succ_cons, List.take_zero, List.drop_succ_cons, List.drop_zero]
          repeat (first | (apply wpCalm_go; go_simp; (intro w' hw' hcc hff; go_simp; first | exact rfl | fail); (intro K hK; go_simp; refine hK _ ?_; clear hK K)) | (apply wpCalm_skip; go_simp; (intro K hK; go_simp; refine hK _ ?_; clear hK K)))
          refine wpCalm_nil ?_
          intro w1 hw1
          have hcc := (calm_cells hw1).1
          have hff := (calm_cells hw1).2
          have hss := calm_size hw1
          have hsz := hw1.size
          (try simp at hsz)
          go_wp2
          go_ret
          exact ⟨ret_bool Hf.out.symm, below_via hbel hw1 hz⟩
      · have Hy := Lib.hid (same_yes (HX.out.trans HY.out.symm) (fun j h1 h2 => hno.out j h1 h2 (by have := HX.out; omega)))
        go_wp2
        go_ret
        exact ⟨ret_bool Hy.out.symm, hbel⟩
  · have Hf := Lib.hid (same_len he)
    have hle : ((X.length : Int) == (Y.length : Int)) = false := by rw [beq_eq_false_iff_ne]; omega
    clear h1 h2
    go_enter Try.func294, Try.ntmps294
    go_wp2
    go_ret
    exact ⟨ret_bool Hf.out.symm, (by repeat (first | with_reducible exact Below.refl _ _ | with_reducible assumption | with_reducible apply Below.drew | with_reducible apply below_drewN | (with_reducible apply below_setp; (first | omega | (simp <;> omega))) | (with_reducible apply below_allocp; (first | omega | (simp <;> omega))) | (with_reducible refine below_viap (by assumption) ?_ ?_; (first | omega | (simp <;> omega)))))⟩
end

section
open Go.RowKit

/-- Whether the genus values are V. -/
noncomputable def gnP (d : Int) (V : List Int) (f : Fm) : Bool := decide (gnL d f = V)

set_option maxRecDepth 100000 in
set_option maxHeartbeats 3200000 in
theorem genusWith_any (d : Int) (v : Value) (B2 : Nat) (V : List Int) (w : World) (hD : Dsc d) (hV : V.length ≤ 10000000) (h : w.ownsRow B2 3 1 v V.length (cellsI V)) :
    Calls Try.prog 297 #[.int .i64 d, v] w (RetF ((clsL d).filter (gnP d V)) w) := by
  obtain ⟨i0, hi, hz0, hz1, hz2⟩ := info_parts infoForm
  obtain ⟨base2, cap2, rfl⟩ := own_shape h
  have hl : (clsL d).length ≤ 100000 := Nat.le_trans (clsL_len d) (by decide)
  have Hr := Lib.hid (fun w => reducedForms_any d w hD.lo hD.hi)
  have hgn := Lib.hid (fun f (h : f ∈ clsL d) w => genusValues_gn d f f w (CF.of_mem hD h))
  have hgl := Lib.hid (fun f (h : f ∈ clsL d) => gn_len hD h)
  have H := Lib.hid h
  clear h
  obtain ⟨p, hp0⟩ : ∃ p, gnP d V = p := ⟨_, rfl⟩
  rw [hp0]
  have Hp : Hid (∀ f, decide (gnL d f = V) = p f) := Lib.hid (fun f => congrFun hp0 f)
  clear hp0
  generalize clsL d = L at *
  go_enter Try.func297, Try.ntmps297
  go_wp2_with (go_at_call 105; refine (Hr.out _).mono ?_; rintro e w1 ⟨vl, rfl, howl, hb1⟩; obtain ⟨base, cap, rfl⟩ := own_shape howl)
  obtain ⟨B, hB⟩ : ∃ B : Nat, B = (w.alloc (.cells #[] 35)).heap.size := ⟨_, rfl⟩
  rw [← hB] at howl
  have hz1' := hb1.size
  go_loopw [5, 12] (fun v i wr => FlkSt p L B (.slice base L.length cap) w v i wr) (fun _ i _ => L.length - (intOf i).toNat)
  case atStart => exact ⟨0, rfl, Nat.zero_le _, own_call hb1 (own_empty (Nat.le_refl _)), howl, apart_below howl (by simp [hB]), (by repeat (first | with_reducible exact Below.refl _ _ | with_reducible assumption | with_reducible apply Below.drew | with_reducible apply below_drewN | (with_reducible apply below_setp; (first | omega | (simp <;> omega))) | (with_reducible apply below_allocp; (first | omega | (simp <;> omega))) | (with_reducible refine below_viap (by assumption) ?_ ?_; (first | omega | (simp <;> omega)))))⟩
  case round =>
    clear howl hb1 hz1'
    obtain ⟨k, rfl, hk, hown, howl, hap, hbel⟩ := hrel
    have howv := own_call hbel H.out
    by_cases hlt : k < L.length
    · obtain ⟨g, rfl, hg2, d1, d2, d3⟩ := own_elem howl hlt
      have hft := filter_take (p := p) hlt
      have hfm := List.getElem_mem hlt
      generalize L[k] = f at d1 d2 d3 hft hfm
      have hG := Lib.hid (hgn.out f hfm)
      have hXl := hgl.out f hfm
      have hpf := Hp.out f
      generalize gnL d f = X at hG hXl hpf
      have Hft := Lib.hid hft
      clear hft hfm
      have hz := hbel.size
      have hlf := filter_len (p := p) L k hl
      by_cases hp : p f = true
      · have hx := Lib.hid (Hft.out.trans (by rw [if_pos hp]))
        rw [hp] at hpf
        have Hpf := Lib.hid hpf
        clear hp hpf
        go_wp2_with (first
          | (go_at_call 298; refine (hG.out _).mono ?_; rintro e v1 ⟨vg, rfl, howg, hB1⟩; have hZ1 := hB1.size; (try simp at hZ1); have hA1 : Blk v1 wr.heap.size 35 #[.int .i64 f.a, .int .i64 f.b, .int .i64 f.c] := Blk.call (by (repeat (first | with_reducible assumption | (with_reducible apply Blk.new_at; (first | rfl | (simp; done))) | with_reducible apply Blk.store3 | with_reducible apply Blk.store4 | (with_reducible apply Blk.farp; (first | omega | (simp <;> omega))) | with_reducible apply Blk.allocp | with_reducible apply Blk.drew | with_reducible apply Blk.drewN))) hB1; have cA1 := hA1.cell; have fA1 := hA1.frozen; have lA1 := hA1.lt; have howv1 := own_call hB1 (own_alloc howv))
          | (go_at_call 327; refine (sameValues_any _ _ _ B2 X V _ hXl hV howg howv1).mono ?_; rw [Hpf.out]; rintro e v2 ⟨rfl, hB2⟩; have hZ2 := hB2.size; (try simp at hZ2); have hA2 : Blk v2 wr.heap.size 35 #[.int .i64 f.a, .int .i64 f.b, .int .i64 f.c] := Blk.call hA1 hB2; have cA2 := hA2.cell; have fA2 := hA2.frozen; have lA2 := hA2.lt)
          | (at_builtin; refine wpList_append_own_at _ rfl (.tmp 20) (.tmp 22) 115 rfl w.heap.size 35 i0 _ 3 24 Try.underlying115 hi hz0 hz1 hz2 rfl (by decide) u5 ((L.take k).filter p).length (cellsF ((L.take k).filter p)) rfl ?_ ⟨v2.heap.size, 0, none⟩ 1 1 [.int .i64 f.a, .int .i64 f.b, .int .i64 f.c] rfl rfl ?_ (one3 _ _ _) ?_ ?_ ?_ ?_; exact (by repeat (first | with_reducible assumption | with_reducible apply own_alloc | with_reducible apply own_drew | with_reducible apply own_drewN | (with_reducible refine own_setp (by assumption) ?_ ?_; (first | omega | (simp <;> omega))) | (with_reducible refine own_call (by assumption) ?_))); exact cells3 (Blk.new _ _ _); (unfold maxLen; omega); omega; (simp; omega); intro x2 w2 hown2 hg2 _ hloc))
        have hb2 : Below w.heap.size w w2 := below_grown (own_ge hown) (by simp; omega) hg2 (by repeat (first | with_reducible exact Below.refl _ _ | with_reducible assumption | with_reducible apply Below.drew | with_reducible apply below_drewN | (with_reducible apply below_setp; (first | omega | (simp <;> omega))) | (with_reducible apply below_allocp; (first | omega | (simp <;> omega))) | (with_reducible refine below_viap (by assumption) ?_ ?_; (first | omega | (simp <;> omega)))))
        have ho2 := own_snoc hx.out hown2
        have hol1 : (v2.alloc (Obj.cells #[Value.int IntKind.i64 f.a, Value.int IntKind.i64 f.b, Value.int IntKind.i64 f.c] 35)).ownsRow B 35 3 (.slice (some ⟨g, 0, none⟩) L.length cap) L.length (cellsF L) := (by repeat (first | with_reducible assumption | with_reducible apply own_alloc | with_reducible apply own_drew | with_reducible apply own_drewN | (with_reducible refine own_setp (by assumption) ?_ ?_; (first | omega | (simp <;> omega))) | (with_reducible refine own_call (by assumption) ?_)))
        have hol2 := hol1.kept hg2 hap
        have hap2 := apart_next hap hol1 (Nat.le_refl _) hloc
        clear hg2 hown2 hown hbel howl hap hol1 hloc
        go_wp2
        go_roundw
        case rel => exact ⟨k + 1, rfl, hlt, ho2, hol2, hap2, hb2⟩
        case measure => simp [intOf]; omega
      · have hx := Lib.hid (Hft.out.trans (by rw [if_neg hp, List.append_nil]))
        have hp2 : p f = false := by simpa using hp
        rw [hp2] at hpf
        have Hpf := Lib.hid hpf
        clear hp hp2 hpf
        go_wp2_with (first
          | (go_at_call 298; refine (hG.out _).mono ?_; rintro e v1 ⟨vg, rfl, howg, hB1⟩; have hZ1 := hB1.size; (try simp at hZ1); have hA1 : Blk v1 wr.heap.size 35 #[.int .i64 f.a, .int .i64 f.b, .int .i64 f.c] := Blk.call (by (repeat (first | with_reducible assumption | (with_reducible apply Blk.new_at; (first | rfl | (simp; done))) | with_reducible apply Blk.store3 | with_reducible apply Blk.store4 | (with_reducible apply Blk.farp; (first | omega | (simp <;> omega))) | with_reducible apply Blk.allocp | with_reducible apply Blk.drew | with_reducible apply Blk.drewN))) hB1; have cA1 := hA1.cell; have fA1 := hA1.frozen; have lA1 := hA1.lt; have howv1 := own_call hB1 (own_alloc howv))
          | (go_at_call 327; refine (sameValues_any _ _ _ B2 X V _ hXl hV howg howv1).mono ?_; rw [Hpf.out]; rintro e v2 ⟨rfl, hB2⟩; have hZ2 := hB2.size; (try simp at hZ2)))
        go_roundw
        case rel => exact ⟨k + 1, rfl, hlt, by rw [hx.out]; exact (by repeat (first | with_reducible assumption | with_reducible apply own_alloc | with_reducible apply own_drew | with_reducible apply own_drewN | (with_reducible refine own_setp (by assumption) ?_ ?_; (first | omega | (simp <;> omega))) | (with_reducible refine own_call (by assumption) ?_))), (by repeat (first | with_reducible assumption | with_reducible apply own_alloc | with_reducible apply own_drew | with_reducible apply own_drewN | (with_reducible refine own_setp (by assumption) ?_ ?_; (first | omega | (simp <;> omega))) | (with_reducible refine own_call (by assumption) ?_))), hap, (by repeat (first | with_reducible exact Below.refl _ _ | with_reducible assumption | with_reducible apply Below.drew | with_reducible apply below_drewN | (with_reducible apply below_setp; (first | omega | (simp <;> omega))) | (with_reducible apply below_allocp; (first | omega | (simp <;> omega))) | (with_reducible refine below_viap (by assumption) ?_ ?_; (first | omega | (simp <;> omega)))))⟩
        case measure => simp [intOf]; omega
    · have e : k = L.length := by omega
      have hx : (L.take k).filter p = L.filter p := by rw [e, List.take_length]
      have Hx := Lib.hid hx
      clear hx
      subst e
      go_wp2
      go_ret
      exact ⟨_, rfl, by rw [← Hx.out]; exact hown, hbel⟩

set_option maxRecDepth 100000 in
set_option maxHeartbeats 3200000 in
theorem chWith_any (d : Int) (v : Value) (B2 : Nat) (V : List Int) (w : World) (hD : Dsc d) (hV : V.length ≤ 10000000) (h : w.ownsRow B2 3 1 v V.length (cellsI V)) :
    Calls Try.prog 198 #[.int .i64 d, v] w (RetF ((clsL d).filter (gnP d V)) w) := by
  obtain ⟨i0, hi, hz0, hz1, hz2⟩ := info_parts infoForm
  obtain ⟨base2, cap2, rfl⟩ := own_shape h
  have hl : (clsL d).length ≤ 100000 := Nat.le_trans (clsL_len d) (by decide)
  have Hr := Lib.hid (fun w => reList_any d w hD.lo hD.hi)
  have hgn := Lib.hid (fun f (h : f ∈ clsL d) w => chOf_gn d f f w (CF.of_mem hD h))
  have hgl := Lib.hid (fun f (h : f ∈ clsL d) => gn_len hD h)
  have H := Lib.hid h
  clear h
  obtain ⟨p, hp0⟩ : ∃ p, gnP d V = p := ⟨_, rfl⟩
  rw [hp0]
  have Hp : Hid (∀ f, decide (gnL d f = V) = p f) := Lib.hid (fun f => congrFun hp0 f)
  clear hp0
  generalize clsL d = L at *
  go_enter Try.func198, Try.ntmps198
  go_wp2_with (go_at_call 204; refine (Hr.out _).mono ?_; rintro e w1 ⟨vl, rfl, howl, hb1⟩; obtain ⟨base, cap, rfl⟩ := own_shape howl)
  obtain ⟨B, hB⟩ : ∃ B : Nat, B = w.heap.size := ⟨_, rfl⟩
  rw [← hB] at howl
  have hz1' := hb1.size
  go_loopw [5, 11] (fun v i wr => FlkSt p L B (.slice base L.length cap) w v i wr) (fun _ i _ => L.length - (intOf i).toNat)
  case atStart => exact ⟨0, rfl, Nat.zero_le _, World.ownsRow_nil _ _ _ _, howl, apart_nil, (by repeat (first | with_reducible exact Below.refl _ _ | with_reducible assumption | with_reducible apply Below.drew | with_reducible apply below_drewN | (with_reducible apply below_setp; (first | omega | (simp <;> omega))) | (with_reducible apply below_allocp; (first | omega | (simp <;> omega))) | (with_reducible refine below_viap (by assumption) ?_ ?_; (first | omega | (simp <;> omega)))))⟩
  case round =>
    clear howl hb1 hz1'
    obtain ⟨k, rfl, hk, hown, howl, hap, hbel⟩ := hrel
    have howv := own_call hbel H.out
    by_cases hlt : k < L.length
    · obtain ⟨g, rfl, hg2, d1, d2, d3⟩ := own_elem howl hlt
      have hft := filter_take (p := p) hlt
      have hfm := List.getElem_mem hlt
      generalize L[k] = f at d1 d2 d3 hft hfm
      have hG := Lib.hid (hgn.out f hfm)
      have hXl := hgl.out f hfm
      have hpf := Hp.out f
      generalize gnL d f = X at hG hXl hpf
      have Hft := Lib.hid hft
      clear hft hfm
      have hz := hbel.size
      have hlf := filter_len (p := p) L k hl
      by_cases hp : p f = true
      · have hx := Lib.hid (Hft.out.trans (by rw [if_pos hp]))
        rw [hp] at hpf
        have Hpf := Lib.hid hpf
        clear hp hpf
        go_wp2_with (first
          | (go_at_call 199; refine (hG.out _).mono ?_; rintro e v1 ⟨vg, rfl, howg, hB1⟩; have hZ1 := hB1.size; (try simp at hZ1); have hA1 : Blk v1 wr.heap.size 35 #[.int .i64 f.a, .int .i64 f.b, .int .i64 f.c] := Blk.call (by (repeat (first | with_reducible assumption | (with_reducible apply Blk.new_at; (first | rfl | (simp; done))) | with_reducible apply Blk.store3 | with_reducible apply Blk.store4 | (with_reducible apply Blk.farp; (first | omega | (simp <;> omega))) | with_reducible apply Blk.allocp | with_reducible apply Blk.drew | with_reducible apply Blk.drewN))) hB1; have cA1 := hA1.cell; have fA1 := hA1.frozen; have lA1 := hA1.lt; have howv1 := own_call hB1 (own_alloc howv))
          | (go_at_call 294; refine (l1Same_any _ _ _ B2 X V _ hXl hV howg howv1).mono ?_; rw [Hpf.out]; rintro e v2 ⟨rfl, hB2⟩; have hZ2 := hB2.size; (try simp at hZ2); have hA2 : Blk v2 wr.heap.size 35 #[.int .i64 f.a, .int .i64 f.b, .int .i64 f.c] := Blk.call hA1 hB2; have cA2 := hA2.cell; have fA2 := hA2.frozen; have lA2 := hA2.lt)
          | (at_builtin; refine wpList_append_own_at _ rfl (.tmp 19) (.tmp 21) 115 rfl w.heap.size 35 i0 _ 3 24 Try.underlying115 hi hz0 hz1 hz2 rfl (by decide) u5 ((L.take k).filter p).length (cellsF ((L.take k).filter p)) rfl ?_ ⟨v2.heap.size, 0, none⟩ 1 1 [.int .i64 f.a, .int .i64 f.b, .int .i64 f.c] rfl rfl ?_ (one3 _ _ _) ?_ ?_ ?_ ?_; exact (by repeat (first | with_reducible assumption | with_reducible apply own_alloc | with_reducible apply own_drew | with_reducible apply own_drewN | (with_reducible refine own_setp (by assumption) ?_ ?_; (first | omega | (simp <;> omega))) | (with_reducible refine own_call (by assumption) ?_))); exact cells3 (Blk.new _ _ _); (unfold maxLen; omega); omega; (simp; omega); intro x2 w2 hown2 hg2 _ hloc))
        have hb2 : Below w.heap.size w w2 := below_grown (own_ge hown) (by simp; omega) hg2 (by repeat (first | with_reducible exact Below.refl _ _ | with_reducible assumption | with_reducible apply Below.drew | with_reducible apply below_drewN | (with_reducible apply below_setp; (first | omega | (simp <;> omega))) | (with_reducible apply below_allocp; (first | omega | (simp <;> omega))) | (with_reducible refine below_viap (by assumption) ?_ ?_; (first | omega | (simp <;> omega)))))
        have ho2 := own_snoc hx.out hown2
        have hol1 : (v2.alloc (Obj.cells #[Value.int IntKind.i64 f.a, Value.int IntKind.i64 f.b, Value.int IntKind.i64 f.c] 35)).ownsRow B 35 3 (.slice (some ⟨g, 0, none⟩) L.length cap) L.length (cellsF L) := (by repeat (first | with_reducible assumption | with_reducible apply own_alloc | with_reducible apply own_drew | with_reducible apply own_drewN | (with_reducible refine own_setp (by assumption) ?_ ?_; (first | omega | (simp <;> omega))) | (with_reducible refine own_call (by assumption) ?_)))
        have hol2 := hol1.kept hg2 hap
        have hap2 := apart_next hap hol1 (Nat.le_refl _) hloc
        clear hg2 hown2 hown hbel howl hap hol1 hloc
        go_wp2
        go_roundw
        case rel => exact ⟨k + 1, rfl, hlt, ho2, hol2, hap2, hb2⟩
        case measure => simp [intOf]; omega
      · have hx := Lib.hid (Hft.out.trans (by rw [if_neg hp, List.append_nil]))
        have hp2 : p f = false := by simpa using hp
        rw [hp2] at hpf
        have Hpf := Lib.hid hpf
        clear hp hp2 hpf
        go_wp2_with (first
          | (go_at_call 199; refine (hG.out _).mono ?_; rintro e v1 ⟨vg, rfl, howg, hB1⟩; have hZ1 := hB1.size; (try simp at hZ1); have hA1 : Blk v1 wr.heap.size 35 #[.int .i64 f.a, .int .i64 f.b, .int .i64 f.c] := Blk.call (by (repeat (first | with_reducible assumption | (with_reducible apply Blk.new_at; (first | rfl | (simp; done))) | with_reducible apply Blk.store3 | with_reducible apply Blk.store4 | (with_reducible apply Blk.farp; (first | omega | (simp <;> omega))) | with_reducible apply Blk.allocp | with_reducible apply Blk.drew | with_reducible apply Blk.drewN))) hB1; have cA1 := hA1.cell; have fA1 := hA1.frozen; have lA1 := hA1.lt; have howv1 := own_call hB1 (own_alloc howv))
          | (go_at_call 294; refine (l1Same_any _ _ _ B2 X V _ hXl hV howg howv1).mono ?_; rw [Hpf.out]; rintro e v2 ⟨rfl, hB2⟩; have hZ2 := hB2.size; (try simp at hZ2)))
        go_roundw
        case rel => exact ⟨k + 1, rfl, hlt, by rw [hx.out]; exact (by repeat (first | with_reducible assumption | with_reducible apply own_alloc | with_reducible apply own_drew | with_reducible apply own_drewN | (with_reducible refine own_setp (by assumption) ?_ ?_; (first | omega | (simp <;> omega))) | (with_reducible refine own_call (by assumption) ?_))), (by repeat (first | with_reducible assumption | with_reducible apply own_alloc | with_reducible apply own_drew | with_reducible apply own_drewN | (with_reducible refine own_setp (by assumption) ?_ ?_; (first | omega | (simp <;> omega))) | (with_reducible refine own_call (by assumption) ?_))), hap, (by repeat (first | with_reducible exact Below.refl _ _ | with_reducible assumption | with_reducible apply Below.drew | with_reducible apply below_drewN | (with_reducible apply below_setp; (first | omega | (simp <;> omega))) | (with_reducible apply below_allocp; (first | omega | (simp <;> omega))) | (with_reducible refine below_viap (by assumption) ?_ ?_; (first | omega | (simp <;> omega)))))⟩
        case measure => simp [intOf]; omega
    · have e : k = L.length := by omega
      have hx : (L.take k).filter p = L.filter p := by rw [e, List.take_length]
      have Hx := Lib.hid hx
      clear hx
      subst e
      go_wp2
      go_ret
      exact ⟨_, rfl, by rw [← Hx.out]; exact hown, hbel⟩
end

section
open Go.RowKit

/-- What PrincipalGenus gives. -/
def PgL (d : Int) (L : List Fm) (ok : Bool) : Prop :=
  (isDisc d = false ∧ L = [] ∧ ok = false) ∨ (isDisc d = true ∧ L = (clsL d).filter (gnP d (gnL d (oneF d))) ∧ ok = true)
theorem pgL_ex (d : Int) : ∃ L ok, PgL d L ok ∧ L.length ≤ 100000 := by
  cases hc : isDisc d with
  | false => exact ⟨_, _, .inl ⟨hc, rfl, rfl⟩, by simp⟩
  | true => exact ⟨_, _, .inr ⟨hc, rfl, rfl⟩, Nat.le_trans (List.length_filter_le _ _) (Nat.le_trans (clsL_len _) (by decide))⟩
/-- What GenusOf gives. -/
def GoL (a b c : Int) (L : List Fm) (ok : Bool) : Prop :=
  (isCls a b c = false ∧ L = [] ∧ ok = false) ∨
  (isCls a b c = true ∧ L = (clsL (disc ⟨a, b, c⟩)).filter (gnP (disc ⟨a, b, c⟩) (gnL (disc ⟨a, b, c⟩) (red ⟨a, b, c⟩))) ∧ ok = true)
theorem goL_ex (a b c : Int) : ∃ L ok, GoL a b c L ok ∧ L.length ≤ 100000 := by
  cases hc : isCls a b c with
  | false => exact ⟨_, _, .inl ⟨hc, rfl, rfl⟩, by simp⟩
  | true => exact ⟨_, _, .inr ⟨hc, rfl, rfl⟩, Nat.le_trans (List.length_filter_le _ _) (Nat.le_trans (clsL_len _) (by decide))⟩

set_option maxRecDepth 100000 in
set_option maxHeartbeats 3200000 in
theorem implGO_any (a b c : Int) (L : List Fm) (ok : Bool) (w : World) (h : GoL a b c L ok) :
    Calls Try.prog 200 #[.agg #[.int .i64 a, .int .i64 b, .int .i64 c]] w (RetFb L ok w) := by
  rcases h with ⟨hc, rfl, rfl⟩ | ⟨hc, rfl, rfl⟩
  · go_enter Try.func200, Try.ntmps200
    go_wp2_with (go_at_call 184; (with_reducible refine (icls_any a b c _).mono ?_); rw [hc]; rintro e v1 ⟨rfl, hB1⟩; have hZ1 := hB1.size; (try simp at hZ1); (try have zl1 : w.heap.size < v1.heap.size := by omega); (try have ze1 : w.heap.size ≤ v1.heap.size := by omega); (try have zn1 : ¬ w.heap.size = v1.heap.size := by omega); (try have zm1 : ¬ v1.heap.size = w.heap.size := by omega); have hC1_0 := fun o => (calm_cells hB1).1 (w.heap.size) o (by first | omega | (simp <;> omega)); have hF1_0 := fun o => (calm_cells hB1).2 (w.heap.size) o (by first | omega | (simp <;> omega)); (try have hl1_0 : w.heap.size < v1.heap.size := by omega); (try have hm1_0 : ¬ w.heap.size = v1.heap.size := by omega); (try have hn1_0 : ¬ v1.heap.size = w.heap.size := by omega))
    go_ret2
    exact ⟨_, rfl, own_empty (by omega), (by repeat (first | with_reducible exact Below.refl _ _ | with_reducible assumption | with_reducible apply Below.drew | with_reducible apply below_drewN | (with_reducible apply below_setp; (first | omega | (simp <;> omega))) | (with_reducible apply below_allocp; (first | omega | (simp <;> omega))) | (with_reducible refine below_viap (by assumption) ?_ ?_; (first | omega | (simp <;> omega)))))⟩
  · have cf := CF.of_cls hc
    obtain ⟨r, hr⟩ : ∃ r, red ⟨a, b, c⟩ = r := ⟨_, rfl⟩
    obtain ⟨d, hd⟩ : ∃ d, disc ⟨a, b, c⟩ = d := ⟨_, rfl⟩
    rw [hr, hd] at cf
    rw [hr, hd]
    have hDc := Lib.hid (fun w => disc_cf d ⟨a, b, c⟩ r w cf)
    have hG := Lib.hid (fun w => genusValues_gn d ⟨a, b, c⟩ r w cf)
    have hgl := gn_len cf.D cf.mem
    have D := cf.D
    generalize gnL d r = V at *
    have hW := Lib.hid (fun v B2 w h => genusWith_any d v B2 V w D hgl h)
    generalize (clsL d).filter (gnP d V) = L at *
    clear hd hr cf D hgl
    go_enter Try.func200, Try.ntmps200
    go_wp2_with (go_at_call 184; (with_reducible refine (icls_any a b c _).mono ?_); rw [hc]; rintro e v1 ⟨rfl, hB1⟩; have hZ1 := hB1.size; (try simp at hZ1); (try have zl1 : w.heap.size < v1.heap.size := by omega); (try have ze1 : w.heap.size ≤ v1.heap.size := by omega); (try have zn1 : ¬ w.heap.size = v1.heap.size := by omega); (try have zm1 : ¬ v1.heap.size = w.heap.size := by omega); have hA1 : Blk v1 (w.heap.size) 35 #[.int .i64 a, .int .i64 b, .int .i64 c] := Blk.call (by (repeat (first | with_reducible assumption | (with_reducible apply Blk.new_at; (first | rfl | (simp; done))) | with_reducible apply Blk.store3 | with_reducible apply Blk.store4 | (with_reducible apply Blk.farp; (first | omega | (simp <;> omega))) | with_reducible apply Blk.allocp | with_reducible apply Blk.drew | with_reducible apply Blk.drewN))) hB1; have cA1 := hA1.cell; have fA1 := hA1.frozen; have lA1 := hA1.lt; have mA1 := Nat.ne_of_gt lA1; have nA1 := Nat.ne_of_lt lA1)
    go_region_with (first
      | (go_at_call 145; (with_reducible refine (hDc.out _).mono ?_); rintro e v2 ⟨rfl, hB2⟩; have hZ2 := hB2.size; (try simp at hZ2); (try have zl2 : w.heap.size < v2.heap.size := by omega); (try have ze2 : w.heap.size ≤ v2.heap.size := by omega); (try have zn2 : ¬ w.heap.size = v2.heap.size := by omega); (try have zm2 : ¬ v2.heap.size = w.heap.size := by omega); have hA2 : Blk v2 (w.heap.size) 35 #[.int .i64 a, .int .i64 b, .int .i64 c] := Blk.call (by (repeat (first | with_reducible assumption | (with_reducible apply Blk.new_at; (first | rfl | (simp; done))) | with_reducible apply Blk.store3 | with_reducible apply Blk.store4 | (with_reducible apply Blk.farp; (first | omega | (simp <;> omega))) | with_reducible apply Blk.allocp | with_reducible apply Blk.drew | with_reducible apply Blk.drewN))) hB2; have cA2 := hA2.cell; have fA2 := hA2.frozen; have lA2 := hA2.lt; have mA2 := Nat.ne_of_gt lA2; have nA2 := Nat.ne_of_lt lA2)
      | (go_at_call 298; refine (hG.out _).mono ?_; rintro e v3 ⟨vg, rfl, howg, hB3⟩; have hZ3 := hB3.size; have hA3 : Blk v3 w.heap.size 35 #[.int .i64 a, .int .i64 b, .int .i64 c] := Blk.call (by (repeat (first | with_reducible assumption | (with_reducible apply Blk.new_at; (first | rfl | (simp; done))) | with_reducible apply Blk.store3 | with_reducible apply Blk.store4 | (with_reducible apply Blk.farp; (first | omega | (simp <;> omega))) | with_reducible apply Blk.allocp | with_reducible apply Blk.drew | with_reducible apply Blk.drewN))) hB3; have cA3 := hA3.cell; have fA3 := hA3.frozen; have lA3 := hA3.lt)
      | (go_at_call 297; (first | refine (hW.out _ _ _ howg).mono ?_ | refine (hW.out _ _ _ (own_call hB2 howg)).mono ?_); rintro e v4 ⟨vl, rfl, howl, hB4⟩; have hZ4 := hB4.size))
    all_goals (go_wp2; go_ret2; exact ⟨_, rfl, own_base (by omega) howl, (by repeat (first | with_reducible exact Below.refl _ _ | with_reducible assumption | with_reducible apply Below.drew | with_reducible apply below_drewN | (with_reducible apply below_setp; (first | omega | (simp <;> omega))) | (with_reducible apply below_allocp; (first | omega | (simp <;> omega))) | (with_reducible refine below_viap (by assumption) ?_ ?_; (first | omega | (simp <;> omega)))))⟩)

end

section
open Go.RowKit

theorem fac_dvd : ∀ (k : Nat) (b : Bool) (p n : Int), ∀ x ∈ fac k b p n, x ∣ n
  | 0, _, _, _ => by simp [fac]
  | k + 1, false, p, n => by
    unfold fac
    split
    · exact fac_dvd k true p n
    · split
      · intro x hx; simp at hx; subst hx; exact Int.dvd_refl _
      · simp
  | k + 1, true, p, n => by
    unfold fac
    split
    · rename_i h
      have e := Int.emod_add_mul_ediv n p
      rw [h, Int.zero_add] at e
      intro x hx
      rcases List.mem_cons.1 hx with rfl | hx
      · exact ⟨_, e.symm⟩
      · rw [← e]; exact Int.dvd_mul_of_dvd_right (fac_dvd k true p (n / p) x hx)
    · exact fac_dvd k false (p + 1) n
theorem prims_dvd {n x : Int} (hx : x ∈ prims n) : x ∣ n := by
  rcases fold_sub (facL n) [] x hx with h | h
  · simp at h
  · exact fac_dvd _ _ _ _ x h
theorem gcd_one_of_dvd {a b m n : Int} (ha : a ∣ m) (hb : b ∣ n) (h : Int.gcd m n = 1) : Int.gcd a b = 1 := by
  have h1 : Int.gcd a b ∣ Int.gcd m n := Int.dvd_gcd (Int.dvd_trans (Int.gcd_dvd_left ..) ha) (Int.dvd_trans (Int.gcd_dvd_right ..) hb)
  rw [h] at h1
  exact Nat.dvd_one.1 h1
theorem gcd_emod_one {a n : Int} (h : Int.gcd a n = 1) : Int.gcd (a % n) n = 1 := by rw [gcd_emod_l]; exact h
theorem jac_cop : ∀ (k : Nat) (a n : Int), 0 ≤ a → a < k → 0 < n → Int.gcd a n = 1 → jac k a n = 1 ∨ jac k a n = -1
  | 0, a, _, h0, h1, _, _ => by omega
  | k + 1, a, n, h0, h1, hn, hg => by
    unfold jac
    split
    · rename_i h; subst h
      have : n = 1 := by rw [Int.gcd_zero_left] at hg; omega
      rw [if_pos this]; exact .inl rfl
    · split
      · have e : a / 2 ∣ a := ⟨2, by omega⟩
        exact sg_mul (two_sg n) (jac_cop k (a / 2) n (by omega) (by omega) hn (gcd_one_of_dvd e (Int.dvd_refl n) hg))
      · have m1 := Int.emod_nonneg n (show a ≠ 0 by assumption)
        have m2 := Int.emod_lt_of_pos n (show 0 < a by omega)
        refine sg_mul ?_ (jac_cop k (n % a) a m1 (by omega) (by omega) (gcd_emod_one (by rw [Int.gcd_comm]; exact hg)))
        split <;> simp
theorem jacS_cop {a n : Int} (h0 : 0 ≤ a) (hn : 0 < n) (h : Int.gcd a n = 1) : jacS a n = 1 ∨ jacS a n = -1 := jac_cop _ _ _ h0 (by omega) hn h
theorem chi_pm {m v : Int} (h1 : 1 ≤ m) (h2 : m ≤ 200000) (hg : Int.gcd v (2 * m) = 1) : ∀ x ∈ chars m, chi x v = 1 ∨ chi x v = -1 := by
  intro x hx
  have hodd : v % 2 = 1 := by
    have h3 := gcd_one_of_dvd (Int.dvd_refl v) (show (2 : Int) ∣ 2 * m from ⟨m, rfl⟩) hg
    rcases Int.emod_two_eq v with h | h
    · have h4 : (2 : Int) ∣ (Int.gcd v 2 : Int) := Int.dvd_coe_gcd (Int.dvd_of_emod_eq_zero h) (Int.dvd_refl 2)
      rw [h3] at h4
      omega
    · exact h
  have hok := chars_ok h1 h2 x hx
  unfold chi
  by_cases hk : x.1 = 1
  · rw [if_pos hk]
    obtain ⟨hp0, hpd⟩ : 0 < x.2 ∧ x.2 ∣ m := by
      rcases hok with ⟨_, a, _, _⟩ | ⟨b, _⟩ | ⟨b, _⟩ | ⟨b, _⟩ <;> try omega
      refine ⟨a, ?_⟩
      unfold chars at hx
      rcases List.mem_append.1 hx with hx | hx
      · unfold chP at hx
        obtain ⟨p, hp, rfl⟩ := List.mem_map.1 hx
        exact prims_dvd (List.mem_filter.1 hp).1
      · exfalso
        unfold tailC at hx
        (repeat' split at hx) <;> simp at hx <;> (try rcases hx with rfl | rfl) <;> (try subst hx) <;> simp at hk
    exact jacS_cop (Int.emod_nonneg _ (by omega)) hp0 (gcd_emod_one (gcd_one_of_dvd (Int.dvd_refl v) (Int.dvd_trans hpd ⟨2, by omega⟩) hg))
  · rw [if_neg hk, if_neg (by omega)]
    have hd : 2 - v % 4 = 1 ∨ 2 - v % 4 = -1 := by omega
    split
    · exact hd
    · split
      · exact two_sg v
      · exact sg_mul hd (two_sg v)
theorem vals_pm {d v : Int} (D : Dsc d) (hg : Int.gcd v (2 * d) = 1) : ∀ x ∈ vals (-d) v, x = 1 ∨ x = -1 := by
  have := D.lo; have := D.hi
  intro x hx
  obtain ⟨c, hc, rfl⟩ := List.mem_map.1 hx
  refine chi_pm (by omega) (by omega) ?_ c hc
  rw [Int.mul_neg, Int.gcd_neg]; exact hg
theorem gn_pm {d : Int} {f : Fm} (D : Dsc d) (hf : f ∈ clsL d) : ∀ x ∈ gnL d f, x = 1 ∨ x = -1 := by
  obtain ⟨x, y, v, h, he⟩ := gn_ex D hf
  rw [← he]
  obtain ⟨_, _, hg, _⟩ := h.pt
  exact vals_pm D (by rw [h.hv]; exact hg.2)
/-- Values that are not 1 or -1 belong to no class. -/
theorem gn_none {d : Int} {V : List Int} (D : Dsc d) {x : Int} (hx : x ∈ V) (h : x ≠ 1 ∧ x ≠ -1) (P : Fm → Bool) (hP : ∀ f, decide (gnL d f = V) = P f) : (clsL d).filter P = [] := by
  rw [List.filter_eq_nil_iff]
  intro f hf he
  rw [← hP f] at he
  have h1 := of_decide_eq_true he
  have := gn_pm D hf x (h1 ▸ hx)
  omega
end
end Go.Proofs.Ytjfcaafmlghjlaa
