/- Plain facts of the law on words; contracts: the draws of a form and of two words. -/
import Derived.Test.YtdaofpjanklmeaaWH
import Derived.Test.YtdaofpjanklmeaaWL
import Derived.Test.YtdaofpjanklmeaaWN
import Derived.Test.YtdaofpjanklmeaaDK
import Derived.Test.YtdaofpjanklmeaaVH
namespace Go.Proofs.Ytdaofpjanklmeaa
open Go.RowKit Go

theorem wm_yes {s : Int} {L : List Int} {m : M4} {ok : Bool} (h : WmR s L m ok) (hk : ok = true) : isWd s L = true ∧ wordB L = true ∧ m = sgM s (wordM L) := by
  rcases h with ⟨_, _, e⟩ | ⟨_, _, _, e⟩ | ⟨h1, h2, h3, _⟩
  · rw [hk] at e; cases e
  · rw [hk] at e; cases e
  · exact ⟨h1, h2, h3⟩
theorem pm_of {s : Int} (h : s.natAbs = 1) : s = 1 ∨ s = -1 := by omega
theorem det_sg {s : Int} (h : s = 1 ∨ s = -1) (m : M4) : (sgM s m).det = m.det := by
  rcases h with rfl | rfl
  · rw [sgM_one]
  · unfold sgM M4.det; simp only; grind
theorem wordB_num {L : List Int} (h : wordB L = true) (h1 : 1 ≤ L.length) : numM (wordM L) = true := by
  unfold wordB at h
  rw [List.all_eq_true] at h
  have := h (L.length - 1) (by rw [List.mem_range]; omega)
  rw [show L.length - 1 + 1 = L.length by omega, List.take_length] at this
  exact this
theorem wm_num {s : Int} {L : List Int} {m : M4} (h : WmR s L m true) : numM m = true ∧ m.det = 1 ∧ BdO m := by
  obtain ⟨h1, h2, rfl⟩ := wm_yes h rfl
  obtain ⟨k1, k2, _, _⟩ := isWd_yes h1
  have hn : numM (sgM s (wordM L)) = true := by rw [numM_sg (pm_of k1)]; exact wordB_num h2 k2
  exact ⟨hn, by rw [det_sg (pm_of k1), wordM_det], bdO_word (pm_of k1) hn⟩
/-- The word of a reduction. -/
theorem rw_facts (f : Fm) : sgn64 (rwS f) ∧ (rwL f).length ≤ 40 ∧ ∀ m ok, WmR (rwS f) (rwL f) m ok → ok = true → m = redM f M4.one := by
  unfold rwS rwL
  cases h : isDefB f.a f.b f.c with
  | false =>
    rw [if_neg (by simp), if_neg (by simp)]
    refine ⟨by unfold sgn64; omega, by simp, fun m ok hw hk => ?_⟩
    have := (wm_yes hw hk).1
    simp [isWd] at this
  | true =>
    rw [if_pos rfl, if_pos rfl]
    have hb : BdO (redM f M4.one) := bdO_red (defB_def h)
    have hw := isWd_wordL hb
    obtain ⟨k1, k2, k3, k4⟩ := isWd_yes hw
    refine ⟨by unfold sgn64; omega, k3, fun m ok hw hk => ?_⟩
    rw [(wm_yes hw hk).2.2]
    exact (wordL_val (redM_act (def_mono (defB_def h) (by decide))).2).1
/-- The word of a product. -/
theorem wp_facts {s t : Int} {A B : List Int} {x y z : M4} {rs : Int} {rl : List Int} (hk : prdB s A t B = true) (e1 : rs = s * t) (e2 : rl = prodL A B) (hx : WmR s A x true) (hy : WmR t B y true) (hz : WmR rs rl z true) : x.mul y = z := by
  obtain ⟨_, _, rfl⟩ := wm_yes hx rfl
  obtain ⟨_, _, rfl⟩ := wm_yes hy rfl
  obtain ⟨_, _, rfl⟩ := wm_yes hz rfl
  subst e1; subst e2
  unfold prdB at hk
  rw [Bool.and_eq_true, Bool.and_eq_true] at hk
  obtain ⟨_, a1, _, _⟩ := isWd_yes hk.1
  obtain ⟨_, b1, _, _⟩ := isWd_yes hk.2.1
  rw [sgM_mul]
  congr 1
  obtain ⟨n, hn⟩ : ∃ n, A.length = n + 1 := ⟨A.length - 1, by omega⟩
  rw [prodL_at hn (by omega)]
  have hA : A = A.take n ++ [A[n]] := by
    have := List.take_append_getElem (l := A) (i := n) (by omega)
    rw [this, List.take_of_length_le (by omega)]
  have hB : B = B[0] :: B.drop 1 := by
    have := List.drop_eq_getElem_cons (l := B) (i := 0) (by omega)
    rwa [List.drop_zero] at this
  have e : A.take n ++ [A[n] + B[0]] ++ B.drop 1 = A.take n ++ (A[n] + B[0]) :: B.drop 1 := by simp
  rw [e, wordM_prod, ← hA, ← hB]
/-- The inverse word. -/
theorem iv_facts {s : Int} {A : List Int} {x z : M4} {rs : Int} {rl : List Int} (hk : isWd s A = true) (e1 : rs = pmL A * s) (e2 : rl = invL A) (hx : WmR s A x true) (hz : WmR rs rl z true) : x.inv = z := by
  obtain ⟨_, _, rfl⟩ := wm_yes hx rfl
  obtain ⟨_, _, rfl⟩ := wm_yes hz rfl
  subst e1; subst e2
  obtain ⟨k1, k2, _, _⟩ := isWd_yes hk
  have h := wordM_inv A (by intro e; rw [e] at k2; simp at k2)
  have hd := det_sg (pm_of k1) (wordM A)
  rw [wordM_det] at hd
  have e1 : (sgM s (wordM A)).inv = sgM s (wordM A).inv := by unfold M4.inv; rw [hd, wordM_det]; unfold sgM; refine M4.ext4 ?_ ?_ ?_ ?_ <;> simp [Int.mul_neg]
  have e2 : sgM (pmL A * s) (wordM (invL A)) = sgM s (sgM (pmL A) (wordM (invL A))) := by unfold sgM; refine M4.ext4 ?_ ?_ ?_ ?_ <;> simp only <;> grind
  rw [e1, e2, h]
theorem pr_facts {s t ps : Int} {A B pl : List Int} (h1 : (if prdB s A t B = true then s * t else 0) = ps) (h2 : (if prdB s A t B = true then prodL A B else []) = pl) : sgn64 ps ∧ pl.length ≤ 40 := by
  subst h1; subst h2
  cases h : prdB s A t B with
  | false => rw [if_neg (by simp), if_neg (by simp)]; exact ⟨by unfold sgn64; omega, by simp⟩
  | true =>
    rw [if_pos rfl, if_pos rfl]
    unfold prdB at h
    rw [Bool.and_eq_true, Bool.and_eq_true] at h
    obtain ⟨k1, k2, k3, _⟩ := isWd_yes h.2.2
    exact ⟨by unfold sgn64; omega, k3⟩
theorem ivv_facts {s is : Int} {A il : List Int} (h1 : (if isWd s A = true then pmL A * s else 0) = is) (h2 : (if isWd s A = true then invL A else []) = il) : sgn64 is ∧ il.length ≤ 40 := by
  subst h1; subst h2
  cases h : isWd s A with
  | false => rw [if_neg (by simp), if_neg (by simp)]; exact ⟨by unfold sgn64; omega, by simp⟩
  | true =>
    rw [if_pos rfl, if_pos rfl]
    obtain ⟨k1, k2, k3, _⟩ := isWd_yes h
    refine ⟨?_, by simp [invL]; exact k3⟩
    unfold sgn64 pmL
    split <;> omega
theorem wpp_facts {s t ps : Int} {A B pl : List Int} {x y z : M4} {ox oy oz : Bool} (hk : prdB s A t B = true) (h1 : (if prdB s A t B = true then s * t else 0) = ps) (h2 : (if prdB s A t B = true then prodL A B else []) = pl) (e1 : ox = true) (e2 : oy = true) (e3 : oz = true)
    (hx : WmR s A x ox) (hy : WmR t B y oy) (hz : WmR ps pl z oz) (w : World) :
    Calls Try.prog 44 #[.agg #[.int .i64 x.p, .int .i64 x.q, .int .i64 x.r, .int .i64 x.s], .agg #[.int .i64 y.p, .int .i64 y.q, .int .i64 y.r, .int .i64 y.s]] w fun e w' =>
      e = .returned (.tuple #[.agg #[.int .i64 z.p, .int .i64 z.q, .int .i64 z.r, .int .i64 z.s], .bool true]) ∧ Below w.heap.size w w' := by
  subst e1; subst e2; subst e3
  rw [if_pos hk] at h1 h2
  have e := wp_facts hk h1.symm h2.symm hx hy hz
  have hn := (wm_num hz).1
  have := MatrixProduct_yes x y true w (wm_num hx).1 (wm_num hy).1 (by rw [e]; exact hn)
  rw [if_pos rfl, e] at this
  exact this
theorem ivw_facts {s is : Int} {A il : List Int} {x z : M4} {ox oz : Bool} (hk : isWd s A = true) (h1 : (if isWd s A = true then pmL A * s else 0) = is) (h2 : (if isWd s A = true then invL A else []) = il) (e1 : ox = true) (e3 : oz = true)
    (hx : WmR s A x ox) (hz : WmR is il z oz) : x.inv = z := by
  subst e1; subst e3
  rw [if_pos hk] at h1 h2
  exact iv_facts hk h1.symm h2.symm hx hz
theorem nw_ex {s : Int} {A : List Int} {x : M4} {ox : Bool} (hs : sgn64 s) (hx : WmR s A x ox) : ∃ (ws : Int) (wl : List Int), (ox = true → isWd ws wl = true) ∧ sgn64 ws ∧ wl.length ≤ 40 ∧ ∀ (w : World) (B : Nat) (v : Value), OwnE w B v A → ox = true →
    Calls Try.prog 48 #[.agg #[.int .i64 s, v]] w (RetWb ws wl true w) := by
  cases ox with
  | false => exact ⟨0, [], by simp, by unfold sgn64; omega, by simp, by simp⟩
  | true =>
    obtain ⟨h1, h2, e⟩ := wm_yes hx rfl
    have hb := (wm_num hx).2.2
    subst e
    have hw := isWd_wordL hb
    obtain ⟨k1, k2, k3, _⟩ := isWd_yes hw
    exact ⟨_, _, fun _ => hw, by unfold sgn64; omega, k3, fun w B v ho _ => NormalWord_yes s v B A w hs ho h1 h2 hb⟩
theorem IsWord_y (s : Int) (v : Value) (B : Nat) (L : List Int) (w : World) (hs0 : sgn64 s) (ho : OwnE w B v L) (hw : isWd s L = true) :
    Calls Try.prog 49 #[.agg #[.int .i64 s, v]] w fun e w' => e = .returned (.bool true) ∧ Below w.heap.size w w' := by
  have := IsWord_any s v B L w hs0 ho
  rw [hw] at this
  exact this
/-- What the second draw gives. -/
def RetWW (w : World) (e : Ending) (w' : World) : Prop := ∃ (s : Int) (A : List Int) (va : Value) (t : Int) (B : List Int) (vb : Value), e = .returned (.tuple #[.agg #[.int .i64 s, va], .agg #[.int .i64 t, vb]]) ∧
  (sgn64 s ∧ sgn64 t) ∧ OwnE w' w.heap.size va A ∧ OwnE w' w.heap.size vb B ∧ Below w.heap.size w w'
set_option maxRecDepth 100000 in
set_option maxHeartbeats 3200000 in
theorem drawRW_any (zs : List Int) (v : Value) (B : Nat) (w : World) (hr : RdB zs v B w) (hB0 : B ≤ w.heap.size) :
    Calls Try.prog 35 #[v] w (RetDf w) := by
  obtain ⟨A, m, c, rfl⟩ := hr.shape
  have hD0 := Lib.hid (drw_start2 (.cells #[.int .i64 0, .int .i64 0, .int .i64 0] 35) hr)
  have hB : B ≤ w.heap.size + 1 := by omega
  clear hr
  have hfin := Lib.hid (fun x y z w' (h : Drw zs (.slice A m c) B (w.heap.size + 1) 100 w w') => retDf_mk x y z h)
  go_enter Try.func35, Try.ntmps35
  go_wp2_with fail
  refine (definite_d (by repeat (first | with_reducible assumption | (with_reducible apply Hid.out; assumption) | with_reducible apply Drw.drewN | with_reducible apply Drw.drew | with_reducible apply Drw.alloc | (with_reducible refine Drw.setp ?_ ?_ ?_ ?_; (first | omega | (simp <;> omega)); (first | omega | (simp <;> omega)); (first | omega | (simp <;> omega))))) hB (by omega)).mono ?_
  rintro e v2 ⟨f2, rfl, hx2, hD2', hG2⟩
  have hD2 := Lib.hid hD2'
  have lG2 := hD2'.lt
  have zG2 := hG2.size
  (try simp at zG2)
  have hA2 : Blk v2 (w.heap.size) 35 #[.int .i64 0, .int .i64 0, .int .i64 0] := Blk.grown (by (repeat (first | with_reducible assumption | (with_reducible apply Blk.new_at; (first | rfl | (simp; done))) | with_reducible apply Blk.store3 | with_reducible apply Blk.store4 | (with_reducible apply Blk.farp; (first | omega | (simp <;> omega))) | with_reducible apply Blk.allocp | with_reducible apply Blk.drew | with_reducible apply Blk.drewN))) hG2 (by simp <;> omega)
  have cA2 := hA2.cell; have fA2 := hA2.frozen; have lA2 := hA2.lt; have mA2 := Nat.ne_of_gt lA2; have nA2 := Nat.ne_of_lt lA2
  clear hD2' hG2
  go_wp2
  exact bodyPost_ret (v := .agg #[.int .i64 f2.a, .int .i64 f2.b, .int .i64 f2.c]) (by simp [results, Try.results35, go_sem, *]) rfl (hfin.out _ _ _ _ (Drw.more (n := 0 + 32) (by repeat (first | with_reducible assumption | (with_reducible apply Hid.out; assumption) | with_reducible apply Drw.drewN | with_reducible apply Drw.drew | with_reducible apply Drw.alloc | (with_reducible refine Drw.setp ?_ ?_ ?_ ?_; (first | omega | (simp <;> omega)); (first | omega | (simp <;> omega)); (first | omega | (simp <;> omega))))) (by omega)))
set_option maxRecDepth 100000 in
set_option maxHeartbeats 6400000 in
theorem drawWP_any (zs : List Int) (v : Value) (B : Nat) (w : World) (hr : RdB zs v B w) (hB0 : B ≤ w.heap.size) :
    Calls Try.prog 41 #[v] w (RetWW w) := by
  obtain ⟨A, m, c, rfl⟩ := hr.shape
  have hD0 := Lib.hid (drw_start3 (.cells #[.int .i64 0, .slice none 0 0] 70) (.cells #[.int .i64 0, .slice none 0 0] 70) hr)
  have hB : B ≤ w.heap.size + 1 + 1 := by omega
  clear hr
  go_enter Try.func41, Try.ntmps41
  go_wp2_with fail
  refine (word_d (w0 := w) (by repeat (first | with_reducible assumption | (with_reducible apply Hid.out; assumption) | with_reducible apply Drw.drewN | with_reducible apply Drw.drew | with_reducible apply Drw.alloc | (with_reducible refine Drw.setp ?_ ?_ ?_ ?_; (first | omega | (simp <;> omega)); (first | omega | (simp <;> omega)); (first | omega | (simp <;> omega))))) hB (by omega)).mono ?_
  rintro e v1 ⟨s, LA, u, rfl, ⟨hs, hlA⟩, ho1, hD1', hG1⟩
  have hD1 := Lib.hid hD1'
  have lG1 := hD1'.lt
  have zG1 := hG1.size
  (try simp at zG1)
  have hR1 : Blk v1 (w.heap.size) 70 #[.int .i64 0, .slice none 0 0] := Blk.grown (by (repeat (first | with_reducible assumption | (with_reducible apply Blk.new_at; (first | rfl | (simp; done))) | with_reducible apply Blk.store3 | with_reducible apply Blk.store4 | (with_reducible apply Blk.farp; (first | omega | (simp <;> omega))) | with_reducible apply Blk.allocp | with_reducible apply Blk.drew | with_reducible apply Blk.drewN))) hG1 (by simp <;> omega); have cR1 := hR1.cell; have fR1 := hR1.frozen; have lR1 := hR1.lt; have mR1 := Nat.ne_of_gt lR1; have nR1 := Nat.ne_of_lt lR1
  have hS1 : Blk v1 (w.heap.size + 1) 70 #[.int .i64 0, .slice none 0 0] := Blk.grown (by (repeat (first | with_reducible assumption | (with_reducible apply Blk.new_at; (first | rfl | (simp; done))) | with_reducible apply Blk.store3 | with_reducible apply Blk.store4 | (with_reducible apply Blk.farp; (first | omega | (simp <;> omega))) | with_reducible apply Blk.allocp | with_reducible apply Blk.drew | with_reducible apply Blk.drewN))) hG1 (by simp <;> omega); have cS1 := hS1.cell; have fS1 := hS1.frozen; have lS1 := hS1.lt; have mS1 := Nat.ne_of_gt lS1; have nS1 := Nat.ne_of_lt lS1
  (try simp at ho1)
  obtain ⟨ub, uc, rfl⟩ := own_shape ho1
  have hge1 := own_ge ho1
  have hlt1 := own_lt ho1
  clear hD1' hG1 hD0
  go_wp2
  go_region_with (go_at_call 126; refine (word_d (w0 := w) (by repeat (first | with_reducible assumption | (with_reducible apply Hid.out; assumption) | with_reducible apply Drw.drewN | with_reducible apply Drw.drew | with_reducible apply Drw.alloc | (with_reducible refine Drw.setp ?_ ?_ ?_ ?_; (first | omega | (simp <;> omega)); (first | omega | (simp <;> omega)); (first | omega | (simp <;> omega))))) hB (by omega)).mono ?_; rintro e v2 ⟨t, LB, x, rfl, ⟨ht, hlB⟩, ho2, hD2', hG2⟩; have hD2 := Lib.hid hD2'; have lG2 := hD2'.lt; have zG2 := hG2.size; (try simp at zG2); have hR2 : Blk v2 (w.heap.size) 70 #[.int .i64 0, .slice none 0 0] := Blk.grown (by (repeat (first | with_reducible assumption | (with_reducible apply Blk.new_at; (first | rfl | (simp; done))) | with_reducible apply Blk.store3 | with_reducible apply Blk.store4 | (with_reducible apply Blk.farp; (first | omega | (simp <;> omega))) | with_reducible apply Blk.allocp | with_reducible apply Blk.drew | with_reducible apply Blk.drewN))) hG2 (by simp <;> omega); have cR2 := hR2.cell; have fR2 := hR2.frozen; have lR2 := hR2.lt; have mR2 := Nat.ne_of_gt lR2; have nR2 := Nat.ne_of_lt lR2; have hS2 : Blk v2 (w.heap.size + 1) 70 #[.int .i64 0, .slice none 0 0] := Blk.grown (by (repeat (first | with_reducible assumption | (with_reducible apply Blk.new_at; (first | rfl | (simp; done))) | with_reducible apply Blk.store3 | with_reducible apply Blk.store4 | (with_reducible apply Blk.farp; (first | omega | (simp <;> omega))) | with_reducible apply Blk.allocp | with_reducible apply Blk.drew | with_reducible apply Blk.drewN))) hG2 (by simp <;> omega); have cS2 := hS2.cell; have fS2 := hS2.frozen; have lS2 := hS2.lt; have mS2 := Nat.ne_of_gt lS2; have nS2 := Nat.ne_of_lt lS2; have hT2 : Blk v2 (v1.heap.size) 70 #[.int .i64 s, .slice ub LA.length uc] := Blk.grown (by (repeat (first | with_reducible assumption | (with_reducible apply Blk.new_at; (first | rfl | (simp; done))) | with_reducible apply Blk.store3 | with_reducible apply Blk.store4 | (with_reducible apply Blk.farp; (first | omega | (simp <;> omega))) | with_reducible apply Blk.allocp | with_reducible apply Blk.drew | with_reducible apply Blk.drewN))) hG2 (by simp <;> omega); have cT2 := hT2.cell; have fT2 := hT2.frozen; have lT2 := hT2.lt; have mT2 := Nat.ne_of_gt lT2; have nT2 := Nat.ne_of_lt lT2; (try simp at ho2); obtain ⟨xb, xc, rfl⟩ := own_shape ho2; have ho12 := own_drw (own_drew (own_alloc (o := .cells #[.int .i64 s, .slice ub LA.length uc] 70) ho1)) (by omega) hG2)
  all_goals
    have hge2 := own_ge ho2
    go_wp2
    exact bodyPost_ret (v := .tuple #[.agg #[.int .i64 s, .slice ub LA.length uc], .agg #[.int .i64 t, .slice xb LB.length xc]]) (by simp [results, Try.results41, go_sem, *]) rfl ⟨s, LA, _, t, LB, _, rfl, ⟨by unfold sgn64; omega, by unfold sgn64; omega⟩,
      ⟨by omega, own_base (show w.heap.size ≤ w.heap.size + 1 + 1 + 1 by omega) (by repeat (first | exact ho12 | refine own_nqv (fun q hq => by have := hge1 q hq; simp; omega) ?_))⟩,
      ⟨by omega, own_base (show w.heap.size ≤ v1.heap.size + 1 by omega) (by repeat (first | exact ho2 | refine own_nqv (fun q hq => by have := hge2 q hq; simp; omega) ?_))⟩, below_cur3 (Drw.gr (zs := zs) (v := .slice A m c) (B := B) (n := 0 + 250 + 250) (by repeat (first | with_reducible assumption | (with_reducible apply Hid.out; assumption) | with_reducible apply Drw.drewN | with_reducible apply Drw.drew | with_reducible apply Drw.alloc | (with_reducible refine Drw.setp ?_ ?_ ?_ ?_; (first | omega | (simp <;> omega)); (first | omega | (simp <;> omega)); (first | omega | (simp <;> omega))))))⟩
end Go.Proofs.Ytdaofpjanklmeaa
