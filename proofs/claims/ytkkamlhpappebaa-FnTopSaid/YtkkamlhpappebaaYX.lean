/- Parts Y1 Y3 laid together by tp.py. -/
import Derived.Test.YtkkamlhpappebaaQX
import Derived.Test.YtkkamlhpappebaaKT
import Derived.Test.YtkkamlhpappebaaY2
import Derived.Test.YtkkamlhpappebaaK7
namespace Go.Proofs.Ytkkamlhpappebaa
section
open Go.RowKit

section
variable (κ : Fm → List Int)
/-- Whether f has the key of g. -/
def sameK (g f : Fm) : Bool := decide (κ f = κ g)
/-- The first of each part. -/
def repsK (P : List Fm) : List Fm := P.foldl (fun R f => if R.any (fun g => sameK κ g f) then R else R ++ [f]) []
/-- The parts of A, one for each first of P. -/
def grpK (P A : List Fm) : List (List Fm) := (repsK κ P).map fun g => A.filter (sameK κ g)
variable {κ}
theorem reps_snoc (P : List Fm) (f : Fm) : repsK κ (P ++ [f]) = if (repsK κ P).any (fun g => sameK κ g f) then repsK κ P else repsK κ P ++ [f] := by
  unfold repsK; rw [List.foldl_append]; rfl
theorem reps_take {L : List Fm} {k : Nat} (h : k < L.length) : repsK κ (L.take (k + 1)) = if (repsK κ (L.take k)).any (fun g => sameK κ g L[k]) then repsK κ (L.take k) else repsK κ (L.take k) ++ [L[k]] := by
  rw [List.take_succ_eq_append_getElem h, reps_snoc]
theorem same_iff {g f : Fm} : sameK κ g f = true ↔ κ f = κ g := by unfold sameK; exact decide_eq_true_iff
theorem reps_any : ∀ (n : Nat) (P : List Fm), P.length = n → ∀ f, (repsK κ P).any (fun g => sameK κ g f) = P.any (fun g => sameK κ g f)
  | 0, P, hn, f => by
    have : P = [] := List.eq_nil_of_length_eq_zero hn
    subst this; rfl
  | n + 1, P, hn, f => by
    have hne : P ≠ [] := by intro h; subst h; simp at hn
    obtain ⟨Q, x, rfl⟩ : ∃ Q x, P = Q ++ [x] := ⟨P.dropLast, P.getLast hne, (List.dropLast_concat_getLast hne).symm⟩
    have ih := reps_any n Q (by simpa using hn)
    rw [reps_snoc, List.any_append]
    by_cases hx : (repsK κ Q).any (fun g => sameK κ g x) = true
    · rw [if_pos hx, ih f]
      have h2 := hx
      rw [ih x] at h2
      obtain ⟨y, hy, hyx⟩ := List.any_eq_true.1 h2
      by_cases hfx : sameK κ x f = true
      · have : Q.any (fun g => sameK κ g f) = true := List.any_eq_true.2 ⟨y, hy, by rw [same_iff] at *; rw [hfx, hyx]⟩
        rw [this]; rfl
      · have : sameK κ x f = false := by simpa using hfx
        simp [this]
    · rw [if_neg hx, List.any_append, ih f]
theorem reps_has (P : List Fm) (f : Fm) : (repsK κ P).any (fun g => sameK κ g f) = P.any (fun g => sameK κ g f) := reps_any _ P rfl f
theorem reps_sub : ∀ (n : Nat) (P : List Fm), P.length = n → ∀ f ∈ repsK κ P, f ∈ P
  | 0, P, hn, f, hf => by
    have : P = [] := List.eq_nil_of_length_eq_zero hn
    subst this; exact hf
  | n + 1, P, hn, f, hf => by
    have hne : P ≠ [] := by intro h; subst h; simp at hn
    obtain ⟨Q, x, rfl⟩ : ∃ Q x, P = Q ++ [x] := ⟨P.dropLast, P.getLast hne, (List.dropLast_concat_getLast hne).symm⟩
    have ih := reps_sub n Q (by simpa using hn)
    rw [reps_snoc] at hf
    split at hf
    · exact List.mem_append_left _ (ih f hf)
    · rcases List.mem_append.1 hf with h | h
      · exact List.mem_append_left _ (ih f h)
      · exact List.mem_append_right _ h
theorem reps_dist : ∀ (n : Nat) (P : List Fm), P.length = n → (repsK κ P).Pairwise (fun a b => κ a ≠ κ b)
  | 0, P, hn => by
    have : P = [] := List.eq_nil_of_length_eq_zero hn
    subst this; exact List.Pairwise.nil
  | n + 1, P, hn => by
    have hne : P ≠ [] := by intro h; subst h; simp at hn
    obtain ⟨Q, x, rfl⟩ : ∃ Q x, P = Q ++ [x] := ⟨P.dropLast, P.getLast hne, (List.dropLast_concat_getLast hne).symm⟩
    have ih := reps_dist n Q (by simpa using hn)
    rw [reps_snoc]
    split
    · exact ih
    · rename_i h
      rw [List.pairwise_append]
      refine ⟨ih, List.pairwise_singleton _ _, fun a ha b hb => ?_⟩
      simp at hb; subst hb
      intro he
      exact h (List.any_eq_true.2 ⟨a, ha, same_iff.2 he.symm⟩)
theorem reps_len (P : List Fm) : (repsK κ P).length ≤ P.length := by
  have : ∀ (P R : List Fm), (P.foldl (fun R f => if R.any (fun g => sameK κ g f) then R else R ++ [f]) R).length ≤ R.length + P.length := by
    intro P
    induction P with
    | nil => intro R; simp
    | cons x P ih =>
      intro R
      simp only [List.foldl_cons, List.length_cons]
      split
      · have := ih R; omega
      · have := ih (R ++ [x]); rw [List.length_append, List.length_singleton] at this; omega
  have := this P []
  unfold repsK
  simpa using this
theorem grp_len (P A : List Fm) : (grpK κ P A).length = (repsK κ P).length := by unfold grpK; simp

/-- The first form of a part is f exactly if no earlier form has the key of f. -/
theorem head_first {L : List Fm} {k : Nat} (hk : k < L.length) (hf : (repsK κ (L.take k)).any (fun g => sameK κ g L[k]) = false) :
    ∃ T, L.filter (sameK κ L[k]) = L[k] :: T := by
  rw [reps_has] at hf
  have e : L = L.take k ++ (L[k] :: L.drop (k + 1)) := by rw [← List.drop_eq_getElem_cons hk, List.take_append_drop]
  generalize hx : L[k] = x at *
  rw [e, List.filter_append]
  have h0 : (L.take k).filter (sameK κ x) = [] := by
    rw [List.filter_eq_nil_iff]
    intro y hy hs
    have := List.any_eq_false.1 hf y hy
    apply this
    rw [same_iff] at *
    exact hs.symm
  rw [h0, List.nil_append, List.filter_cons, if_pos (same_iff.2 rfl)]
  exact ⟨_, rfl⟩
theorem head_not {L : List Fm} (hn : L.Pairwise (· ≠ ·)) {k : Nat} (hk : k < L.length) (hf : (repsK κ (L.take k)).any (fun g => sameK κ g L[k]) = true) :
    ∃ y T, L.filter (sameK κ L[k]) = y :: T ∧ y ≠ L[k] := by
  rw [reps_has] at hf
  obtain ⟨z, hz, hzk⟩ := List.any_eq_true.1 hf
  have e : L.filter (sameK κ L[k]) = (L.take k).filter (sameK κ L[k]) ++ (L.drop k).filter (sameK κ L[k]) := by rw [← List.filter_append, List.take_append_drop]
  have hm : z ∈ (L.take k).filter (sameK κ L[k]) := List.mem_filter.2 ⟨hz, by rw [same_iff] at *; exact hzk.symm⟩
  cases h : (L.take k).filter (sameK κ L[k]) with
  | nil => rw [h] at hm; simp at hm
  | cons y T =>
    rw [e, h]
    refine ⟨y, _, rfl, fun he => ?_⟩
    have hy : y ∈ L.take k := (List.mem_filter.1 (by rw [h]; simp : y ∈ (L.take k).filter (sameK κ L[k]))).1
    obtain ⟨j, hj, hjy⟩ := List.getElem_of_mem hy
    rw [List.length_take] at hj
    rw [List.getElem_take] at hjy
    exact List.pairwise_iff_getElem.1 hn j k (by omega) hk (by omega) (hjy.trans he)

/-- A form of a new part. -/
theorem grp_new {P : List Fm} {f : Fm} (h : (repsK κ P).any (fun g => sameK κ g f) = false) : grpK κ (P ++ [f]) (P ++ [f]) = grpK κ P P ++ [[f]] := by
  unfold grpK
  rw [reps_snoc, h, if_neg (by simp), List.map_append]
  have h1 : ∀ g ∈ repsK κ P, sameK κ g f = false := by
    intro g hg
    have := List.any_eq_false.1 h g hg
    simpa using this
  congr 1
  · refine List.map_congr_left fun g hg => ?_
    rw [List.filter_append, List.filter_cons, h1 g hg]
    simp
  · rw [reps_has] at h
    have h2 : P.filter (sameK κ f) = [] := by
      rw [List.filter_eq_nil_iff]
      intro y hy hs
      exact List.any_eq_false.1 h y hy (by rw [same_iff] at *; exact hs.symm)
    simp only [List.map_cons, List.map_nil, List.filter_append, h2, List.nil_append]
    rw [List.filter_cons, if_pos (same_iff.2 rfl)]
    rfl
/-- A form of the part i. -/
theorem grp_old {P : List Fm} {f : Fm} {i : Nat} (hi : i < (repsK κ P).length) (h : κ f = κ (repsK κ P)[i]) :
    grpK κ (P ++ [f]) (P ++ [f]) = (grpK κ P P).set i ((grpK κ P P).getD i [] ++ [f]) := by
  have hany : (repsK κ P).any (fun g => sameK κ g f) = true := List.any_eq_true.2 ⟨_, List.getElem_mem hi, same_iff.2 h⟩
  have hd := reps_dist (κ := κ) _ P rfl
  unfold grpK
  rw [reps_snoc, hany, if_pos rfl]
  refine List.ext_getElem (by simp) fun j h1 h2 => ?_
  simp only [List.length_map] at h1
  rw [List.getElem_map, List.filter_append, List.getElem_set]
  by_cases e : i = j
  · subst e
    rw [if_pos rfl, List.getD_eq_getElem?_getD, List.getElem?_map, List.getElem?_eq_getElem hi]
    simp only [Option.map_some, Option.getD_some]
    rw [List.filter_cons, if_pos (same_iff.2 h)]
    rfl
  · rw [if_neg e, List.getElem_map]
    have : sameK κ (repsK κ P)[j] f = false := by
      unfold sameK
      rw [decide_eq_false_iff_not, h]
      intro he
      rcases Nat.lt_or_gt_of_ne e with hlt | hlt
      · exact List.pairwise_iff_getElem.1 hd i j hi h1 hlt he
      · exact List.pairwise_iff_getElem.1 hd j i h1 hi hlt he.symm
    rw [List.filter_cons, this]
    simp
/-- The part i is not empty, and all its forms have the key of its first. -/
theorem grp_head {P : List Fm} {i : Nat} (hi : i < (repsK κ P).length) (hg : i < (grpK κ P P).length) : ∃ y T, (grpK κ P P)[i] = y :: T ∧ y ∈ P ∧ κ y = κ (repsK κ P)[i] := by
  have hm := reps_sub (κ := κ) _ P rfl _ (List.getElem_mem hi)
  have e : (grpK κ P P)[i] = P.filter (sameK κ (repsK κ P)[i]) := List.getElem_map (fun g => P.filter (sameK κ g))
  rw [e]
  have h2 : (repsK κ P)[i] ∈ P.filter (sameK κ (repsK κ P)[i]) := List.mem_filter.2 ⟨hm, same_iff.2 rfl⟩
  cases h : P.filter (sameK κ (repsK κ P)[i]) with
  | nil => rw [h] at h2; simp at h2
  | cons y T =>
    have := List.mem_filter.1 (by rw [h]; simp : y ∈ P.filter (sameK κ (repsK κ P)[i]))
    exact ⟨y, T, rfl, this.1, same_iff.1 this.2⟩
end
end

section
open Go.RowKit

/-- The genera of d. -/
noncomputable def genL (d : Int) : List (List Fm) := grpK (gnL d) (clsL d) (clsL d)
def RetN (G : List (List Fm)) (w : World) (e : Ending) (w' : World) : Prop := ∃ v, e = .returned v ∧ NestF w.heap.size G v w' ∧ Below w.heap.size w w'
def RetN2 (G : List (List Fm)) (ok : Bool) (w : World) (e : Ending) (w' : World) : Prop := ∃ v, e = .returned (.tuple #[v, .bool ok]) ∧ NestF w.heap.size G v w' ∧ Below w.heap.size w w'
theorem grp_take {κ : Fm → List Int} {L : List Fm} {k : Nat} (h : k < L.length) :
    grpK κ (L.take (k + 1)) L = grpK κ (L.take k) L ++ (if (repsK κ (L.take k)).any (fun g => sameK κ g L[k]) then [] else [L.filter (sameK κ L[k])]) := by
  unfold grpK
  rw [reps_take h]
  split <;> simp
def GneSt (κ : Fm → List Int) (L : List Fm) (B : Nat) (vl : Value) (w : World) (v vi : Value) (wr : World) : Prop :=
  ∃ k : Nat, vi = .int .i64 k ∧ k ≤ L.length ∧ NestF w.heap.size (grpK κ (L.take k) L) v wr ∧ wr.ownsRow B 35 3 vl L.length (cellsF L) ∧ Apart v vl ∧ Below w.heap.size w wr
/-- The first form of a list. -/
theorem own_elem0 {w : World} {B : Nat} {e : TypeId} {vl : Value} {y : Fm} {T : List Fm} (h : w.ownsRow B e 3 vl (y :: T).length (cellsF (y :: T))) :
    ∃ g cl, vl = .slice (some ⟨g, 0, none⟩) (T.length + 1) cl ∧ g < w.heap.size ∧ w.cell? ⟨g, 0, none⟩ = some (.int .i64 y.a) ∧ w.cell? ⟨g, 1, none⟩ = some (.int .i64 y.b) ∧ w.cell? ⟨g, 2, none⟩ = some (.int .i64 y.c) := by
  obtain ⟨base, cap, rfl⟩ := own_shape h
  obtain ⟨g, rfl, h2, h3⟩ := own_elem h (k := 0) (by simp)
  simp at h3
  exact ⟨g, cap, rfl, h2, h3⟩
theorem oneS (x : Value) (h : x.oneCell' = true := by rfl) : ∀ u ∈ ([x] : List Value), u.oneCell' = true := by
  intro u hu; simp at hu; subst hu; exact h
theorem gnP_same (d : Int) (f : Fm) : gnP d (gnL d f) = sameK (gnL d) f := rfl

set_option maxRecDepth 100000 in
set_option maxHeartbeats 3200000 in
theorem genera_any (d : Int) (w : World) (hD : Dsc d) : Calls Try.prog 161 #[.int .i64 d] w (RetN (genL d) w) := by
  obtain ⟨i0, hi, hz0, hz1, hz2⟩ := info_parts infoSlF
  have hl : (clsL d).length ≤ 100000 := Nat.le_trans (clsL_len d) (by decide)
  have Hr := Lib.hid (fun w => reducedForms_any d w hD.lo hD.hi)
  have HG := Lib.hid (fun f (h : f ∈ clsL d) w => genusValues_gn d f f w (CF.of_mem hD h))
  have HW := Lib.hid (fun f (h : f ∈ clsL d) v B2 w ho => genusWith_any d v B2 (gnL d f) w hD (gn_len hD h) ho)
  have hnd := Lib.hid (clsL_nodup d)
  unfold genL
  simp only [gnP_same] at HW
  generalize gnL d = κ at *
  generalize clsL d = L at *
  go_enter Try.func161, Try.ntmps161
  go_wp2_with (go_at_call 77; refine (Hr.out _).mono ?_; rintro e w1 ⟨vl, rfl, howl, hb1⟩; obtain ⟨base, cap, rfl⟩ := own_shape howl)
  obtain ⟨B, hB⟩ : ∃ B : Nat, B = (w.alloc (.cells #[] 27)).heap.size := ⟨_, rfl⟩
  rw [← hB] at howl
  have hz1' := hb1.size
  go_loopw [3, 11] (fun v i wr => GneSt κ L B (.slice base L.length cap) w v i wr) (fun _ i _ => L.length - (intOf i).toNat)
  case atStart => exact ⟨0, rfl, Nat.zero_le _, (NestF.empty (Nat.le_refl _)).call hb1, howl, apart_below howl (by simp [hB]), (by repeat (first | with_reducible exact Below.refl _ _ | with_reducible assumption | with_reducible apply Below.drew | with_reducible apply below_drewN | (with_reducible apply below_setp; (first | omega | (simp <;> omega))) | (with_reducible apply below_allocp; (first | omega | (simp <;> omega))) | (with_reducible refine below_viap (by assumption) ?_ ?_; (first | omega | (simp <;> omega)))))⟩
  case round =>
    clear howl hb1 hz1'
    obtain ⟨k, rfl, hk, ⟨vs, hnest⟩, howl, hap, hbel⟩ := hrel
    have hz := hbel.size
    by_cases hlt : k < L.length
    · obtain ⟨g, rfl, hg2, d1, d2, d3⟩ := own_elem howl hlt
      have hgt := grp_take (κ := κ) hlt
      have hfm := List.getElem_mem hlt
      have hG2 := Lib.hid (HG.out _ hfm)
      have hW2 := Lib.hid (HW.out _ hfm)
      have hfl : (L.filter (sameK κ L[k])).length ≤ 100000 := Nat.le_trans (List.length_filter_le _ _) hl
      have hGl : (grpK κ (L.take k) L).length ≤ 100000 := by rw [grp_len]; have := reps_len (κ := κ) (L.take k); rw [List.length_take] at this; omega
      by_cases hany : (repsK κ (L.take k)).any (fun g => sameK κ g L[k]) = true
      · obtain ⟨y, T, hyT, hne⟩ := head_not hnd.out hlt hany
        have hx := Lib.hid (hgt.trans (by rw [if_pos hany, List.append_nil]))
        rw [hyT] at hW2 hfl
        generalize κ L[k] = V at *
        generalize L[k] = f at d1 d2 d3 hne hG2
        clear hgt hfm hany hyT
        rcases fm_cases y f with ⟨rfl, hv⟩ | ⟨hv, e1⟩ | ⟨hv, e1, e2⟩ | ⟨hv, e1, e2, e3⟩
        · exact absurd rfl hne
        all_goals
          clear hv hne
          go_wp2_with (first
            | (go_at_call 83; refine (hG2.out _).mono ?_; rintro e v1 ⟨vg, rfl, howg, hB1⟩; have hZ1 := hB1.size; (try simp at hZ1); have hA1 : Blk v1 wr.heap.size 35 #[.int .i64 f.a, .int .i64 f.b, .int .i64 f.c] := Blk.call (by (repeat (first | with_reducible assumption | (with_reducible apply Blk.new_at; (first | rfl | (simp; done))) | with_reducible apply Blk.store3 | with_reducible apply Blk.store4 | (with_reducible apply Blk.farp; (first | omega | (simp <;> omega))) | with_reducible apply Blk.allocp | with_reducible apply Blk.drew | with_reducible apply Blk.drewN))) hB1; have cA1 := hA1.cell; have fA1 := hA1.frozen; have lA1 := hA1.lt)
            | (go_at_call 82; refine (hW2.out _ _ _ howg).mono ?_; rintro e v2 ⟨vu, rfl, howu, hB2⟩; have hZ2 := hB2.size; obtain ⟨gu, cu, rfl, hgu, y1, y2, y3⟩ := own_elem0 howu; have hA2 : Blk v2 wr.heap.size 35 #[.int .i64 f.a, .int .i64 f.b, .int .i64 f.c] := Blk.call hA1 hB2; have cA2 := hA2.cell; have fA2 := hA2.frozen; have lA2 := hA2.lt))
          have hb2 : Below w.heap.size w v2 := (by repeat (first | with_reducible exact Below.refl _ _ | with_reducible assumption | with_reducible apply Below.drew | with_reducible apply below_drewN | (with_reducible apply below_setp; (first | omega | (simp <;> omega))) | (with_reducible apply below_allocp; (first | omega | (simp <;> omega))) | (with_reducible refine below_viap (by assumption) ?_ ?_; (first | omega | (simp <;> omega)))))
          have hn2 := ((hnest.alloc _).call hB1).call hB2
          have hl2 := own_call hB2 (own_call hB1 (own_alloc (o := .cells #[.int .i64 f.a, .int .i64 f.b, .int .i64 f.c] 35) howl))
          refine wp_region_calm 5 (Below (v2.heap.size) _) (by kernel_rfl) (by kernel_rfl) ((Below.refl _ _).drew) ?_
          simp only [List.take_succ_cons, List.take_zero, List.drop_succ_cons, List.drop_zero]
          repeat (first | (apply wpCalm_go; go_simp; (intro w' hw' hcc hff; go_simp; first | exact rfl | fail); (intro K hK; go_simp; refine hK _ ?_; clear hK K)) | (apply wpCalm_skip; go_simp; (intro K hK; go_simp; refine hK _ ?_; clear hK K)))
          refine wpCalm_nil ?_
          intro w1 hw1
          have hcc := (calm_cells hw1).1
          have hff := (calm_cells hw1).2
          have hss := calm_size hw1
          have hsz := hw1.size
          (try simp at hsz)
          go_wp2
          exact ⟨⟨k + 1, rfl, hlt, by rw [hx.out]; exact ⟨vs, hn2.call hw1⟩, own_call hw1 hl2, hap, below_via hb2 hw1 (by omega)⟩, by simp [intOf]; omega⟩
      · have hany2 : (repsK κ (L.take k)).any (fun g => sameK κ g L[k]) = false := by simpa using hany
        obtain ⟨T, hyT⟩ := head_first hlt hany2
        have hx := Lib.hid (hgt.trans (by rw [if_neg hany, hyT]))
        rw [hyT] at hW2 hfl
        generalize κ L[k] = V at *
        generalize L[k] = f at d1 d2 d3 hW2 hfl hx hG2
        clear hgt hfm hany hany2 hyT
        generalize grpK κ (L.take k) L = Gk at *
        go_wp2_with (first
          | (go_at_call 83; refine (hG2.out _).mono ?_; rintro e v1 ⟨vg, rfl, howg, hB1⟩; have hZ1 := hB1.size; (try simp at hZ1); have hA1 : Blk v1 wr.heap.size 35 #[.int .i64 f.a, .int .i64 f.b, .int .i64 f.c] := Blk.call (by (repeat (first | with_reducible assumption | (with_reducible apply Blk.new_at; (first | rfl | (simp; done))) | with_reducible apply Blk.store3 | with_reducible apply Blk.store4 | (with_reducible apply Blk.farp; (first | omega | (simp <;> omega))) | with_reducible apply Blk.allocp | with_reducible apply Blk.drew | with_reducible apply Blk.drewN))) hB1; have cA1 := hA1.cell; have fA1 := hA1.frozen; have lA1 := hA1.lt)
          | (go_at_call 82; refine (hW2.out _ _ _ howg).mono ?_; rintro e v2 ⟨vu, rfl, howu, hB2⟩; have hZ2 := hB2.size; obtain ⟨gu, cu, rfl, hgu, y1, y2, y3⟩ := own_elem0 howu; have hA2 : Blk v2 wr.heap.size 35 #[.int .i64 f.a, .int .i64 f.b, .int .i64 f.c] := Blk.call hA1 hB2; have cA2 := hA2.cell; have fA2 := hA2.frozen; have lA2 := hA2.lt))
        have hrb : Below wr.heap.size wr v2 := below_via (below_via ((Below.refl _ _).alloc (Nat.le_refl _) _) hB1 (by simp)) hB2 (by omega)
        have hb2 : Below w.heap.size w v2 := below_via hbel hrb hz
        have hl2 := own_call hB2 (own_call hB1 (own_alloc (o := .cells #[.int .i64 f.a, .int .i64 f.b, .int .i64 f.c] 35) howl))
        have hno2 := own_call hB2 (own_call hB1 (own_alloc (o := .cells #[.int .i64 f.a, .int .i64 f.b, .int .i64 f.c] 35) hnest.1))
        refine wp_region_calm 5 (Below (v2.heap.size) _) (by kernel_rfl) (by kernel_rfl) ((Below.refl _ _).drew) ?_
        simp only [List.take_succ_cons, List.take_zero, List.drop_succ_cons, List.drop_zero]
        repeat (first | (apply wpCalm_go; go_simp; (intro w' hw' hcc hff; go_simp; first | exact rfl | fail); (intro K hK; go_simp; refine hK _ ?_; clear hK K)) | (apply wpCalm_skip; go_simp; (intro K hK; go_simp; refine hK _ ?_; clear hK K)))
        refine wpCalm_nil ?_
        intro w1 hw1
        have hcc := (calm_cells hw1).1
        have hff := (calm_cells hw1).2
        have hss := calm_size hw1
        have hsz := hw1.size
        (try simp at hsz)
        have hl3 := own_call hw1 hl2
        have hno3 := own_call hw1 hno2
        have hu3 := own_call hw1 (own_base (show wr.heap.size ≤ v1.heap.size by omega) howu)
        go_wp2_with (at_builtin; refine wpList_append_own_at _ rfl (.tmp 24) (.tmp 26) 91 rfl w.heap.size 27 i0 _ 1 24 Try.underlying91 hi hz0 hz1 hz2 rfl (by decide) u3 Gk.length vs rfl ?_ ⟨w1.heap.size, 0, none⟩ 1 1 [.slice (some ⟨gu, 0, none⟩) (T.length + 1) cu] rfl rfl ?_ (oneS _) ?_ ?_ ?_ ?_; exact own_alloc hno3; exact cells1 (Blk.new _ _ _); (unfold maxLen; omega); omega; (simp; omega); intro x2 w2 hown2 hgr _ hloc)
        have hwA : Below wr.heap.size wr (w1.alloc (.cells #[.slice (some ⟨gu, 0, none⟩) (T.length + 1) cu] 27)) := (below_via hrb hw1 (by omega)).alloc (by omega) _
        have hnN := hnest.snoc hwA (own_alloc hu3) hz hown2 hgr hloc
        rw [← hx.out] at hnN
        have hlA := own_alloc (o := .cells #[.slice (some ⟨gu, 0, none⟩) (T.length + 1) cu] 27) hl3
        have hlN := hlA.kept hgr hap
        have hapN := apart_next hap hlA (Nat.le_refl _) hloc
        have hbN : Below w.heap.size w w2 := below_grown (own_ge hnest.1) (by simp; omega) hgr ((below_via hb2 hw1 (by omega)).alloc (by omega) _)
        clear hgr hown2 hnest howl hap hlA hl3 hno3 hu3 hl2 hno2
        go_wp2
        exact ⟨⟨k + 1, rfl, hlt, hnN, hlN, hapN, hbN⟩, by simp [intOf]; omega⟩
    · have e : k = L.length := by omega
      have hx : grpK κ (L.take k) L = grpK κ L L := by rw [e, List.take_length]
      rw [hx] at hnest
      have Hn := Lib.hid hnest
      clear hx hnest
      subst e
      go_wp2
      go_ret
      exact ⟨_, rfl, ⟨vs, Hn.out⟩, hbel⟩

set_option maxHeartbeats 800000 in
theorem implGen_any (d : Int) (G : List (List Fm)) (ok : Bool) (w : World) (h : (isDisc d = false ∧ G = [] ∧ ok = false) ∨ (isDisc d = true ∧ G = genL d ∧ ok = true)) :
    Calls Try.prog 81 #[.int .i64 d] w (RetN2 G ok w) := by
  rcases h with ⟨hc, rfl, rfl⟩ | ⟨hc, hG, rfl⟩
  · go_enter Try.func81, Try.ntmps81
    go_wp2_with (go_at_call 76; (with_reducible refine (negDisc_eq d false _ hc).mono ?_); rintro e v ⟨rfl, rfl⟩)
    go_ret2
    exact ⟨_, rfl, NestF.empty (by omega), (by repeat (first | with_reducible exact Below.refl _ _ | with_reducible assumption | with_reducible apply Below.drew | with_reducible apply below_drewN | (with_reducible apply below_setp; (first | omega | (simp <;> omega))) | (with_reducible apply below_allocp; (first | omega | (simp <;> omega))) | (with_reducible refine below_viap (by assumption) ?_ ?_; (first | omega | (simp <;> omega)))))⟩
  · have hg := fun w => genera_any d w (dsc_of hc)
    rw [← hG] at hg
    have HG := Lib.hid hg
    clear hg hG
    go_enter Try.func81, Try.ntmps81
    go_wp2_with (first
      | (go_at_call 76; (with_reducible refine (negDisc_eq d true _ hc).mono ?_); rintro e v ⟨rfl, rfl⟩)
      | (go_at_call 161; refine (HG.out _).mono ?_; rintro e v5 ⟨vl, rfl, hN, hB5⟩; have hZ5 := hB5.size))
    go_ret2
    exact ⟨_, rfl, hN, (by repeat (first | with_reducible exact Below.refl _ _ | with_reducible assumption | with_reducible apply Below.drew | with_reducible apply below_drewN | (with_reducible apply below_setp; (first | omega | (simp <;> omega))) | (with_reducible apply below_allocp; (first | omega | (simp <;> omega))) | (with_reducible refine below_viap (by assumption) ?_ ?_; (first | omega | (simp <;> omega)))))⟩

/-- What GenusCount gives. -/
def GcN (d n : Int) (ok : Bool) : Prop := (isDisc d = false ∧ n = 0 ∧ ok = false) ∨ (isDisc d = true ∧ n = (genL d).length ∧ ok = true)
theorem gcN_ex (d : Int) : ∃ n ok, GcN d n ok := by
  cases hc : isDisc d with
  | false => exact ⟨_, _, .inl ⟨hc, rfl, rfl⟩⟩
  | true => exact ⟨_, _, .inr ⟨hc, rfl, rfl⟩⟩
set_option maxHeartbeats 800000 in
theorem implGC_any (d n : Int) (ok : Bool) (w : World) (h : GcN d n ok) :
    Calls Try.prog 16 #[.int .i64 d] w fun e w' => e = .returned (.tuple #[.int .i64 n, .bool ok]) ∧ Below w.heap.size w w' := by
  obtain ⟨G, hG, rfl⟩ : ∃ G, ((isDisc d = false ∧ G = [] ∧ ok = false) ∨ (isDisc d = true ∧ G = genL d ∧ ok = true)) ∧ n = (G.length : Int) := by
    rcases h with ⟨hc, rfl, rfl⟩ | ⟨hc, rfl, rfl⟩
    · exact ⟨[], .inl ⟨hc, rfl, rfl⟩, rfl⟩
    · exact ⟨_, .inr ⟨hc, rfl, rfl⟩, rfl⟩
  have HG := Lib.hid (fun w => implGen_any d G ok w hG)
  clear hG h
  go_enter Try.func16, Try.ntmps16
  go_wp2_with (go_at_call 81; refine (HG.out _).mono ?_; rintro e v5 ⟨vl, rfl, hN, hB5⟩; obtain ⟨base, cap, rfl⟩ := hN.shape)
  go_ret2
  exact ⟨rfl, (by repeat (first | with_reducible exact Below.refl _ _ | with_reducible assumption | with_reducible apply Below.drew | with_reducible apply below_drewN | (with_reducible apply below_setp; (first | omega | (simp <;> omega))) | (with_reducible apply below_allocp; (first | omega | (simp <;> omega))) | (with_reducible refine below_viap (by assumption) ?_ ?_; (first | omega | (simp <;> omega)))))⟩
end
end Go.Proofs.Ytkkamlhpappebaa
