/- Parts Y1 Y3 laid together by tp.py. -/
import Derived.Test.YtbecjnmifdbnjaaQX
import Derived.Test.YtbecjnmifdbnjaaKT
import Derived.Test.YtbecjnmifdbnjaaY2
import Derived.Test.YtbecjnmifdbnjaaK7
namespace Go.Proofs.Ytbecjnmifdbnjaa
section
open Go.RowKit

section
variable (κ : Fm → List Int)
/-- Whether f has the key of g. -/
def sameK (g f : Fm) : Bool := decide (κ f = κ g)
/-- The first of each part. -/
def repsK (P : List Fm) : List Fm := P.foldl (fun R f => if R.any (fun g => sameK κ g f) then R else R ++ [f]) []
/-- The parts of A, one for each first of P. -/
def grpK (P A : List Fm) : List (List Fm) := (repsK κ P).map fun g => A.filter (sameK κ g)
variable {κ}
theorem reps_snoc (P : List Fm) (f : Fm) : repsK κ (P ++ [f]) = if (repsK κ P).any (fun g => sameK κ g f) then repsK κ P else repsK κ P ++ [f] := by
  unfold repsK; rw [List.foldl_append]; rfl
theorem reps_take {L : List Fm} {k : Nat} (h : k < L.length) : repsK κ (L.take (k + 1)) = if (repsK κ (L.take k)).any (fun g => sameK κ g L[k]) then repsK κ (L.take k) else repsK κ (L.take k) ++ [L[k]] := by
  rw [List.take_succ_eq_append_getElem h, reps_snoc]
theorem same_iff {g f : Fm} : sameK κ g f = true ↔ κ f = κ g := by unfold sameK; exact decide_eq_true_iff
theorem reps_any : ∀ (n : Nat) (P : List Fm), P.length = n → ∀ f, (repsK κ P).any (fun g => sameK κ g f) = P.any (fun g => sameK κ g f)
  | 0, P, hn, f => by
    have : P = [] := List.eq_nil_of_length_eq_zero hn
    subst this; rfl
  | n + 1, P, hn, f => by
    have hne : P ≠ [] := by intro h; subst h; simp at hn
    obtain ⟨Q, x, rfl⟩ : ∃ Q x, P = Q ++ [x] := ⟨P.dropLast, P.getLast hne, (List.dropLast_concat_getLast hne).symm⟩
    have ih := reps_any n Q (by simpa using hn)
    rw [reps_snoc, List.any_append]
    by_cases hx : (repsK κ Q).any (fun g => sameK κ g x) = true
    · rw [if_pos hx, ih f]
      have h2 := hx
      rw [ih x] at h2
      obtain ⟨y, hy, hyx⟩ := List.any_eq_true.1 h2
      by_cases hfx : sameK κ x f = true
      · have : Q.any (fun g => sameK κ g f) = true := List.any_eq_true.2 ⟨y, hy, by rw [same_iff] at *; rw [hfx, hyx]⟩
        rw [this]; rfl
      · have : sameK κ x f = false := by simpa using hfx
        simp [this]
    · rw [if_neg hx, List.any_append, ih f]
theorem reps_has (P : List Fm) (f : Fm) : (repsK κ P).any (fun g => sameK κ g f) = P.any (fun g => sameK κ g f) := reps_any _ P rfl f
theorem reps_sub : ∀ (n : Nat) (P : List Fm), P.length = n → ∀ f ∈ repsK κ P, f ∈ P
  | 0, P, hn, f, hf => by
    have : P = [] := List.eq_nil_of_length_eq_zero hn
    subst this; exact hf
  | n + 1, P, hn, f, hf => by
    have hne : P ≠ [] := by intro h; subst h; simp at hn
    obtain ⟨Q, x, rfl⟩ : ∃ Q x, P = Q ++ [x] := ⟨P.dropLast, P.getLast hne, (List.dropLast_concat_getLast hne).symm⟩
    have ih := reps_sub n Q (by simpa using hn)
    rw [reps_snoc] at hf
    split at hf
    · exact List.mem_append_left _ (ih f hf)
    · rcases List.mem_append.1 hf with h | h
      · exact List.mem_append_left _ (ih f h)
      · exact List.mem_append_right _ h
theorem reps_dist : ∀ (n : Nat) (P : List Fm), P.length = n → (repsK κ P).Pairwise (fun a b => κ a ≠ κ b)
  | 0, P, hn => by
    have : P = [] := List.eq_nil_of_length_eq_zero hn
    subst this; exact List.Pairwise.nil
  | n + 1, P, hn => by
    have hne : P ≠ [] := by intro h; subst h; simp at hn
    obtain ⟨Q, x, rfl⟩ : ∃ Q x, P = Q ++ [x] := ⟨P.dropLast, P.getLast hne, (List.dropLast_concat_getLast hne).symm⟩
    have ih := reps_dist n Q (by simpa using hn)
    rw [reps_snoc]
    split
    · exact ih
    · rename_i h
      rw [List.pairwise_append]
      refine ⟨ih, List.pairwise_singleton _ _, fun a ha b hb => ?_⟩
      simp at hb; subst hb
      intro he
      exact h (List.any_eq_true.2 ⟨a, ha, same_iff.2 he.symm⟩)
theorem reps_len (P : List Fm) : (repsK κ P).length ≤ P.length := by
  have : ∀ (P R : List Fm), (P.foldl (fun R f => if R.any (fun g => sameK κ g f) then R else R ++ [f]) R).length ≤ R.length + P.length := by
    intro P
    induction P with
    | nil => intro R; simp
    | cons x P ih =>
      intro R
      simp only [List.foldl_cons, List.length_cons]
      split
      · have := ih R; omega
      · have := ih (R ++ [x]); rw [List.length_append, List.length_singleton] at this; omega
  have := this P []
  unfold repsK
  simpa using this
theorem grp_len (P A : List Fm) : (grpK κ P A).length = (repsK κ P).length := by unfold grpK; simp

/-- The first form of a part is f exactly if no earlier form has the key of f. -/
theorem head_first {L : List Fm} {k : Nat} (hk : k < L.length) (hf : (repsK κ (L.take k)).any (fun g => sameK κ g L[k]) = false) :
    ∃ T, L.filter (sameK κ L[k]) = L[k] :: T := by
  rw [reps_has] at hf
  have e : L = L.take k ++ (L[k] :: L.drop (k + 1)) := by rw [← List.drop_eq_getElem_cons hk, List.take_append_drop]
  generalize hx : L[k] = x at *
  rw [e, List.filter_append]
  have h0 : (L.take k).filter (sameK κ x) = [] := by
    rw [List.filter_eq_nil_iff]
    intro y hy hs
    have := List.any_eq_false.1 hf y hy
    apply this
    rw [same_iff] at *
    exact hs.symm
  rw [h0, List.nil_append, List.filter_cons, if_pos (same_iff.2 rfl)]
  exact ⟨_, rfl⟩
theorem head_not {L : List Fm} (hn : L.Pairwise (· ≠ ·)) {k : Nat} (hk : k < L.length) (hf : (repsK κ (L.take k)).any (fun g => sameK κ g L[k]) = true) :
    ∃ y T, L.filter (sameK κ L[k]) = y :: T ∧ y ≠ L[k] := by
  rw [reps_has] at hf
  obtain ⟨z, hz, hzk⟩ := List.any_eq_true.1 hf
  have e : L.filter (sameK κ L[k]) = (L.take k).filter (sameK κ L[k]) ++ (L.drop k).filter (sameK κ L[k]) := by rw [← List.filter_append, List.take_append_drop]
  have hm : z ∈ (L.take k).filter (sameK κ L[k]) := List.mem_filter.2 ⟨hz, by rw [same_iff] at *; exact hzk.symm⟩
  cases h : (L.take k).filter (sameK κ L[k]) with
  | nil => rw [h] at hm; simp at hm
  | cons y T =>
    rw [e, h]
    refine ⟨y, _, rfl, fun he => ?_⟩
    have hy : y ∈ L.take k := (List.mem_filter.1 (by rw [h]; simp : y ∈ (L.take k).filter (sameK κ L[k]))).1
    obtain ⟨j, hj, hjy⟩ := List.getElem_of_mem hy
    rw [List.length_take] at hj
    rw [List.getElem_take] at hjy
    exact List.pairwise_iff_getElem.1 hn j k (by omega) hk (by omega) (hjy.trans he)

/-- A form of a new part. -/
theorem grp_new {P : List Fm} {f : Fm} (h : (repsK κ P).any (fun g => sameK κ g f) = false) : grpK κ (P ++ [f]) (P ++ [f]) = grpK κ P P ++ [[f]] := by
  unfold grpK
  rw [reps_snoc, h, if_neg (by simp), List.map_append]
  have h1 : ∀ g ∈ repsK κ P, sameK κ g f = false := by
    intro g hg
    have := List.any_eq_false.1 h g hg
    simpa using this
  congr 1
  · refine List.map_congr_left fun g hg => ?_
    rw [List.filter_append, List.filter_cons, h1 g hg]
    simp
  · rw [reps_has] at h
    have h2 : P.filter (sameK κ f) = [] := by
      rw [List.filter_eq_nil_iff]
      intro y hy hs
      exact List.any_eq_false.1 h y hy (by rw [same_iff] at *; exact hs.symm)
    simp only [List.map_cons, List.map_nil, List.filter_append, h2, List.nil_append]
    rw [List.filter_cons, if_pos (same_iff.2 rfl)]
    rfl
/-- A form of the part i. -/
theorem grp_old {P : List Fm} {f : Fm} {i : Nat} (hi : i < (repsK κ P).length) (h : κ f = κ (repsK κ P)[i]) :
    grpK κ (P ++ [f]) (P ++ [f]) = (grpK κ P P).set i ((grpK κ P P).getD i [] ++ [f]) := by
  have hany : (repsK κ P).any (fun g => sameK κ g f) = true := List.any_eq_true.2 ⟨_, List.getElem_mem hi, same_iff.2 h⟩
  have hd := reps_dist (κ := κ) _ P rfl
  unfold grpK
  rw [reps_snoc, hany, if_pos rfl]
  refine List.ext_getElem (by simp) fun j h1 h2 => ?_
  simp only [List.length_map] at h1
  rw [List.getElem_map, List.filter_append, List.getElem_set]
  by_cases e : i = j
  · subst e
    rw [if_pos rfl, List.getD_eq_getElem?_getD, List.getElem?_map, List.getElem?_eq_getElem hi]
    simp only [Option.map_some, Option.getD_some]
    rw [List.filter_cons, if_pos (same_iff.2 h)]
    rfl
  · rw [if_neg e, List.getElem_map]
    have : sameK κ (repsK κ P)[j] f = false := by
      unfold sameK
      rw [decide_eq_false_iff_not, h]
      intro he
      rcases Nat.lt_or_gt_of_ne e with hlt | hlt
      · exact List.pairwise_iff_getElem.1 hd i j hi h1 hlt he
      · exact List.pairwise_iff_getElem.1 hd j i h1 hi hlt he.symm
    rw [List.filter_cons, this]
    simp
/-- The part i is not empty, and all its forms have the key of its first. -/
theorem grp_head {P : List Fm} {i : Nat} (hi : i < (repsK κ P).length) (hg : i < (grpK κ P P).length) : ∃ y T, (grpK κ P P)[i] = y :: T ∧ y ∈ P ∧ κ y = κ (repsK κ P)[i] := by
  have hm := reps_sub (κ := κ) _ P rfl _ (List.getElem_mem hi)
  have e : (grpK κ P P)[i] = P.filter (sameK κ (repsK κ P)[i]) := List.getElem_map (fun g => P.filter (sameK κ g))
  rw [e]
  have h2 : (repsK κ P)[i] ∈ P.filter (sameK κ (repsK κ P)[i]) := List.mem_filter.2 ⟨hm, same_iff.2 rfl⟩
  cases h : P.filter (sameK κ (repsK κ P)[i]) with
  | nil => rw [h] at h2; simp at h2
  | cons y T =>
    have := List.mem_filter.1 (by rw [h]; simp : y ∈ P.filter (sameK κ (repsK κ P)[i]))
    exact ⟨y, T, rfl, this.1, same_iff.1 this.2⟩
end
end

section
open Go.RowKit

/-- The genera of d. -/
noncomputable def genL (d : Int) : List (List Fm) := grpK (gnL d) (clsL d) (clsL d)
def RetN (G : List (List Fm)) (w : World) (e : Ending) (w' : World) : Prop := ∃ v, e = .returned v ∧ NestF w.heap.size G v w' ∧ Below w.heap.size w w'
def RetN2 (G : List (List Fm)) (ok : Bool) (w : World) (e : Ending) (w' : World) : Prop := ∃ v, e = .returned (.tuple #[v, .bool ok]) ∧ NestF w.heap.size G v w' ∧ Below w.heap.size w w'
theorem grp_take {κ : Fm → List Int} {L : List Fm} {k : Nat} (h : k < L.length) :
    grpK κ (L.take (k + 1)) L = grpK κ (L.take k) L ++ (if (repsK κ (L.take k)).any (fun g => sameK κ g L[k]) then [] else [L.filter (sameK κ L[k])]) := by
  unfold grpK
  rw [reps_take h]
  split <;> simp
def GneSt (κ : Fm → List Int) (L : List Fm) (B : Nat) (vl : Value) (w : World) (v vi : Value) (wr : World) : Prop :=
  ∃ k : Nat, vi = .int .i64 k ∧ k ≤ L.length ∧ NestF w.heap.size (grpK κ (L.take k) L) v wr ∧ wr.ownsRow B 35 3 vl L.length (cellsF L) ∧ Apart v vl ∧ Below w.heap.size w wr
/-- The first form of a list. -/
theorem own_elem0 {w : World} {B : Nat} {e : TypeId} {vl : Value} {y : Fm} {T : List Fm} (h : w.ownsRow B e 3 vl (y :: T).length (cellsF (y :: T))) :
    ∃ g cl, vl = .slice (some ⟨g, 0, none⟩) (T.length + 1) cl ∧ g < w.heap.size ∧ w.cell? ⟨g, 0, none⟩ = some (.int .i64 y.a) ∧ w.cell? ⟨g, 1, none⟩ = some (.int .i64 y.b) ∧ w.cell? ⟨g, 2, none⟩ = some (.int .i64 y.c) := by
  obtain ⟨base, cap, rfl⟩ := own_shape h
  obtain ⟨g, rfl, h2, h3⟩ := own_elem h (k := 0) (by simp)
  simp at h3
  exact ⟨g, cap, rfl, h2, h3⟩
theorem oneS (x : Value) (h : x.oneCell' = true := by rfl) : ∀ u ∈ ([x] : List Value), u.oneCell' = true := by
  intro u hu; simp at hu; subst hu; exact h
theorem gnP_same (d : Int) (f : Fm) : gnP d (gnL d f) = sameK (gnL d) f := rfl

/-- What GenusCount gives. -/
def GcN (d n : Int) (ok : Bool) : Prop := (isDisc d = false ∧ n = 0 ∧ ok = false) ∨ (isDisc d = true ∧ n = (genL d).length ∧ ok = true)
theorem gcN_ex (d : Int) : ∃ n ok, GcN d n ok := by
  cases hc : isDisc d with
  | false => exact ⟨_, _, .inl ⟨hc, rfl, rfl⟩⟩
  | true => exact ⟨_, _, .inr ⟨hc, rfl, rfl⟩⟩
end
end Go.Proofs.Ytbecjnmifdbnjaa
