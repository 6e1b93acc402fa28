/- Contracts: sort.Ints over an owned list; a map from ints to bools as a set; lists without repetition, sorted. -/
import Derived.Test.YtdhennlanngjgaaSh
import Derived.Test.YtdhennlanngjgaaN5
import Derived.Test.YtdhennlanngjgaaKV
import Derived.Test.YtdhennlanngjgaaKT
import Derived.Sort.OwnSortedInts
namespace Go.Proofs.Ytdhennlanngjgaa
open Go.RowKit Go.Sort Go.Maps

theorem cellsI_map : ∀ L : List Int, cellsI L = L.map (Value.int .i64)
  | [] => rfl
  | x :: L => by
    have := cellsI_map L
    simp [cellsI] at this ⊢
/-- The sorted list. -/
def srt (L : List Int) : List Int := L.mergeSort fun x y => decide (x ≤ y)
theorem srt_len (L : List Int) : (srt L).length = L.length := List.length_mergeSort _
theorem sortInts_any (L : List Int) (v : Value) (B : Nat) (w : World) (hB : B ≤ w.heap.size) (hl : L.length ≤ 10000000) (h0 : 0 < L.length) (ho : w.ownsRow B 3 1 v L.length (cellsI L)) :
    Calls Try.prog 51 #[v] w fun e w' => e = .returned (.tuple #[]) ∧ w'.ownsRow B 3 1 v L.length (cellsI (srt L)) ∧ Below B w w' := by
  rcases ho.2 with ⟨_, hn⟩ | ⟨g, cap, cur, rfl, hbg, hg, hnc, hcm, hcs, htake⟩
  · omega
  · have hlt : g < w.heap.size := (Array.getElem?_eq_some_iff.1 hg).1
    rw [Nat.mul_one] at htake
    have hH := holds_of_blockI (ss := L) hg (by rw [← cellsI_map]; exact htake)
    refine (Try.sort_Ints g 0 cap L w hH hlt (by omega)).mono ?_
    rintro e w' ⟨rfl, n, os, rfl⟩
    refine ⟨rfl, ?_, ?_⟩
    · have := ownsRow_sortedI (n := n) (os := os) (ss := L) (ts := srt L) (srt_len L) hbg hg hnc hcm hcs
      rw [← cellsI_map] at this
      exact this
    · exact (Below.refl B w).grown (grownBy_sortedI _) hB (fun k hk => by injection hk with hk; omega)

/-- The keys that are ints. -/
theorem law_SO : Keyed Try.prog 3 := int_keyed Try.underlying3
/-- The datum of a map is the set of the ints that p tells. -/
def SetI (D : DataW Unit) (p : Int → Bool) : Prop := IsMap D ∧ ∀ x, (Lit.int .i64 x).wf = true → D.atKey (.int .i64 x) (.lit (.bool false)) = .lit (.bool (p x))
theorem SetI.made : SetI (.map []) (fun _ => false) := ⟨isMap_empty, fun _ _ => rfl⟩
theorem SetI.put {D : DataW Unit} {p : Int → Bool} (h : SetI D p) {g : Int} (hg : (Lit.int .i64 g).wf = true) : SetI (D.put (.int .i64 g) (.lit (.bool true))) (fun x => p x || decide (x = g)) := by
  have hk : WideAt.IsKeyLit (.int .i64 g) := law_SO.key (keyOf_int_mk Try.underlying3 hg)
  refine ⟨h.1.put _ _, fun x hx => ?_⟩
  by_cases e : x = g
  · subst e
    exact (atKey_put_same h.1 hk _ _).trans (by simp)
  · have e2 : (Lit.int .i64 x) ≠ .int .i64 g := fun he => e (by injection he)
    exact (atKey_put_other e2 _ _).trans ((h.2 x hx).trans (by simp [e]))

/-- A list without repetition. -/
def addN (P : List Int) (x : Int) : List Int := if x ∈ P then P else P ++ [x]
theorem addN_mem {P : List Int} {x y : Int} : y ∈ addN P x ↔ y ∈ P ∨ y = x := by
  unfold addN
  split
  · rename_i h
    constructor
    · exact .inl
    · rintro (h1 | rfl)
      · exact h1
      · exact h
  · simp
theorem addN_nd {P : List Int} (h : P.Nodup) (x : Int) : (addN P x).Nodup := by
  unfold addN
  split
  · exact h
  · rename_i hx
    rw [List.nodup_append]
    exact ⟨h, by simp, fun a ha b hb => by simp at hb; subst hb; exact fun e => hx (e ▸ ha)⟩
theorem foldN_ok : ∀ (T P : List Int), P.Nodup → (T.foldl addN P).Nodup ∧ ∀ y, y ∈ T.foldl addN P ↔ y ∈ P ∨ y ∈ T
  | [], P, h => ⟨h, fun y => by simp⟩
  | x :: T, P, h => by
    obtain ⟨h1, h2⟩ := foldN_ok T (addN P x) (addN_nd h x)
    refine ⟨h1, fun y => ?_⟩
    rw [List.foldl_cons, h2, addN_mem, List.mem_cons, or_assoc]
theorem foldN_len : ∀ (T P : List Int), (T.foldl addN P).length ≤ P.length + T.length
  | [], P => by simp
  | x :: T, P => by
    have := foldN_len T (addN P x)
    have h2 : (addN P x).length ≤ P.length + 1 := by unfold addN; split <;> simp
    simp only [List.foldl_cons, List.length_cons]
    omega
theorem foldPut_ok : ∀ (T P : List Int), P.Pairwise (· < ·) → (T.foldl putI P).Pairwise (· < ·) ∧ ∀ y, y ∈ T.foldl putI P ↔ y ∈ P ∨ y ∈ T
  | [], P, h => ⟨h, fun y => by simp⟩
  | x :: T, P, h => by
    obtain ⟨h1, h2⟩ := foldPut_ok T (putI P x) (sorted_putI P h)
    refine ⟨h1, fun y => ?_⟩
    rw [List.foldl_cons, h2, mem_putI, List.mem_cons, or_assoc]
theorem srt_mem {L : List Int} {x : Int} : x ∈ srt L ↔ x ∈ L := (List.mergeSort_perm L _).mem_iff
theorem srt_lt {L : List Int} (h : L.Nodup) : (srt L).Pairwise (· < ·) := by
  have h1 : (srt L).Pairwise (fun x y => decide (x ≤ y) = true) := List.pairwise_mergeSort (fun a b c hab hbc => by simp at hab hbc ⊢; omega) (fun a b => by simp; omega) L
  have h2 : (srt L).Nodup := (List.mergeSort_perm L _).nodup_iff.2 h
  refine List.Pairwise.imp ?_ (h1.and h2)
  intro a b hab
  have := of_decide_eq_true hab.1
  have := hab.2
  omega
/-- Sorted behind the collection, or put in order from the first: the same list. -/
theorem srt_put (T : List Int) : srt (T.foldl addN []) = T.foldl putI [] := by
  obtain ⟨h1, h2⟩ := foldN_ok T [] List.nodup_nil
  obtain ⟨h3, h4⟩ := foldPut_ok T [] List.Pairwise.nil
  exact sorted_uniq _ _ (srt_lt h1) h3 (fun x => by rw [srt_mem, h2, h4])
theorem foldN_take {T : List Int} {k : Nat} (h : k < T.length) : (T.take (k + 1)).foldl addN [] = addN ((T.take k).foldl addN []) T[k] := by
  rw [List.take_succ_eq_append_getElem h, List.foldl_append]; rfl
theorem foldPut_take {T : List Int} {k : Nat} (h : k < T.length) : (T.take (k + 1)).foldl putI [] = putI ((T.take k).foldl putI []) T[k] := by
  rw [List.take_succ_eq_append_getElem h, List.foldl_append]; rfl
end Go.Proofs.Ytdhennlanngjgaa
