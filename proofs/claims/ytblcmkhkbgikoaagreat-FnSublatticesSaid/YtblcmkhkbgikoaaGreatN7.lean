/- Contracts: the different prime factors. -/
import Derived.Test.YtblcmkhkbgikoaaGreatN6
namespace Go.Proofs.YtblcmkhkbgikoaaGreat
open Go.RowKit

theorem foldl_take {g : List Int → Int → List Int} {F : List Int} {k : Nat} (h : k < F.length) : (F.take (k + 1)).foldl g [] = g ((F.take k).foldl g []) F[k] := by
  rw [List.take_succ_eq_append_getElem h, List.foldl_append]; rfl
/-- Strictly ascending. -/
def SAsc : List Int → Prop
  | [] => True
  | x :: L => (∀ y ∈ L, x < y) ∧ SAsc L
theorem put_add : ∀ (P : List Int) (f : Int), (∀ y ∈ P, y ≤ f) → SAsc P → putI P f = addD P f
  | [], f, _, _ => by simp [putI, addD]
  | x :: L, f, h, hs => by
    have hx := h x (by simp)
    by_cases hlt : x < f
    · have ih := put_add L f (fun y hy => h y (by simp [hy])) hs.2
      rw [putI, if_pos hlt, ih]
      unfold addD
      cases L with
      | nil => simp; omega
      | cons y L =>
        rw [List.getLast?_cons_cons]
        split <;> simp
    · have he : x = f := by omega
      subst he
      have hL : L = [] := by
        cases L with
        | nil => rfl
        | cons y L =>
          have h1 := hs.1 y (by simp)
          have h2 := h y (by simp)
          omega
      subst hL
      simp [putI, addD]
theorem sasc_snoc : ∀ (P : List Int) (f : Int), (∀ y ∈ P, y < f) → SAsc P → SAsc (P ++ [f])
  | [], _, _, _ => ⟨by simp, trivial⟩
  | x :: L, f, h, hs => by
    refine ⟨?_, sasc_snoc L f (fun y hy => h y (by simp [hy])) hs.2⟩
    intro y hy
    simp at hy
    rcases hy with hy | rfl
    · exact hs.1 y hy
    · exact h x (by simp)
theorem sasc_last : ∀ (P : List Int) (f : Int), SAsc P → (∀ y ∈ P, y ≤ f) → P.getLast? ≠ some f → ∀ y ∈ P, y < f
  | [], _, _, _, _ => by simp
  | [x], f, _, h, hl => by
    intro y hy
    simp at hy hl
    subst hy
    have := h y (by simp)
    omega
  | x :: z :: L, f, hs, h, hl => by
    rw [List.getLast?_cons_cons] at hl
    have ih := sasc_last (z :: L) f hs.2 (fun y hy => h y (by simp at hy ⊢; exact .inr hy)) hl
    intro y hy
    simp only [List.mem_cons] at hy
    rcases hy with rfl | hy
    · have h1 := hs.1 z (by simp)
      have h2 := ih z (by simp)
      omega
    · exact ih y (by simpa using hy)
theorem add_ok {P : List Int} {f : Int} (hs : SAsc P) (h : ∀ y ∈ P, y ≤ f) : SAsc (addD P f) ∧ ∀ y ∈ addD P f, y ≤ f := by
  unfold addD
  split
  · exact ⟨hs, h⟩
  · rename_i hl
    refine ⟨sasc_snoc P f (sasc_last P f hs h hl) hs, ?_⟩
    intro y hy
    simp at hy
    rcases hy with hy | rfl
    · exact h y hy
    · exact Int.le_refl _
theorem fold_eq : ∀ (F P : List Int), Asc F → (∀ y ∈ P, ∀ f ∈ F, y ≤ f) → SAsc P → F.foldl putI P = F.foldl addD P ∧ SAsc (F.foldl addD P)
  | [], P, _, _, hs => ⟨rfl, hs⟩
  | f :: F, P, ha, h, hs => by
    have hp := fun y hy => h y hy f (by simp)
    obtain ⟨s1, s2⟩ := add_ok hs hp
    simp only [List.foldl_cons]
    rw [put_add P f hp hs]
    exact fold_eq F (addD P f) ha.2 (fun y hy g hg => by have := s2 y hy; have := ha.1 g hg; omega) s1
/-- The different prime factors. -/
def prims (n : Int) : List Int := (facL n).foldl addD []
theorem prims_eq {n : Int} (hn : 1 ≤ n) : (facL n).foldl putI [] = prims n := by
  have := (fac_ge (4 * n + 20000).toNat false 2 n (by omega) hn (fun q h1 h2 _ => by omega)).2
  exact (fold_eq (facL n) [] this (by simp) trivial).1
theorem addD_len (P : List Int) (f : Int) : (addD P f).length ≤ P.length + 1 := by unfold addD; split <;> simp
theorem fold_len : ∀ (F P : List Int), (F.foldl addD P).length ≤ P.length + F.length
  | [], P => by simp
  | f :: F, P => by
    have h1 := fold_len F (addD P f)
    have h2 := addD_len P f
    simp only [List.foldl_cons, List.length_cons]; omega
theorem putI_len : ∀ (P : List Int) (f : Int), (putI P f).length ≤ P.length + 1
  | [], _ => by simp [putI]
  | x :: P, f => by
    unfold putI
    split
    · have := putI_len P f; simp; omega
    · split <;> simp
theorem foldp_len : ∀ (F P : List Int), (F.foldl putI P).length ≤ P.length + F.length
  | [], P => by simp
  | f :: F, P => by
    have h1 := foldp_len F (putI P f)
    have h2 := putI_len P f
    simp only [List.foldl_cons, List.length_cons]; omega

/-- The state of a loop over a list of integers that makes another list. -/
def IntSt (g : List Int → Int → List Int) (F : List Int) (B : Nat) (vl : Value) (w : World) (v vi : Value) (wr : World) : Prop :=
  ∃ k : Nat, vi = .int .i64 k ∧ k ≤ F.length ∧ wr.ownsRow w.heap.size 3 1 v ((F.take k).foldl g []).length (cellsI ((F.take k).foldl g [])) ∧ wr.ownsRow B 3 1 vl F.length (cellsI F) ∧ Apart v vl ∧ Below w.heap.size w wr

end Go.Proofs.YtblcmkhkbgikoaaGreat
