/- Contracts: l1Put, a sorted insertion. -/
import Derived.Test.YtblcmkhkbgikoaaGreatN5
import Derived.Test.YtblcmkhkbgikoaaGreatW4
namespace Go.Proofs.YtblcmkhkbgikoaaGreat
open Go.RowKit

def putI : List Int → Int → List Int
  | [], n => [n]
  | x :: L, n => if x < n then x :: putI L n else if x = n then x :: L else n :: x :: L
theorem putI_at : ∀ (L : List Int) (n : Int) (k : Nat), k ≤ L.length → (∀ j (h : j < L.length), j < k → L[j] < n) → (∀ h : k < L.length, ¬ L[k] < n) →
    ((∃ h : k < L.length, L[k] = n) ∧ putI L n = L) ∨ ((∀ h : k < L.length, ¬ L[k] = n) ∧ putI L n = L.take k ++ [n] ++ L.drop k)
  | [], n, k, hk, _, _ => by
    obtain rfl : k = 0 := by simpa using hk
    exact .inr ⟨fun h => absurd h (by simp), by simp [putI]⟩
  | x :: L, n, 0, _, _, h2 => by
    have h3 := h2 (by simp)
    simp only [List.getElem_cons_zero] at h3
    by_cases he : x = n
    · exact .inl ⟨⟨by simp, he⟩, by simp [putI, he]⟩
    · exact .inr ⟨fun _ => he, by simp [putI, h3, he]⟩
  | x :: L, n, k + 1, hk, h1, h2 => by
    have hx : x < n := by have := h1 0 (by simp) (by omega); simpa using this
    have ih := putI_at L n k (by simpa using hk) (fun j h hj => by have := h1 (j + 1) (by simpa using h) (by omega); simpa using this) (fun h => by have := h2 (by simpa using h); simpa using this)
    rcases ih with ⟨⟨h, he⟩, e⟩ | ⟨h, e⟩
    · exact .inl ⟨⟨by simpa using h, by simpa using he⟩, by rw [putI, if_pos hx, e]⟩
    · exact .inr ⟨fun h' => by have := h (by simpa using h'); simpa using this, by rw [putI, if_pos hx, e]; simp⟩
theorem cellsI_one (L : List Int) : ∀ u ∈ cellsI L, u.oneCell' = true := by
  intro u hu
  simp only [cellsI, List.mem_map] at hu
  obtain ⟨x, _, rfl⟩ := hu
  rfl
theorem cellsI_take (L : List Int) (k : Nat) : (cellsI L).take k = cellsI (L.take k) := by simp [cellsI]
theorem cellsI_drop (L : List Int) (k : Nat) : (cellsI L).drop k = cellsI (L.drop k) := by simp [cellsI]

theorem readsTake {w : World} {B size n : Nat} {A : Option Addr} {xs : List Value} (h : Reads w B size A n xs) {k : Nat} (hk : k ≤ n) : Reads w B size A k (xs.take (k * size)) := by
  refine ⟨by rw [List.length_take, h.1]; exact Nat.min_eq_left (Nat.mul_le_mul_right _ hk), fun h0 => ?_⟩
  obtain ⟨ad, e, hb, hc⟩ := h.2 (by omega)
  exact ⟨ad, e, hb, fun j u hu => hc j u (by rw [List.getElem?_take] at hu; split at hu <;> simp_all)⟩
theorem readsI_take {w : World} {B g : Nat} {L : List Int} (h : Reads w B 1 (some ⟨g, 0, none⟩) L.length (cellsI L)) {k : Nat} (hk : k ≤ L.length) : Reads w B 1 (some ⟨g, 0, none⟩) k (cellsI (L.take k)) := by
  have := readsTake h hk
  rw [Nat.mul_one, cellsI_take] at this; exact this
theorem add_zero_blk (g k : Nat) : (⟨g, 0, none⟩ : Addr).add k = ⟨g, k, none⟩ := by unfold Addr.add; split <;> simp_all
theorem readsI_drop {w : World} {B g : Nat} {L : List Int} (h : Reads w B 1 (some ⟨g, 0, none⟩) L.length (cellsI L)) {k cap : Nat} (hk : k ≤ L.length) (hc : L.length ≤ cap) : Reads w B 1 (if cap = k then some ⟨g, 0, none⟩ else some ⟨g, k, none⟩) (L.length - k) (cellsI (L.drop k)) := by
  have := h.cut hk hc
  rw [Nat.mul_one, cellsI_drop] at this
  simp only [Option.map_some, add_zero_blk] at this
  exact this

/-- What l1Put leaves. -/
def RetPut (L : List Int) (B : Nat) (v : Value) (w : World) (e : Ending) (w' : World) : Prop :=
  ∃ v', e = .returned v' ∧ w'.ownsRow B 3 1 v' L.length (cellsI L) ∧ (∀ k, v'.ownBlock = some k → v.ownBlock = some k ∨ w.heap.size ≤ k) ∧ Below w.heap.size w w'

end Go.Proofs.YtblcmkhkbgikoaaGreat
