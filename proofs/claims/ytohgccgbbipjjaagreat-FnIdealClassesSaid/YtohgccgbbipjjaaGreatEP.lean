/- Rows of points, and lists of points in their order. -/
import Derived.Test.YtohgccgbbipjjaaGreatN5
import Derived.Test.YtohgccgbbipjjaaGreatW4
import Derived.Test.YtohgccgbbipjjaaGreatN6
import Derived.Test.YtohgccgbbipjjaaGreatGG
namespace Go.Proofs.YtohgccgbbipjjaaGreat
open Go.RowKit

theorem infoPt : (Tryz.prog.info? 80).map (fun i => (i.zero, i.size, i.bytes)) = some (some (.agg #[.int .i64 0, .int .i64 0]), 2, 16) := by kernel_rfl
def cellsP (L : List (Int × Int)) : List Value := L.flatMap fun p => [.int .i64 p.1, .int .i64 p.2]
theorem cellsP_append (L K : List (Int × Int)) : cellsP (L ++ K) = cellsP L ++ cellsP K := by simp [cellsP]
theorem own_snocP {w : World} {B : Nat} {e : TypeId} {v : Value} {L K : List (Int × Int)} {p : Int × Int} (hx : K = L ++ [p]) (h : w.ownsRow B e 2 v (L.length + 1) (cellsP L ++ [.int .i64 p.1, .int .i64 p.2])) :
    w.ownsRow B e 2 v K.length (cellsP K) := by
  subst hx
  rw [List.length_append, cellsP_append]
  exact h
theorem cellsP_get : ∀ (L : List (Int × Int)) (i : Nat) (h : i < L.length), (cellsP L)[2 * i]? = some (.int .i64 L[i].1) ∧ (cellsP L)[2 * i + 1]? = some (.int .i64 L[i].2)
  | p :: L, 0, _ => by simp [cellsP]
  | p :: L, i + 1, h => by
    have ih := cellsP_get L i (by simpa using h)
    have e : cellsP (p :: L) = .int .i64 p.1 :: .int .i64 p.2 :: cellsP L := by simp [cellsP]
    rw [e, show 2 * (i + 1) = 2 * i + 2 by omega]
    simpa using ih
theorem own_elemP {w : World} {B : Nat} {e : TypeId} {base : Option Addr} {n cap : Nat} {L : List (Int × Int)} (h : w.ownsRow B e 2 (.slice base n cap) L.length (cellsP L)) {k : Nat} (hk : k < L.length) :
    ∃ g, base = some ⟨g, 0, none⟩ ∧ g < w.heap.size ∧ w.cell? ⟨g, k * 2, none⟩ = some (.int .i64 L[k].1) ∧ w.cell? ⟨g, k * 2 + 1, none⟩ = some (.int .i64 L[k].2) := by
  rcases own_form h with ⟨hv, h0⟩ | ⟨g, c, hv, h1, h2, h3⟩
  · omega
  · injection hv with e1 e2 e3
    obtain ⟨a, b⟩ := cellsP_get L k hk
    exact ⟨g, e1, h2, by rw [Nat.mul_comm]; exact h3 _ _ a, by rw [Nat.mul_comm]; exact h3 _ _ b⟩
theorem cellsP_cons (p : Int × Int) (L : List (Int × Int)) : cellsP (p :: L) = .int .i64 p.1 :: .int .i64 p.2 :: cellsP L := by simp [cellsP]
theorem cellsP_take : ∀ (L : List (Int × Int)) (k : Nat), (cellsP L).take (k * 2) = cellsP (L.take k)
  | [], k => by simp [cellsP]
  | p :: L, 0 => by simp [cellsP]
  | p :: L, k + 1 => by
    rw [cellsP_cons, List.take_succ_cons, cellsP_cons, show (k + 1) * 2 = k * 2 + 1 + 1 by omega, List.take_succ_cons, List.take_succ_cons, cellsP_take L k]
theorem cellsP_drop : ∀ (L : List (Int × Int)) (k : Nat), (cellsP L).drop (k * 2) = cellsP (L.drop k)
  | [], k => by simp [cellsP]
  | p :: L, 0 => by simp
  | p :: L, k + 1 => by
    rw [cellsP_cons, show (k + 1) * 2 = k * 2 + 1 + 1 by omega, List.drop_succ_cons, List.drop_succ_cons, List.drop_succ_cons, cellsP_drop L k]
theorem cellsP_one (L : List (Int × Int)) : ∀ u ∈ cellsP L, u.oneCell' = true := by
  intro u hu
  simp only [cellsP, List.mem_flatMap, List.mem_cons, List.not_mem_nil, or_false] at hu
  obtain ⟨p, _, rfl | rfl⟩ := hu <;> rfl
theorem readsP_take {w : World} {B g : Nat} {L : List (Int × Int)} (h : Reads w B 2 (some ⟨g, 0, none⟩) L.length (cellsP L)) {k : Nat} (hk : k ≤ L.length) : Reads w B 2 (some ⟨g, 0, none⟩) k (cellsP (L.take k)) := by
  have := readsTake h hk
  rw [cellsP_take] at this; exact this
theorem readsP_drop {w : World} {B g : Nat} {L : List (Int × Int)} (h : Reads w B 2 (some ⟨g, 0, none⟩) L.length (cellsP L)) {k cap : Nat} (hk : k ≤ L.length) (hc : L.length ≤ cap) : Reads w B 2 (if cap = k then some ⟨g, 0, none⟩ else some ⟨g, k * 2, none⟩) (L.length - k) (cellsP (L.drop k)) := by
  have := h.cut hk hc
  rw [cellsP_drop] at this
  simp only [Option.map_some, add_zero_blk] at this
  exact this
def insP (L : List (Int × Int)) (p : Int × Int) (k : Nat) : List (Int × Int) := L.take k ++ p :: L.drop k
theorem insP_perm (L : List (Int × Int)) (p : Int × Int) (k : Nat) : (insP L p k).Perm (p :: L) := by
  unfold insP
  have h := (List.perm_middle (a := p) (l₁ := L.take k) (l₂ := L.drop k))
  rw [List.take_append_drop] at h
  exact h
theorem insP_len (L : List (Int × Int)) (p : Int × Int) (k : Nat) : (insP L p k).length = L.length + 1 := (insP_perm L p k).length_eq
/-- A list of points in new memory. -/
def RetPs (L : List (Int × Int)) (w : World) (e : Ending) (w' : World) : Prop := ∃ v, e = .returned v ∧ w'.ownsRow w.heap.size 80 2 v L.length (cellsP L) ∧ Below w.heap.size w w'
end Go.Proofs.YtohgccgbbipjjaaGreat
