/- Words for slices of integers; contracts: the prime factors. -/
import Derived.Test.YtblcmkhkbgikoaaGreatNA
import Derived.Test.YtblcmkhkbgikoaaGreatGG
namespace Go.Proofs.YtblcmkhkbgikoaaGreat
open Go.RowKit

def cellsI (L : List Int) : List Value := L.map (.int .i64)
theorem cellsI_append (L K : List Int) : cellsI (L ++ K) = cellsI L ++ cellsI K := by simp [cellsI]
theorem cellsI_len (L : List Int) : (cellsI L).length = L.length := by simp [cellsI]
theorem cellsI_get (L : List Int) (i : Nat) (h : i < L.length) : (cellsI L)[i]? = some (.int .i64 L[i]) := by simp [cellsI, h]
theorem infoInt : (Tryz.prog.info? 3).map (fun i => (i.zero, i.size, i.bytes)) = some (some (.int .i64 0), 1, 8) := by kernel_rfl
/-- A list of integers in new memory. -/
def OwnI (L : List Int) (w : World) (v : Value) (w' : World) : Prop := w'.ownsRow w.heap.size 3 1 v L.length (cellsI L) ∧ Below w.heap.size w w'
def RetI (L : List Int) (w : World) (e : Ending) (w' : World) : Prop := ∃ v, e = .returned v ∧ OwnI L w v w'
theorem own_snocI {w : World} {B : Nat} {e : TypeId} {v : Value} {L K : List Int} {x : Int} (hx : K = L ++ [x]) (h : w.ownsRow B e 1 v (L.length + 1) (cellsI L ++ [.int .i64 x])) :
    w.ownsRow B e 1 v K.length (cellsI K) := by
  subst hx
  rw [List.length_append, cellsI_append]
  exact h
/-- The element k of an owned list of integers. -/
theorem own_elemI {w : World} {B : Nat} {e : TypeId} {base : Option Addr} {n cap : Nat} {L : List Int} (h : w.ownsRow B e 1 (.slice base n cap) L.length (cellsI L)) {k : Nat} (hk : k < L.length) :
    ∃ g, base = some ⟨g, 0, none⟩ ∧ g < w.heap.size ∧ w.cell? ⟨g, k, none⟩ = some (.int .i64 L[k]) := by
  rcases own_form h with ⟨hv, h0⟩ | ⟨g, c, hv, h1, h2, h3⟩
  · omega
  · injection hv with e1 e2 e3
    exact ⟨g, e1, h2, h3 _ _ (cellsI_get L k hk)⟩

theorem p_bd {p n : Int} (h0 : 0 ≤ p) (h : p * p ≤ n) (hn : n ≤ 64000000) : p ≤ 8000 := by
  apply Int.not_lt.1; intro hl
  have := Int.mul_le_mul (show (8001 : Int) ≤ p by omega) (show (8001 : Int) ≤ p by omega) (by omega) (by omega)
  omega
def facL (n : Int) : List Int := fac (4 * n + 20000).toNat false 2 n
/-- The state of the outer loop: T is the whole list. -/
def FacSt (T : List Int) (w : World) (vn v vp : Value) (wr : World) : Prop :=
  ∃ (k : Nat) (L : List Int) (p n : Int), vp = .int .i64 p ∧ vn = .int .i64 n ∧ (2 ≤ p ∧ p ≤ 8010) ∧ (1 ≤ n ∧ n ≤ 64000000) ∧ Hid (L ++ fac k false p n = T) ∧ Hid (4 * n + 2 * (10000 - p) < k) ∧ wr.ownsRow w.heap.size 3 1 v L.length (cellsI L) ∧ Below w.heap.size w wr
/-- The state of the inner loop. -/
def FacIn (T : List Int) (p n0 : Int) (w : World) (vn v : Value) (wr : World) : Prop :=
  ∃ (k : Nat) (L : List Int) (n : Int), vn = .int .i64 n ∧ (1 ≤ n ∧ n ≤ n0) ∧ Hid (L ++ fac k true p n = T) ∧ Hid (4 * n + 2 * (10000 - p) ≤ k) ∧ wr.ownsRow w.heap.size 3 1 v L.length (cellsI L) ∧ Below w.heap.size w wr
theorem fac_out {k : Nat} {p n : Int} (hk : 0 < k) (h : p * p ≤ n) : fac k false p n = fac (k - 1) true p n := by
  obtain ⟨j, rfl⟩ : ∃ j, k = j + 1 := ⟨k - 1, by omega⟩
  rw [fac, if_pos h]; rfl
theorem fac_end1 {k : Nat} {p n : Int} (hk : 0 < k) (h : ¬ p * p ≤ n) (hn : 1 < n) : fac k false p n = [n] := by
  obtain ⟨j, rfl⟩ : ∃ j, k = j + 1 := ⟨k - 1, by omega⟩
  rw [fac, if_neg h, if_pos hn]
theorem fac_end0 {k : Nat} {p n : Int} (hk : 0 < k) (h : ¬ p * p ≤ n) (hn : ¬ 1 < n) : fac k false p n = [] := by
  obtain ⟨j, rfl⟩ : ∃ j, k = j + 1 := ⟨k - 1, by omega⟩
  rw [fac, if_neg h, if_neg hn]
theorem fac_in1 {k : Nat} {p n : Int} (hk : 0 < k) (h : n % p = 0) : fac k true p n = p :: fac (k - 1) true p (n / p) := by
  obtain ⟨j, rfl⟩ : ∃ j, k = j + 1 := ⟨k - 1, by omega⟩
  rw [fac, if_pos h]; rfl
theorem fac_in0 {k : Nat} {p n : Int} (hk : 0 < k) (h : ¬ n % p = 0) : fac k true p n = fac (k - 1) false (p + 1) n := by
  obtain ⟨j, rfl⟩ : ∃ j, k = j + 1 := ⟨k - 1, by omega⟩
  rw [fac, if_neg h]; rfl
theorem div_lt {n p : Int} (hn : 1 ≤ n) (hp : 2 ≤ p) (h : n % p = 0) : 1 ≤ n / p ∧ 2 * (n / p) ≤ n := by
  have e := Int.emod_add_mul_ediv n p
  rw [h] at e
  have h0 : 0 ≤ n / p := Int.ediv_nonneg (by omega) (by omega)
  have h2 : 2 * (n / p) ≤ p * (n / p) := Int.mul_le_mul_of_nonneg_right hp h0
  refine ⟨?_, by omega⟩
  apply Int.not_lt.1; intro hl
  have : n / p = 0 := by omega
  rw [this] at e; simp at e; omega
theorem fac_pow : ∀ (k : Nat) (b : Bool) (p n : Int), 2 ≤ p → 1 ≤ n → ((2 ^ (fac k b p n).length : Nat) : Int) ≤ n
  | 0, _, _, _, _, _ => by simp [fac]; omega
  | k + 1, false, p, n, hp, hn => by
    unfold fac
    split
    · exact fac_pow k true p n hp hn
    · split
      · simp; omega
      · simp; omega
  | k + 1, true, p, n, hp, hn => by
    unfold fac
    split
    · rename_i h
      obtain ⟨q1, q2⟩ := div_lt hn hp h
      have ih := fac_pow k true p (n / p) hp q1
      rw [List.length_cons, Nat.pow_succ]
      omega
    · exact fac_pow k false (p + 1) n (by omega) hn
theorem facL_len (n : Int) (hn : n ≤ 64000000) : (facL n).length ≤ 100 := by
  by_cases h1 : 1 ≤ n
  · have h := fac_pow (4 * n + 20000).toNat false 2 n (by omega) h1
    unfold facL
    apply Nat.le_of_not_lt; intro hl
    have h2 := Nat.pow_le_pow_right (show 2 > 0 by omega) (show 30 ≤ (fac (4 * n + 20000).toNat false 2 n).length by omega)
    have h3 : (2 : Nat) ^ 30 = 1073741824 := by decide
    omega
  · have e : fac (4 * n + 20000).toNat false 2 n = [] := by
      cases (4 * n + 20000).toNat with
      | zero => rfl
      | succ k => rw [fac, if_neg (by omega), if_neg (by omega)]
    unfold facL; rw [e]; simp

end Go.Proofs.YtblcmkhkbgikoaaGreat
