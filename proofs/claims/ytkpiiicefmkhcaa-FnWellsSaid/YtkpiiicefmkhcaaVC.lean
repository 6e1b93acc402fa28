/- Contract: the turns of a reduced form, of the program (written by gen_VC.py). -/
import Derived.Test.YtkpiiicefmkhcaaVB
namespace Go.Proofs.Ytkpiiicefmkhcaa
open Go.RowKit

/-- The cells of a block that is read while a row grows. -/
theorem view_keep {W w' : World} {B n g0 : Nat} {e : TypeId} {v : Value} {xs tc : List Value} (hk : w'.ownsRow B e 4 v n xs) (hg : W.grownBy w' v.ownBlock) (hlt : g0 < W.heap.size) (hpre : ∀ (j : Nat) (u : Value), tc[j]? = some u → xs[j]? = some u)
    (hc : ∀ (j : Nat) (u : Value), tc[j]? = some u → W.cell? ⟨g0, j, none⟩ = some u) : ∀ (j : Nat) (u : Value), tc[j]? = some u → w'.cell? ⟨g0, j, none⟩ = some u := by
  intro j u hu
  by_cases hb : v.ownBlock = some g0
  · have := hk.cells hb j u (hpre j u hu)
    have e : ((⟨g0, 0, none⟩ : Addr).add j) = ⟨g0, j, none⟩ := by unfold Addr.add; split <;> simp_all
    rw [e] at this; exact this
  · rw [World.cell?_of_block (hg.block g0 hlt (fun e => hb e.symm))]
    exact hc j u hu
theorem pre_cellsM (T K : List M4) : ∀ (j : Nat) (u : Value), (cellsM T)[j]? = some u → (cellsM (T ++ K))[j]? = some u := by
  intro j u hu
  rw [cellsM_append, List.getElem?_append_left (by rw [List.getElem?_eq_some_iff] at hu; exact hu.1)]
  exact hu
theorem one8m : ∀ u ∈ ([.int .i64 0, .int .i64 (-1), .int .i64 1, .int .i64 1, .int .i64 1, .int .i64 1, .int .i64 (-1), .int .i64 0] : List Value), u.oneCell' = true := by
  intro u hu
  simp only [List.mem_cons, List.not_mem_nil, or_false] at hu
  rcases hu with rfl | rfl | rfl | rfl | rfl | rfl | rfl | rfl <;> rfl
def smT (T : List M4) : Prop := ∀ m ∈ T, (-1 ≤ m.p ∧ m.p ≤ 1) ∧ (-1 ≤ m.q ∧ m.q ≤ 1) ∧ (-1 ≤ m.r ∧ m.r ≤ 1) ∧ (-1 ≤ m.s ∧ m.s ≤ 1)
theorem row_cells {w : World} {B n m g : Nat} {e : TypeId} {sz c : Nat} {xs : List Value} (h : w.ownsRow B e sz (.slice (some ⟨g, 0, none⟩) n c) m xs) : ∀ (j : Nat) (u : Value), xs[j]? = some u → w.cell? ⟨g, j, none⟩ = some u := by
  intro j u hu
  have := h.cells (g := g) rfl j u hu
  have e : ((⟨g, 0, none⟩ : Addr).add j) = ⟨g, j, none⟩ := by unfold Addr.add; split <;> simp_all
  rw [e] at this; exact this
theorem tn_start {w : World} {B : Nat} {e : TypeId} {v : Value} {T : List M4} (h : w.ownsRow B e 4 v T.length (cellsM T)) : w.ownsRow B e 4 v (T ++ (T.take 0).map M4.neg).length (cellsM (T ++ (T.take 0).map M4.neg)) := by
  rw [List.take_zero, List.map_nil, List.append_nil]; exact h
theorem tn_next {T : List M4} {k : Nat} (h : k < T.length) : T ++ (T.take (k + 1)).map M4.neg = (T ++ (T.take k).map M4.neg) ++ [⟨-T[k].p, -T[k].q, -T[k].r, -T[k].s⟩] := by
  rw [List.take_succ_eq_append_getElem h, List.map_append, ← List.append_assoc]; rfl
theorem cell_al2 {w : World} {o1 o2 : Obj} {g j : Nat} (h : g < w.heap.size) : ((w.alloc o1).alloc o2).cell? ⟨g, j, none⟩ = w.cell? ⟨g, j, none⟩ := by
  rw [World.cell?_of_block (w := w.alloc o1) ((World.grownBy_alloc (w.alloc o1) o2 none).block g (by simp; omega) (by simp)), World.cell?_of_block (w := w) ((World.grownBy_alloc w o1 none).block g h (by simp))]
theorem own_some {w : World} {B : Nat} {e : TypeId} {sz : Nat} {v : Value} {n : Nat} {xs : List Value} (h : w.ownsRow B e sz v n xs) (hn : n ≠ 0) : ∃ g cap, v = .slice (some ⟨g, 0, none⟩) n cap ∧ B ≤ g ∧ g < w.heap.size ∧ n ≤ cap := by
  rcases h.2 with ⟨_, h0⟩ | ⟨g, cap, cur, rfl, hbg, hg, hnc, _⟩
  · exact absurd h0 hn
  · exact ⟨g, cap, rfl, hbg, (Array.getElem?_eq_some_iff.1 hg).1, hnc⟩
theorem blk_news {w : World} {g : Nat} {e : TypeId} {cs : List Value} (h : Blk w g e cs.toArray) : ∀ (j : Nat) (u : Value), cs[j]? = some u → w.cell? ((⟨g, 0, none⟩ : Addr).add j) = some u := by
  intro j u hu
  have e : ((⟨g, 0, none⟩ : Addr).add j) = ⟨g, j, none⟩ := by unfold Addr.add; split <;> simp_all
  rw [e, h.cell j]
  simpa using hu
theorem smT_1 : smT [M4.one, ⟨0, -1, 1, 0⟩] := by intro m hm; simp at hm; rcases hm with rfl | rfl <;> simp [M4.one]
theorem smT_2 : smT [M4.one, ⟨0, -1, 1, 1⟩, ⟨1, 1, -1, 0⟩] := by intro m hm; simp at hm; rcases hm with rfl | rfl | rfl <;> simp [M4.one]
theorem smT_3 : smT [M4.one] := by intro m hm; simp at hm; subst hm; simp [M4.one]
theorem own_blk4 {w : World} {g : Nat} {e : TypeId} {a b c d : Value} (h : Blk w g e #[a, b, c, d]) : w.ownsRow g e 4 (.slice (some ⟨g, 0, none⟩) 1 1) 1 [a, b, c, d] :=
  ⟨rfl, .inr ⟨g, 1, #[a, b, c, d], rfl, Nat.le_refl _, h, Nat.le_refl _, by decide, rfl, rfl⟩⟩
/-- The state of the loop: T the list as it is read (in the block g0), k of its matrices are through. -/
def TnSt (T : List M4) (g0 : Nat) (w : World) (v vi : Value) (wr : World) : Prop :=
  ∃ k : Nat, vi = .int .i64 k ∧ k ≤ T.length ∧ wr.ownsRow w.heap.size 49 4 v (T ++ (T.take k).map M4.neg).length (cellsM (T ++ (T.take k).map M4.neg)) ∧ Hid (∀ (j : Nat) (u : Value), (cellsM T)[j]? = some u → wr.cell? ⟨g0, j, none⟩ = some u) ∧ g0 < wr.heap.size ∧ Below w.heap.size w wr
theorem trn_len (g : Fm) : 1 ≤ (trnL g).length ∧ (trnL g).length ≤ 3 := by unfold trnL; split <;> (try split) <;> simp
/-- A list of matrices in new memory. -/
def RetM (L : List M4) (w : World) (e : Ending) (w' : World) : Prop := ∃ v, e = .returned v ∧ w'.ownsRow w.heap.size 49 4 v L.length (cellsM L) ∧ Below w.heap.size w w'
theorem one_gen (w : World) : Calls Try.prog 155 #[] w fun e w' => e = .returned (.agg #[.int .i64 1, .int .i64 0, .int .i64 0, .int .i64 1]) ∧ Below w.heap.size w w' := one_any w

end Go.Proofs.Ytkpiiicefmkhcaa
