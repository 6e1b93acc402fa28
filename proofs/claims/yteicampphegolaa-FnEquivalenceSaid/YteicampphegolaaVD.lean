/- Plain facts: the rows of matrices, as they are put in order; contract: Automorphs, of the program. -/
import Derived.Test.YteicampphegolaaVC
import Derived.Test.YteicampphegolaaAN
namespace Go.Proofs.Yteicampphegolaa
open Go.RowKit Go

theorem cellsM_cons (m : M4) (L : List M4) : cellsM (m :: L) = .int .i64 m.p :: .int .i64 m.q :: .int .i64 m.r :: .int .i64 m.s :: cellsM L := by simp [cellsM]
theorem cellsM_len (L : List M4) : (cellsM L).length = L.length * 4 := by
  induction L with
  | nil => rfl
  | cons m L ih => rw [cellsM_cons]; simp only [List.length_cons, ih]; omega
theorem cellsM_take : ∀ (L : List M4) (k : Nat), (cellsM L).take (k * 4) = cellsM (L.take k)
  | [], k => by simp [cellsM]
  | m :: L, 0 => by simp [cellsM]
  | m :: L, k + 1 => by
    rw [cellsM_cons, List.take_succ_cons, cellsM_cons, show (k + 1) * 4 = k * 4 + 1 + 1 + 1 + 1 by omega, List.take_succ_cons, List.take_succ_cons, List.take_succ_cons, List.take_succ_cons, cellsM_take L k]
theorem cellsM_drop : ∀ (L : List M4) (k : Nat), (cellsM L).drop (k * 4) = cellsM (L.drop k)
  | [], k => by simp [cellsM]
  | m :: L, 0 => by simp
  | m :: L, k + 1 => by
    rw [cellsM_cons, show (k + 1) * 4 = k * 4 + 1 + 1 + 1 + 1 by omega, List.drop_succ_cons, List.drop_succ_cons, List.drop_succ_cons, List.drop_succ_cons, List.drop_succ_cons, cellsM_drop L k]
theorem cellsM_one (L : List M4) : ∀ u ∈ cellsM L, u.oneCell' = true := by
  intro u hu
  simp only [cellsM, List.mem_flatMap, List.mem_cons, List.not_mem_nil, or_false] at hu
  obtain ⟨p, _, rfl | rfl | rfl | rfl⟩ := hu <;> rfl
theorem set4 {α : Type} (A D : List α) (n : Nat) (y0 y1 y2 y3 p q r s : α) (h : A.length = n) : ((((A ++ ([y0, y1, y2, y3] ++ D)).set n p).set (n + 1) q).set (n + 2) r).set (n + 3) s = A ++ ([p, q, r, s] ++ D) := by
  subst h
  rw [List.set_append_right _ _ (by omega), List.set_append_right _ _ (by omega), List.set_append_right _ _ (by omega), List.set_append_right _ _ (by omega)]
  simp
theorem len4 {α : Type} {Y : List α} (h : Y.length = 4) : ∃ a b c d, Y = [a, b, c, d] := by
  match Y, h with
  | [a, b, c, d], _ => exact ⟨a, b, c, d, rfl⟩
theorem cellsM_mid (L : List M4) (m : M4) (a : Nat) : cellsM (L.take a ++ m :: L.drop a) = cellsM (L.take a) ++ ([.int .i64 m.p, .int .i64 m.q, .int .i64 m.r, .int .i64 m.s] ++ cellsM (L.drop a)) := by
  rw [cellsM_append, cellsM_cons]; rfl
/-- What copy leaves: the place in the middle is to be filled. -/
theorem cpy_cells {L : List M4} {a a1 m0 : Nat} (ha : a ≤ L.length) (h1 : a1 = a + 1) (hm : m0 = L.length - a) {z : List Value} (hz : z.length = 4) :
    ∃ y0 y1 y2 y3, (cellsM L ++ z).take (a1 * 4) ++ ((cellsM L ++ z).drop (a * 4)).take (m0 * 4) ++ (cellsM L ++ z).drop (a1 * 4 + m0 * 4) = cellsM (L.take a) ++ ([y0, y1, y2, y3] ++ cellsM (L.drop a)) := by
  subst h1; subst hm
  have hA : (cellsM (L.take a)).length = a * 4 := by rw [cellsM_len, List.length_take, Nat.min_eq_left ha]
  have hD : (cellsM (L.drop a)).length = (L.length - a) * 4 := by rw [cellsM_len, List.length_drop]
  have hs : cellsM L = cellsM (L.take a) ++ cellsM (L.drop a) := by rw [← cellsM_append, List.take_append_drop]
  rw [hs]
  generalize cellsM (L.take a) = A at *
  generalize cellsM (L.drop a) = D at *
  have e1 : (A ++ D ++ z).take ((a + 1) * 4) = A ++ (D ++ z).take 4 := by
    rw [List.append_assoc, List.take_append, List.take_of_length_le (by omega), hA, show (a + 1) * 4 - a * 4 = 4 by omega]
  have e2 : ((A ++ D ++ z).drop (a * 4)).take ((L.length - a) * 4) = D := by
    rw [List.append_assoc, ← hA, List.drop_left, ← hD, List.take_left]
  have e3 : (A ++ D ++ z).drop ((a + 1) * 4 + (L.length - a) * 4) = [] := by
    apply List.drop_eq_nil_of_le
    rw [List.length_append, List.length_append]; omega
  rw [e1, e2, e3, List.append_nil, List.append_assoc]
  obtain ⟨y0, y1, y2, y3, hY⟩ := len4 (Y := (D ++ z).take 4) (by rw [List.length_take, List.length_append]; omega)
  rw [hY]
  exact ⟨y0, y1, y2, y3, rfl⟩
theorem mid_get {α : Type} (A D : List α) (n : Nat) (y0 y1 y2 y3 : α) (h : A.length = n) : (A ++ ([y0, y1, y2, y3] ++ D))[n]? = some y0 ∧ (A ++ ([y0, y1, y2, y3] ++ D))[n + 1]? = some y1 ∧ (A ++ ([y0, y1, y2, y3] ++ D))[n + 2]? = some y2 ∧ (A ++ ([y0, y1, y2, y3] ++ D))[n + 3]? = some y3 := by
  subst h
  refine ⟨?_, ?_, ?_, ?_⟩ <;> rw [List.getElem?_append_right (by omega)] <;> simp
theorem own_froz {w : World} {B g n m cap sz : Nat} {e : TypeId} {xs : List Value} (h : w.ownsRow B e sz (.slice (some ⟨g, 0, none⟩) n cap) m xs) (i : Nat) : w.frozen? ⟨g, i, none⟩ = false := by
  rcases h.2 with ⟨hv, _⟩ | ⟨g', cap', cur, hv, hbg, hg, _⟩
  · cases hv
  · injection hv with e1 _ _
    injection e1 with e1
    injection e1 with e1
    subst e1
    exact Blk.frozen (cs := cur) hg i
theorem own_nq {w : World} {B2 n k c sz g : Nat} {e : TypeId} {x : Value} {xs : List Value} {p : Addr} (h : w.ownsRow B2 e sz (.slice (some ⟨g, 0, none⟩) n c) k xs) (hne : g ≠ p.block) : (w.setCell p x).ownsRow B2 e sz (.slice (some ⟨g, 0, none⟩) n c) k xs :=
  h.kept (row := some p.block) ⟨rfl, rfl, rfl, by simp, fun k _ hn => Below.heap_setCell w p x k (fun e => hn (by rw [e]))⟩ (.inr (fun e => hne (by injection e)))
/-- The four cells of a matrix are stored into the middle. -/
theorem own_mid {w : World} {B g n cap : Nat} {e : TypeId} {L : List M4} {a : Nat} (ha : a ≤ L.length) {y0 y1 y2 y3 : Value} (m : M4) (h : w.ownsRow B e 4 (.slice (some ⟨g, 0, none⟩) n cap) n (cellsM (L.take a) ++ ([y0, y1, y2, y3] ++ cellsM (L.drop a)))) :
    ((((w.setCell ⟨g, a * 4, none⟩ (.int .i64 m.p)).setCell ⟨g, a * 4 + 1, none⟩ (.int .i64 m.q)).setCell ⟨g, a * 4 + 2, none⟩ (.int .i64 m.r)).setCell ⟨g, a * 4 + 3, none⟩ (.int .i64 m.s)).ownsRow B e 4 (.slice (some ⟨g, 0, none⟩) n cap) n (cellsM (L.take a ++ m :: L.drop a)) := by
  have hA : (cellsM (L.take a)).length = a * 4 := by rw [cellsM_len, List.length_take, Nat.min_eq_left ha]
  have := own_put (own_put (own_put (own_put h (i := a * 4) (.int .i64 m.p)) (i := a * 4 + 1) (.int .i64 m.q)) (i := a * 4 + 2) (.int .i64 m.r)) (i := a * 4 + 3) (.int .i64 m.s)
  rw [set4 _ _ (a * 4) _ _ _ _ _ _ _ _ hA] at this
  rw [cellsM_mid]
  exact this
theorem mid_len (L : List M4) (m : M4) {a : Nat} (ha : a ≤ L.length) : (L.take a ++ m :: L.drop a).length = L.length + 1 := by
  rw [List.length_append, List.length_cons, List.length_take, List.length_drop]; omega
theorem posM_succ (m : M4) (L : List M4) (k : Nat) (h : lesM m (L.getD k M4.one) = true) : posM m L (k + 1) = posM m L k := by
  conv => lhs; unfold posM
  rw [if_pos h]
theorem posM_stop (m : M4) (L : List M4) (k : Nat) (h : lesM m (L.getD k M4.one) = false) : posM m L (k + 1) = k + 1 := by
  conv => lhs; unfold posM
  rw [h]; rfl
theorem srt_next (C : List M4) {k : Nat} (h : k < C.length) : srtM (C.take (k + 1)) = insM (srtM (C.take k)) C[k] := by
  unfold srtM
  rw [List.take_succ_eq_append_getElem h, List.foldl_append]; rfl
theorem aut_num {f f' : Fm} {k : Int} (h : Def 1000000 f) (bb : -1000000 ≤ f.b ∧ f.b ≤ 1000000) (D : AutD f k f') : ∀ m ∈ autS f', numM m = true := by
  intro m hm
  unfold autS at hm
  rw [List.mem_map] at hm
  obtain ⟨p, hp, rfl⟩ := hm
  obtain ⟨hp1, hp2⟩ := List.mem_filter.1 hp
  have hk := D.k0
  have ea : f.a = k * f'.a := by rw [D.eq]; rfl
  have eb : f.b = k * f'.b := by rw [D.eq]; rfl
  have ec : f.c = k * f'.c := by rw [D.eq]; rfl
  have up : ∀ x X : Int, x = k * X → -1000000 ≤ x → x ≤ 1000000 → -1000000 ≤ X ∧ X ≤ 1000000 := by
    intro x X e h1 h2
    constructor
    · apply Int.not_lt.1; intro hl
      have : k * X ≤ k * (-1000001) := Int.mul_le_mul_of_nonneg_left (by omega) (by omega)
      have : k * (-1000001) ≤ 1 * (-1000001) := Int.mul_le_mul_of_nonpos_right (by omega) (by omega)
      omega
    · apply Int.not_lt.1; intro hl
      have : k * 1000001 ≤ k * X := Int.mul_le_mul_of_nonneg_left (by omega) (by omega)
      have : 1 * 1000001 ≤ k * 1000001 := Int.mul_le_mul_of_nonneg_right (by omega) (by omega)
      omega
  have a0 := h.a0; have aM := h.aM; have c0 := h.c0; have cM := h.cM
  have ba := up _ _ ea (by omega) (by omega)
  have bc := up _ _ ec (by omega) (by omega)
  have bb := up _ _ eb bb.1 bb.2
  rw [tuA_eq] at hp1
  have hpb : (-2 ≤ p.1 ∧ p.1 ≤ 2) ∧ (p.2 = -1 ∨ p.2 = 0 ∨ p.2 = 1) := by
    simp only [List.mem_cons, List.not_mem_nil, or_false] at hp1
    rcases hp1 with rfl | rfl | rfl | rfl | rfl | rfl | rfl | rfl | rfl | rfl | rfl | rfl | rfl | rfl | rfl <;> simp
  unfold numM autM
  simp only [Bool.and_eq_true, isNum_iff]
  obtain ⟨⟨t1, t2⟩, u⟩ := hpb
  rcases u with u | u | u <;> rw [u] <;> refine ⟨⟨?_, ?_⟩, ⟨?_, ?_⟩, ⟨?_, ?_⟩, ?_, ?_⟩ <;> omega
end Go.Proofs.Yteicampphegolaa
