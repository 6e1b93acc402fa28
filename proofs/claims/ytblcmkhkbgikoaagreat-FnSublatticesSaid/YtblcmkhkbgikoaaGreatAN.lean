/- copy within an owned row whose elements have several cells; a cell of an owned row is set. -/
import Derived.Test.YtblcmkhkbgikoaaGreatCA
import Derived.Laws.CopyRow
import Derived.Deep.RegionLaw
namespace Go.Proofs.YtblcmkhkbgikoaaGreat
open Go.RowKit Go

section
variable {P : Program}
theorem run_copyK (w : World) (dT sT ty elem : TypeId) (g o dLen dCap : Nat) (a : Addr) (sLen sCap : Nat) (cur : Array Value) (t : TypeId) (cs : List Value) (m sz : Nat)
    (hu : P.underlying dT = some (.slice elem)) (hs : (P.info? elem).map (·.size) = some sz)
    (hg : w.heap[g]? = some (.cells cur t (0, 0))) (hm : m = Nat.min sLen dLen) (hn : cs.length = m * sz)
    (hsrc : ∀ (j : Nat) (v : Value), cs[j]? = some v → w.cell? (a.add j) = some v) (hfit : o + cs.length ≤ cur.size) (h1 : ∀ v ∈ cs, v.oneCell' = true) :
    (Builtin.copy_ #[dT, sT] ty #[.slice (some ⟨g, o, none⟩) dLen dCap, .slice (some a) sLen sCap]).run P w =
      .ok (goInt m) (w.setRow g (cur.toList.take o ++ cs ++ cur.toList.drop (o + cs.length)).toArray) := by
  have hl := run_loadCells_list (P := P) w a cs hsrc
  have hst := run_storeCells_at P g o t cs 0 cur w hg (by simpa using hfit) h1
  cases hq : P.info? elem with
  | none => simp [hq] at hs
  | some i =>
    have hi : i.size = sz := by simpa [hq] using hs
    rw [hn] at hl
    simp [Builtin.copy_, run_underlying hu, Builtin.lenOf, Builtin.firstCells, sizeOf, typeInfo, hq, hi, ← hm, hl, hst]
theorem run_copy_noneK (w : World) (dT sT ty elem : TypeId) (d a : Option Addr) (dLen dCap sLen sCap : Nat) (hu : P.underlying dT = some (.slice elem)) (hs : ((P.info? elem).map (·.size)).isSome = true) (hn : Nat.min sLen dLen = 0) :
    (Builtin.copy_ #[dT, sT] ty #[.slice d dLen dCap, .slice a sLen sCap]).run P w = .ok (goInt 0) w := by
  cases hq : P.info? elem with
  | none => simp [hq] at hs
  | some i => cases d <;> cases a <;> simp [Builtin.copy_, run_underlying hu, Builtin.lenOf, Builtin.firstCells, sizeOf, typeInfo, hq, hn, storeCells, loadCells, loadCellsFrom, Sem.run_pure, Result.andThen]
end
theorem own_put {w : World} {B g n cap sz i : Nat} {e : TypeId} {xs : List Value} (h : w.ownsRow B e sz (.slice (some ⟨g, 0, none⟩) n cap) n xs) (u : Value) :
    (w.setCell ⟨g, i, none⟩ u).ownsRow B e sz (.slice (some ⟨g, 0, none⟩) n cap) n (xs.set i u) := by
  refine ⟨by rw [List.length_set]; exact h.1, .inr ?_⟩
  rcases h.2 with ⟨hv, _⟩ | ⟨g', cap', cur, hv, hbg, hg, hnc, hcm, hcs, htake⟩
  · cases hv
  · injection hv with e1 _ e3
    injection e1 with e1
    injection e1 with e1
    subst e1; subst e3
    refine ⟨g, cap, cur.setIfInBounds i u, rfl, hbg, ?_, hnc, hcm, by simpa using hcs, ?_⟩
    · rw [setCell_eq_setRow w g i cur e (0, 0) u hg]
      exact setRow_heap w g cur _ e _ hg
    · rw [Array.toList_setIfInBounds, ← htake, List.take_set]
theorem grown_setRow {w : World} {g : Nat} {cs : Array Value} : w.grownBy (w.setRow g cs) (some g) :=
  ⟨rfl, rfl, rfl, by simp [World.setRow], fun k _ hk => setRow_other w g k cs (fun e => hk (by rw [e]))⟩
/-- copy within an owned row: m elements go from place src to place off. -/
theorem wp_copy_own {P : Program} {o : Oper} {a : Act} {w : World} {K : Act → World → Prop} {Q : Exit → Act → World → Prop} (d s : Operand) (dT sT : TypeId)
    (ho : o.op = .call { callee := .builtin .copy, args := #[d, s], argTypes := #[dT, sT] }) (elem : TypeId) (hu : P.underlying dT = some (.slice elem)) (sz : Nat) (hsz : (P.info? elem).map (·.size) = some sz)
    (dp sp : Option Addr) (dLen dCap sLen sCap : Nat) (hd : a.eval d = .slice dp dLen dCap) (hs : a.eval s = .slice sp sLen sCap)
    (B g n cap : Nat) (e : TypeId) (xs : List Value) (hown : w.ownsRow B e sz (.slice (some ⟨g, 0, none⟩) n cap) n xs) (h1 : ∀ u ∈ xs, u.oneCell' = true) (off src m : Nat) (hm : m = Nat.min sLen dLen)
    (hpos : 0 < m → dp = some ⟨g, off * sz, none⟩ ∧ sp = some ⟨g, src * sz, none⟩) (ho1 : off + m ≤ n) (hs1 : src + m ≤ n)
    (h : ∀ w', w'.ownsRow B e sz (.slice (some ⟨g, 0, none⟩) n cap) n (xs.take (off * sz) ++ (xs.drop (src * sz)).take (m * sz) ++ xs.drop (off * sz + m * sz)) → w.grownBy w' (some g) → K (a.put o.dst (goInt m)) w') :
    Oper.wp P o a w K Q := by
  have hxl := hown.1
  have q1 : off * sz + m * sz ≤ n * sz := by rw [← Nat.add_mul]; exact Nat.mul_le_mul_right _ ho1
  have q2 : src * sz + m * sz ≤ n * sz := by rw [← Nat.add_mul]; exact Nat.mul_le_mul_right _ hs1
  by_cases h0 : m = 0
  · subst h0
    have hrun := run_copy_noneK (P := P) w dT sT o.type elem dp sp dLen dCap sLen sCap hu (by cases hq : P.info? elem with | none => rw [hq] at hsz; cases hsz | some i => rfl) hm.symm
    unfold Oper.wp
    simp [execOp, ho, resolve, invoke, builtin, hd, hs, hrun, Result.andThen]
    refine h w ?_ (World.grownBy.refl _ _)
    simpa using hown
  · obtain ⟨rfl, rfl⟩ := hpos (by omega)
    rcases hown.2 with ⟨hv, _⟩ | ⟨g', cap', cur, hv, hbg, hg, hnc, hcm, hcs, htake⟩
    · cases hv
    · injection hv with e1 _ e3
      injection e1 with e1
      injection e1 with e1
      subst e1; subst e3
      have hcl : n * sz ≤ cur.size := by rw [hcs]; exact Nat.mul_le_mul_right _ hnc
      have hcl' : n * sz ≤ cur.toList.length := by simpa using hcl
      have hcsl : ((xs.drop (src * sz)).take (m * sz)).length = m * sz := by rw [List.length_take, List.length_drop, hxl]; omega
      have hrun := run_copyK (P := P) w dT sT o.type elem g (off * sz) dLen dCap ⟨g, src * sz, none⟩ sLen sCap cur e ((xs.drop (src * sz)).take (m * sz)) m sz hu hsz hg hm hcsl
        (fun j v hj => by
          have hlt : j < m * sz := by
            have := (List.getElem?_eq_some_iff.1 hj).1
            omega
          rw [List.getElem?_take, if_pos hlt, List.getElem?_drop] at hj
          have e : ((⟨g, src * sz, none⟩ : Addr).add j) = ⟨g, src * sz + j, none⟩ := by unfold Addr.add; split <;> simp_all
          rw [e, cell_of_row w g _ cur _ (0, 0) hg]
          rw [← htake, List.getElem?_take, if_pos (by omega)] at hj
          simpa using hj) (by rw [hcsl]; omega) (fun v hv => h1 v (List.mem_of_mem_drop (List.mem_of_mem_take hv)))
      have hR : (w.setRow g (cur.toList.take (off * sz) ++ (xs.drop (src * sz)).take (m * sz) ++ cur.toList.drop (off * sz + ((xs.drop (src * sz)).take (m * sz)).length)).toArray).ownsRow B e sz (.slice (some ⟨g, 0, none⟩) n cap) n (xs.take (off * sz) ++ (xs.drop (src * sz)).take (m * sz) ++ xs.drop (off * sz + m * sz)) := by
        rw [hcsl]
        refine ⟨by rw [List.length_append, List.length_append, List.length_take, List.length_drop, hcsl, hxl]; omega, .inr ⟨g, cap, _, rfl, hbg, setRow_heap w g cur _ e _ hg, hnc, hcm, ?_, ?_⟩⟩
        · rw [List.size_toArray, List.length_append, List.length_append, List.length_take, List.length_drop, hcsl, Array.length_toList]; omega
        · show List.take (n * sz) (_ : List Value) = _
          have e1 : xs.take (off * sz) = cur.toList.take (off * sz) := by rw [← htake, List.take_take, Nat.min_eq_left (by omega)]
          have e2 : xs.drop (off * sz + m * sz) = (cur.toList.drop (off * sz + m * sz)).take (n * sz - (off * sz + m * sz)) := by rw [← htake, List.drop_take]
          rw [e1, e2, List.take_append, List.take_of_length_le (by rw [List.length_append, List.length_take, hcsl, Array.length_toList]; omega)]
          congr 2
          rw [List.length_append, List.length_take, hcsl, Array.length_toList]
          omega
      have hK := h _ hR grown_setRow
      unfold Oper.wp
      simp [execOp, ho, resolve, invoke, builtin, hd, hs, hrun, Result.andThen]
      simpa [Oper.upon] using hK
theorem wpList_copy_ownK {P : Program} {ops : Array Oper} {rest : List Oper} {o : Oper} {a : Act} {w : World} {Q : Exit → Act → World → Prop} (hgd : o.guard = none) (d s : Operand) (dT sT : TypeId)
    (ho : o.op = .call { callee := .builtin .copy, args := #[d, s], argTypes := #[dT, sT] }) (elem : TypeId) (hu : P.underlying dT = some (.slice elem)) (sz : Nat) (hsz : (P.info? elem).map (·.size) = some sz)
    (dp sp : Option Addr) (dLen dCap sLen sCap : Nat) (hd : a.eval d = .slice dp dLen dCap) (hs : a.eval s = .slice sp sLen sCap)
    (B g n cap : Nat) (e : TypeId) (xs : List Value) (hown : w.ownsRow B e sz (.slice (some ⟨g, 0, none⟩) n cap) n xs) (h1 : ∀ u ∈ xs, u.oneCell' = true) (off src m : Nat) (hm : m = Nat.min sLen dLen)
    (hpos : 0 < m → dp = some ⟨g, off * sz, none⟩ ∧ sp = some ⟨g, src * sz, none⟩) (ho1 : off + m ≤ n) (hs1 : src + m ≤ n)
    (h : ∀ w', w'.ownsRow B e sz (.slice (some ⟨g, 0, none⟩) n cap) n (xs.take (off * sz) ++ (xs.drop (src * sz)).take (m * sz) ++ xs.drop (off * sz + m * sz)) → w.grownBy w' (some g) → wpList P ops Q rest (a.put o.dst (goInt m)) w') :
    wpList P ops Q (o :: rest) a w :=
  wpList_plain hgd fun _ hK => wp_copy_own d s dT sT ho elem hu sz hsz dp sp dLen dCap sLen sCap hd hs B g n cap e xs hown h1 off src m hm hpos ho1 hs1 fun w' h2 h3 => hK _ _ (h w' h2 h3)
end Go.Proofs.YtblcmkhkbgikoaaGreat
