/- Contracts: the primes of the walks and their matrices, of both sides. -/
import Derived.Test.YtcijjnjgifoipaaPA
import Derived.Test.YtcijjnjgifoipaaK7
import Derived.Test.YtcijjnjgifoipaaN6
namespace Go.Proofs.Ytcijjnjgifoipaa
open Go.RowKit

/-- A prime up to 43. -/
def ixB (p : Int) : Bool := decide (p ≤ 43) && prmB p
theorem ixB_lo {p : Int} (h : ixB p = true) : 2 ≤ p ∧ p ≤ 43 := by
  unfold ixB prmB at h
  simp only [Bool.and_eq_true, decide_eq_true_eq] at h
  exact ⟨h.2.1, h.1⟩

set_option maxHeartbeats 800000 in
theorem isIndex_any (p : Int) (w : World) : Calls Try.prog 87 #[.int .i64 p] w fun e w' => e = .returned (.bool (ixB p)) ∧ w = w' := by
  by_cases h : p ≤ 43
  · have hx : ixB p = prmB p := by unfold ixB; rw [decide_eq_true h, Bool.true_and]
    have hP := Lib.hid (fun w => isPrime_any p w (by omega))
    rw [hx]
    clear hx
    go_enter Try.func87, Try.ntmps87
    go_wp2_with (go_at_call 120; (with_reducible refine (hP.out _).mono ?_); rintro e v ⟨rfl, rfl⟩)
    go_ret
    exact ⟨rfl, rfl⟩
  · have hx : ixB p = false := by unfold ixB; rw [decide_eq_false h, Bool.false_and]
    rw [hx]
    clear hx
    go_enter Try.func87, Try.ntmps87
    go_wp2
    go_ret
    exact ⟨rfl, rfl⟩

set_option maxHeartbeats 800000 in
theorem hkPrime_any (p : Int) (w : World) : Calls Try.prog 83 #[.int .i64 p] w fun e w' => e = .returned (.bool (ixB p)) ∧ w = w' := by
  by_cases h : 2 ≤ p ∧ p ≤ 43
  · have hx : ixB p = prmB p := by unfold ixB; rw [decide_eq_true h.2, Bool.true_and]
    have hP := Lib.hid (fun w => nuPrime_any p w (by omega))
    have hl : (decide (2 ≤ p) && decide (p ≤ 43)) = true := by rw [decide_eq_true h.1, decide_eq_true h.2]; rfl
    rw [hx]
    clear hx h
    go_enter Try.func83, Try.ntmps83
    go_wp2_with (first | (go_at_call 36; refine (l1In_any p 2 43 _).mono ?_; rw [hl]; rintro e v1 ⟨rfl, rfl⟩) | (go_at_call 116; (with_reducible refine (hP.out _).mono ?_); rintro e v ⟨rfl, rfl⟩))
    go_ret
    exact ⟨rfl, rfl⟩
  · have hx : ixB p = false := by
      rw [← Bool.not_eq_true]
      exact fun hh => h (ixB_lo hh)
    have hl : (decide (2 ≤ p) && decide (p ≤ 43)) = false := by
      rw [← Bool.not_eq_true, Bool.and_eq_true, decide_eq_true_eq, decide_eq_true_eq]
      exact h
    rw [hx]
    clear hx h
    go_enter Try.func83, Try.ntmps83
    go_wp2_with (go_at_call 36; refine (l1In_any p 2 43 _).mono ?_; rw [hl]; rintro e v1 ⟨rfl, rfl⟩)
    go_ret
    exact ⟨rfl, rfl⟩
/-- The primes of a walk. -/
def ixsB (Z : List Int) : Bool := Z.all ixB && (decide (1 ≤ (Z.length : Int)) && decide ((Z.length : Int) ≤ 6))
def IxSt (Z : List Int) (vi : Value) : Prop := ∃ k : Nat, vi = .int .i64 k ∧ k ≤ Z.length ∧ Hid (∀ j (h : j < Z.length), j < k → ixB Z[j] = true)
theorem ixs_no {Z : List Int} {k : Nat} (h : k < Z.length) (hb : ixB Z[k] = false) : ixsB Z = false := by
  unfold ixsB
  have : Z.all ixB = false := by rw [List.all_eq_false]; exact ⟨Z[k], List.getElem_mem h, by rw [hb]; simp⟩
  rw [this]; rfl
theorem ixs_yes {Z : List Int} (h : ∀ j (h : j < Z.length), ixB Z[j] = true) : ixsB Z = (decide (1 ≤ (Z.length : Int)) && decide ((Z.length : Int) ≤ 6)) := by
  unfold ixsB
  have : Z.all ixB = true := by
    rw [List.all_eq_true]
    intro e he
    obtain ⟨j, hj, rfl⟩ := List.getElem_of_mem he
    exact h j hj
  rw [this]; rfl
theorem ixs_mem {Z : List Int} (h : ixsB Z = true) : (∀ p ∈ Z, 2 ≤ p ∧ p ≤ 43) ∧ Z.length ≤ 6 := by
  unfold ixsB at h
  simp only [Bool.and_eq_true, List.all_eq_true, decide_eq_true_eq] at h
  exact ⟨fun p hp => ixB_lo (h.1 p hp), by omega⟩

set_option maxRecDepth 100000 in
set_option maxHeartbeats 1600000 in
theorem areIndices_any (v : Value) (B : Nat) (Z : List Int) (w : World) (hl : Z.length ≤ 10000000) (h : w.ownsRow B 3 1 v Z.length (cellsI Z)) :
    Calls Try.prog 56 #[v] w fun e w' => e = .returned (.bool (ixsB Z)) ∧ w = w' := by
  obtain ⟨be, ce, rfl⟩ := own_shape h
  have HE := Lib.hid h
  obtain ⟨R, hR⟩ : ∃ R, ixsB Z = R := ⟨_, rfl⟩
  rw [hR]
  have HR := Lib.hid hR
  clear h hR
  go_enter Try.func56, Try.ntmps56
  go_wp2
  go_loop [7] (fun vi => IxSt Z vi) (fun vi => Z.length - (intOf vi).toNat)
  case atStart => exact ⟨0, rfl, Nat.zero_le _, Lib.hid (fun _ _ h => absurd h (Nat.not_lt_zero _))⟩
  case round =>
    obtain ⟨k, rfl, hk, hs⟩ := hrel
    by_cases hlt : k < Z.length
    · obtain ⟨ge, rfl, le, c1⟩ := own_elemI HE.out hlt
      cases hb : ixB Z[k] with
      | false =>
        have hx := Lib.hid (HR.out.symm.trans (ixs_no hlt hb))
        have hL := Lib.hid (fun w => isIndex_any Z[k] w)
        rw [hb] at hL
        generalize Z[k] = y at c1 hL
        clear hb hs
        go_wp2_with (go_at_call 87; (with_reducible refine (hL.out _).mono ?_); rintro e v ⟨rfl, rfl⟩)
        go_ret
        exact ⟨ret_bool hx.out.symm, rfl⟩
      | true =>
        have hs2 : Hid (∀ j (h : j < Z.length), j < k + 1 → ixB Z[j] = true) := Lib.hid (fun j h hj => if e : j = k then (by subst e; exact hb) else hs.out j h (by omega))
        have hL := Lib.hid (fun w => isIndex_any Z[k] w)
        rw [hb] at hL
        generalize Z[k] = y at c1 hL
        clear hb hs
        go_wp2_with (go_at_call 87; (with_reducible refine (hL.out _).mono ?_); rintro e v ⟨rfl, rfl⟩)
        go_round
        case rel => exact ⟨k + 1, by go_num, hlt, hs2⟩
        case measure => simp [intOf]; omega
    · have hx := Lib.hid (HR.out.symm.trans (ixs_yes fun j h => hs.out j h (by omega)))
      clear hs
      by_cases h1 : 1 ≤ (Z.length : Int)
      · by_cases h6 : (Z.length : Int) ≤ 6
        · have hy := Lib.hid (hx.out.trans (show (decide (1 ≤ (Z.length : Int)) && decide ((Z.length : Int) ≤ 6)) = true by rw [decide_eq_true h1, decide_eq_true h6]; rfl))
          go_wp2
          go_ret
          exact ⟨ret_bool hy.out.symm, rfl⟩
        · have hy := Lib.hid (hx.out.trans (show (decide (1 ≤ (Z.length : Int)) && decide ((Z.length : Int) ≤ 6)) = false by rw [decide_eq_false h6, Bool.and_false]))
          go_wp2
          go_ret
          exact ⟨ret_bool hy.out.symm, rfl⟩
      · have hy := Lib.hid (hx.out.trans (show (decide (1 ≤ (Z.length : Int)) && decide ((Z.length : Int) ≤ 6)) = false by rw [decide_eq_false h1, Bool.false_and]))
        go_wp2
        go_ret
        exact ⟨ret_bool hy.out.symm, rfl⟩

set_option maxRecDepth 100000 in
set_option maxHeartbeats 1600000 in
theorem hkPrimes_any (v : Value) (B : Nat) (Z : List Int) (w : World) (hl : Z.length ≤ 10000000) (h : w.ownsRow B 3 1 v Z.length (cellsI Z)) :
    Calls Try.prog 51 #[v] w fun e w' => e = .returned (.bool (ixsB Z)) ∧ w = w' := by
  obtain ⟨be, ce, rfl⟩ := own_shape h
  have HE := Lib.hid h
  obtain ⟨R, hR⟩ : ∃ R, ixsB Z = R := ⟨_, rfl⟩
  rw [hR]
  have HR := Lib.hid hR
  clear h hR
  go_enter Try.func51, Try.ntmps51
  go_wp2
  go_loop [7] (fun vi => IxSt Z vi) (fun vi => Z.length - (intOf vi).toNat)
  case atStart => exact ⟨0, rfl, Nat.zero_le _, Lib.hid (fun _ _ h => absurd h (Nat.not_lt_zero _))⟩
  case round =>
    obtain ⟨k, rfl, hk, hs⟩ := hrel
    by_cases hlt : k < Z.length
    · obtain ⟨ge, rfl, le, c1⟩ := own_elemI HE.out hlt
      cases hb : ixB Z[k] with
      | false =>
        have hx := Lib.hid (HR.out.symm.trans (ixs_no hlt hb))
        have hL := Lib.hid (fun w => hkPrime_any Z[k] w)
        rw [hb] at hL
        generalize Z[k] = y at c1 hL
        clear hb hs
        go_wp2_with (go_at_call 83; (with_reducible refine (hL.out _).mono ?_); rintro e v ⟨rfl, rfl⟩)
        go_ret
        exact ⟨ret_bool hx.out.symm, rfl⟩
      | true =>
        have hs2 : Hid (∀ j (h : j < Z.length), j < k + 1 → ixB Z[j] = true) := Lib.hid (fun j h hj => if e : j = k then (by subst e; exact hb) else hs.out j h (by omega))
        have hL := Lib.hid (fun w => hkPrime_any Z[k] w)
        rw [hb] at hL
        generalize Z[k] = y at c1 hL
        clear hb hs
        go_wp2_with (go_at_call 83; (with_reducible refine (hL.out _).mono ?_); rintro e v ⟨rfl, rfl⟩)
        go_round
        case rel => exact ⟨k + 1, by go_num, hlt, hs2⟩
        case measure => simp [intOf]; omega
    · have hx := Lib.hid (HR.out.symm.trans (ixs_yes fun j h => hs.out j h (by omega)))
      clear hs
      have hL := Lib.hid (fun w => l1In_any (Z.length : Int) 1 6 w)
      rw [← hx.out] at hL
      go_wp2_with (go_at_call 36; (with_reducible refine (hL.out _).mono ?_); rintro e v ⟨rfl, rfl⟩)
      go_ret
      exact ⟨rfl, rfl⟩

/-- A matrix, row by row. -/
structure Mx where
  p : Int
  q : Int
  r : Int
  s : Int
def cellsX (L : List Mx) : List Value := L.flatMap fun m => [.int .i64 m.p, .int .i64 m.q, .int .i64 m.r, .int .i64 m.s]
theorem cellsX_append (L K : List Mx) : cellsX (L ++ K) = cellsX L ++ cellsX K := by simp [cellsX]
theorem infoMx : (Try.prog.info? 83).map (fun i => (i.zero, i.size, i.bytes)) = some (some (.agg #[.int .i64 0, .int .i64 0, .int .i64 0, .int .i64 0]), 4, 32) := by kernel_rfl
theorem cellsX_get : ∀ (L : List Mx) (k : Nat) (h : k < L.length), (cellsX L)[k * 4]? = some (.int .i64 L[k].p) ∧ (cellsX L)[k * 4 + 1]? = some (.int .i64 L[k].q) ∧ (cellsX L)[k * 4 + 2]? = some (.int .i64 L[k].r) ∧ (cellsX L)[k * 4 + 3]? = some (.int .i64 L[k].s)
  | m :: L, 0, _ => by simp [cellsX]
  | m :: L, k + 1, h => by
    have ih := cellsX_get L k (by simpa using h)
    have e : cellsX (m :: L) = .int .i64 m.p :: .int .i64 m.q :: .int .i64 m.r :: .int .i64 m.s :: cellsX L := by simp [cellsX]
    rw [e, show (k + 1) * 4 = k * 4 + 1 + 1 + 1 + 1 by omega]
    simpa using ih
theorem own_elemX {w : World} {B : Nat} {e : TypeId} {base : Option Addr} {n cap : Nat} {L : List Mx} (h : w.ownsRow B e 4 (.slice base n cap) L.length (cellsX L)) {k : Nat} (hk : k < L.length) :
    ∃ g, base = some ⟨g, 0, none⟩ ∧ g < w.heap.size ∧ w.cell? ⟨g, k * 4, none⟩ = some (.int .i64 L[k].p) ∧ w.cell? ⟨g, k * 4 + 1, none⟩ = some (.int .i64 L[k].q) ∧ w.cell? ⟨g, k * 4 + 2, none⟩ = some (.int .i64 L[k].r) ∧ w.cell? ⟨g, k * 4 + 3, none⟩ = some (.int .i64 L[k].s) := by
  rcases own_form h with ⟨hv, h0⟩ | ⟨g, c, hv, h1, h2, h3⟩
  · omega
  · injection hv with e1 e2 e3
    obtain ⟨a1, a2, a3, a4⟩ := cellsX_get L k hk
    exact ⟨g, e1, h2, h3 _ _ a1, h3 _ _ a2, h3 _ _ a3, h3 _ _ a4⟩
theorem own_snocX {w : World} {B : Nat} {e : TypeId} {v : Value} {L K : List Mx} {m : Mx} (hx : K = L ++ [m]) (h : w.ownsRow B e 4 v (L.length + 1) (cellsX L ++ [.int .i64 m.p, .int .i64 m.q, .int .i64 m.r, .int .i64 m.s])) :
    w.ownsRow B e 4 v K.length (cellsX K) := by
  subst hx
  rw [List.length_append, cellsX_append]
  exact h
theorem one4 (a b c d : Int) : ∀ u ∈ ([.int .i64 a, .int .i64 b, .int .i64 c, .int .i64 d] : List Value), u.oneCell' = true := by
  intro u hu
  simp at hu
  rcases hu with rfl | rfl | rfl | rfl <;> rfl
theorem cells4 {w : World} {g : Nat} {e : TypeId} {a b c d : Value} (h : Blk w g e #[a, b, c, d]) : ∀ j u, [a, b, c, d][j]? = some u → w.cell? ((⟨g, 0, none⟩ : Addr).add j) = some u := by
  intro j u hj
  have := h.cell j
  match j, hj with
  | 0, hj => simpa [Addr.add, ← hj] using h.cell 0
  | 1, hj => simpa [Addr.add, ← hj] using h.cell 1
  | 2, hj => simpa [Addr.add, ← hj] using h.cell 2
  | 3, hj => simpa [Addr.add, ← hj] using h.cell 3
/-- The matrices of a prime index. -/
def mxL (p : Int) (k : Nat) : List Mx := (List.range k).map fun (j : Nat) => ⟨1, 0, (j : Int), p⟩
def mxA (p : Int) : List Mx := mxL p p.toNat ++ [⟨p, 0, 0, 1⟩]
theorem mxL_len (p : Int) (k : Nat) : (mxL p k).length = k := by simp [mxL]
theorem mxL_next (p : Int) (k : Nat) : mxL p (k + 1) = mxL p k ++ [⟨1, 0, (k : Int), p⟩] := by simp [mxL, List.range_succ]
def RetX (L : List Mx) (w : World) (e : Ending) (w' : World) : Prop := ∃ v, e = .returned v ∧ w'.ownsRow w.heap.size 83 4 v L.length (cellsX L) ∧ Below w.heap.size w w'
def MxSt (p : Int) (w : World) (v vi : Value) (wr : World) : Prop := ∃ k : Nat, vi = .int .i64 k ∧ (k : Int) ≤ p ∧ wr.ownsRow w.heap.size 83 4 v (mxL p k).length (cellsX (mxL p k)) ∧ Below w.heap.size w wr

set_option maxRecDepth 100000 in
set_option maxHeartbeats 1600000 in
theorem indexMatrices_any (p : Int) (w : World) (hp : 2 ≤ p ∧ p ≤ 43) : Calls Try.prog 139 #[.int .i64 p] w (RetX (mxA p) w) := by
  obtain ⟨i0, hi, hz0, hz1, hz2⟩ := info_parts infoMx
  obtain ⟨p1, p2⟩ := hp
  go_enter Try.func139, Try.ntmps139
  go_wp2
  go_loopw [3, 4] (fun v vi wr => MxSt p w v vi wr) (fun _ vi _ => (p - intOf vi).toNat)
  case atStart => exact ⟨0, rfl, by omega, own_empty (Nat.le_refl _), (by repeat (first | with_reducible exact Below.refl _ _ | with_reducible assumption | with_reducible apply Below.drew | with_reducible apply below_drewN | (with_reducible apply below_setp; (first | omega | (simp <;> omega))) | (with_reducible apply below_allocp; (first | omega | (simp <;> omega))) | (with_reducible refine below_viap (by assumption) ?_ ?_; (first | omega | (simp <;> omega)))))⟩
  case round =>
    obtain ⟨k, rfl, hk, hown, hbel⟩ := hrel
    have hz := hbel.size
    have hml := mxL_len p k
    by_cases hlt : (k : Int) < p
    · have hx := Lib.hid (mxL_next p k)
      generalize mxL p k = Q at hown hx hml
      have hq : Q.length ≤ 50 := by omega
      clear hml
      go_wp2_with (at_builtin; refine wpList_append_own _ rfl (.tmp 11) (.tmp 15) 117 rfl w.heap.size 83 i0 _ 4 32 Try.underlying117 hi hz0 hz1 hz2 rfl (by decide) u3 Q.length (cellsX Q) rfl ?_ ⟨wr.heap.size, 0, none⟩ 1 1 [.int .i64 1, .int .i64 0, .int .i64 k, .int .i64 p] rfl rfl ?_ (one4 _ _ _ _) ?_ ?_ ?_ ?_; exact (by repeat (first | with_reducible assumption | with_reducible apply own_alloc | with_reducible apply own_drew | with_reducible apply own_drewN | (with_reducible refine own_setp (by assumption) ?_ ?_; (first | omega | (simp <;> omega))) | (with_reducible refine own_call (by assumption) ?_))); exact cells4 (Blk.new _ _ _); (unfold maxLen; omega); omega; (simp; omega); intro x2 w2 hown2 hgr _)
      have hb2 : Below w.heap.size w w2 := below_grown (own_ge hown) (by simp; omega) hgr (by repeat (first | with_reducible exact Below.refl _ _ | with_reducible assumption | with_reducible apply Below.drew | with_reducible apply below_drewN | (with_reducible apply below_setp; (first | omega | (simp <;> omega))) | (with_reducible apply below_allocp; (first | omega | (simp <;> omega))) | (with_reducible refine below_viap (by assumption) ?_ ?_; (first | omega | (simp <;> omega)))))
      have ho2 := own_snocX (m := ⟨1, 0, (k : Int), p⟩) hx.out hown2
      clear hgr hown2 hown hbel
      go_wp2
      go_roundw
      case rel => exact ⟨k + 1, by go_num, by omega, ho2, hb2⟩
      case measure => simp [intOf]; omega
    · have ek : k = p.toNat := by omega
      have hx : Hid (mxA p = mxL p k ++ [⟨p, 0, 0, 1⟩]) := Lib.hid (by unfold mxA; rw [ek])
      generalize mxL p k = Q at hown hx hml
      have hq : Q.length ≤ 50 := by omega
      clear hml ek
      go_wp2_with (at_builtin; refine wpList_append_own _ rfl (.tmp 17) (.tmp 20) 117 rfl w.heap.size 83 i0 _ 4 32 Try.underlying117 hi hz0 hz1 hz2 rfl (by decide) u3 Q.length (cellsX Q) rfl ?_ ⟨wr.heap.size, 0, none⟩ 1 1 [.int .i64 p, .int .i64 0, .int .i64 0, .int .i64 1] rfl rfl ?_ (one4 _ _ _ _) ?_ ?_ ?_ ?_; exact (by repeat (first | with_reducible assumption | with_reducible apply own_alloc | with_reducible apply own_drew | with_reducible apply own_drewN | (with_reducible refine own_setp (by assumption) ?_ ?_; (first | omega | (simp <;> omega))) | (with_reducible refine own_call (by assumption) ?_))); exact cells4 (Blk.new _ _ _); (unfold maxLen; omega); omega; (simp; omega); intro x2 w2 hown2 hgr _)
      have hb2 : Below w.heap.size w w2 := below_grown (own_ge hown) (by simp; omega) hgr (by repeat (first | with_reducible exact Below.refl _ _ | with_reducible assumption | with_reducible apply Below.drew | with_reducible apply below_drewN | (with_reducible apply below_setp; (first | omega | (simp <;> omega))) | (with_reducible apply below_allocp; (first | omega | (simp <;> omega))) | (with_reducible refine below_viap (by assumption) ?_ ?_; (first | omega | (simp <;> omega)))))
      have ho2 := own_snocX (m := ⟨p, 0, 0, 1⟩) hx.out hown2
      clear hgr hown2 hown hbel
      go_wp2
      go_ret
      exact ⟨_, rfl, ho2, hb2⟩

set_option maxRecDepth 100000 in
set_option maxHeartbeats 1600000 in
theorem hkMatrices_any (p : Int) (w : World) (hp : 2 ≤ p ∧ p ≤ 43) : Calls Try.prog 138 #[.int .i64 p] w (RetX (mxA p) w) := by
  obtain ⟨i0, hi, hz0, hz1, hz2⟩ := info_parts infoMx
  obtain ⟨p1, p2⟩ := hp
  go_enter Try.func138, Try.ntmps138
  go_wp2
  go_loopw [3, 4] (fun v vi wr => MxSt p w v vi wr) (fun _ vi _ => (p - intOf vi).toNat)
  case atStart => exact ⟨0, rfl, by omega, World.ownsRow_nil _ _ _ _, (by repeat (first | with_reducible exact Below.refl _ _ | with_reducible assumption | with_reducible apply Below.drew | with_reducible apply below_drewN | (with_reducible apply below_setp; (first | omega | (simp <;> omega))) | (with_reducible apply below_allocp; (first | omega | (simp <;> omega))) | (with_reducible refine below_viap (by assumption) ?_ ?_; (first | omega | (simp <;> omega)))))⟩
  case round =>
    obtain ⟨k, rfl, hk, hown, hbel⟩ := hrel
    have hz := hbel.size
    have hml := mxL_len p k
    by_cases hlt : (k : Int) < p
    · have hx := Lib.hid (mxL_next p k)
      generalize mxL p k = Q at hown hx hml
      have hq : Q.length ≤ 50 := by omega
      clear hml
      go_wp2_with (at_builtin; refine wpList_append_own _ rfl (.tmp 10) (.tmp 14) 117 rfl w.heap.size 83 i0 _ 4 32 Try.underlying117 hi hz0 hz1 hz2 rfl (by decide) u3 Q.length (cellsX Q) rfl ?_ ⟨wr.heap.size, 0, none⟩ 1 1 [.int .i64 1, .int .i64 0, .int .i64 k, .int .i64 p] rfl rfl ?_ (one4 _ _ _ _) ?_ ?_ ?_ ?_; exact (by repeat (first | with_reducible assumption | with_reducible apply own_alloc | with_reducible apply own_drew | with_reducible apply own_drewN | (with_reducible refine own_setp (by assumption) ?_ ?_; (first | omega | (simp <;> omega))) | (with_reducible refine own_call (by assumption) ?_))); exact cells4 (Blk.new _ _ _); (unfold maxLen; omega); omega; (simp; omega); intro x2 w2 hown2 hgr _)
      have hb2 : Below w.heap.size w w2 := below_grown (own_ge hown) (by simp; omega) hgr (by repeat (first | with_reducible exact Below.refl _ _ | with_reducible assumption | with_reducible apply Below.drew | with_reducible apply below_drewN | (with_reducible apply below_setp; (first | omega | (simp <;> omega))) | (with_reducible apply below_allocp; (first | omega | (simp <;> omega))) | (with_reducible refine below_viap (by assumption) ?_ ?_; (first | omega | (simp <;> omega)))))
      have ho2 := own_snocX (m := ⟨1, 0, (k : Int), p⟩) hx.out hown2
      clear hgr hown2 hown hbel
      go_wp2
      go_roundw
      case rel => exact ⟨k + 1, by go_num, by omega, ho2, hb2⟩
      case measure => simp [intOf]; omega
    · have ek : k = p.toNat := by omega
      have hx : Hid (mxA p = mxL p k ++ [⟨p, 0, 0, 1⟩]) := Lib.hid (by unfold mxA; rw [ek])
      generalize mxL p k = Q at hown hx hml
      have hq : Q.length ≤ 50 := by omega
      clear hml ek
      go_wp2_with (at_builtin; refine wpList_append_own _ rfl (.tmp 16) (.tmp 19) 117 rfl w.heap.size 83 i0 _ 4 32 Try.underlying117 hi hz0 hz1 hz2 rfl (by decide) u3 Q.length (cellsX Q) rfl ?_ ⟨wr.heap.size, 0, none⟩ 1 1 [.int .i64 p, .int .i64 0, .int .i64 0, .int .i64 1] rfl rfl ?_ (one4 _ _ _ _) ?_ ?_ ?_ ?_; exact (by repeat (first | with_reducible assumption | with_reducible apply own_alloc | with_reducible apply own_drew | with_reducible apply own_drewN | (with_reducible refine own_setp (by assumption) ?_ ?_; (first | omega | (simp <;> omega))) | (with_reducible refine own_call (by assumption) ?_))); exact cells4 (Blk.new _ _ _); (unfold maxLen; omega); omega; (simp; omega); intro x2 w2 hown2 hgr _)
      have hb2 : Below w.heap.size w w2 := below_grown (own_ge hown) (by simp; omega) hgr (by repeat (first | with_reducible exact Below.refl _ _ | with_reducible assumption | with_reducible apply Below.drew | with_reducible apply below_drewN | (with_reducible apply below_setp; (first | omega | (simp <;> omega))) | (with_reducible apply below_allocp; (first | omega | (simp <;> omega))) | (with_reducible refine below_viap (by assumption) ?_ ?_; (first | omega | (simp <;> omega)))))
      have ho2 := own_snocX (m := ⟨p, 0, 0, 1⟩) hx.out hown2
      clear hgr hown2 hown hbel
      go_wp2
      go_ret
      exact ⟨_, rfl, ho2, hb2⟩
end Go.Proofs.Ytcijjnjgifoipaa
