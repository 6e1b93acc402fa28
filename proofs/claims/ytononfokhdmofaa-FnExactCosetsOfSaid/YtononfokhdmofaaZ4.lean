/- Contracts of GeneratedClasses, of the program: the whole. -/
import Derived.Test.YtononfokhdmofaaZ3
namespace Go.Proofs.Ytononfokhdmofaa
open Go.RowKit Go.Maps

/-- The forms whose indices below k bear a mark. -/
def genF (L : List Fm) (p : Nat → Bool) (k : Nat) : List Fm := ((List.range k).filter p).map fun i => L.getD i ⟨0, 0, 0⟩
theorem genF_next {L : List Fm} {p : Nat → Bool} {k : Nat} (h : k < L.length) : genF L p (k + 1) = genF L p k ++ (if p k then [L[k]] else []) := by
  unfold genF
  rw [List.range_succ, List.filter_append, List.map_append]
  congr 1
  cases hp : p k with
  | true => simp [hp, List.getD_eq_getElem?_getD, h]
  | false => simp [hp]
theorem genF_len (L : List Fm) (p : Nat → Bool) (k : Nat) : (genF L p k).length ≤ k := by
  unfold genF
  rw [List.length_map]
  exact Nat.le_trans (List.length_filter_le _ _) (by simp)
/-- What GeneratedClasses gives. -/
def GdL (d : Int) (zs : List Fm) (L : List Fm) (ok : Bool) : Prop :=
  (SgS d zs = false ∧ L = [] ∧ ok = false) ∨ (SgS d zs = true ∧ L = genF (clsL d) (rchB (mulN d (clsL d)) (gensN (clsL d) zs)) (clsL d).length ∧ ok = true)
theorem gdL_ex (d : Int) (zs : List Fm) : ∃ L ok, GdL d zs L ok ∧ L.length ≤ 100000 := by
  cases hc : SgS d zs with
  | false => exact ⟨_, _, .inl ⟨hc, rfl, rfl⟩, by simp⟩
  | true => exact ⟨_, _, .inr ⟨hc, rfl, rfl⟩, Nat.le_trans (genF_len _ _ _) (Nat.le_trans (clsL_len _) (by decide))⟩
def GclSt (L : List Fm) (p : Nat → Bool) (w1 : World) (v vi : Value) (wr : World) : Prop :=
  ∃ k : Nat, vi = .int .i64 k ∧ k ≤ L.length ∧ wr.ownsRow w1.heap.size 26 3 v (genF L p k).length (cellsF (genF L p k)) ∧ Below w1.heap.size w1 wr

set_option maxRecDepth 100000 in
set_option maxHeartbeats 3200000 in
theorem implGd_any (d : Int) (v : Value) (B2 : Nat) (zs L' : List Fm) (ok : Bool) (w : World) (hzl : zs.length ≤ 2000000) (h : GdL d zs L' ok) (ho : w.ownsRow B2 26 3 v zs.length (cellsF zs)) :
    Calls Try.prog 34 #[.int .i64 d, v] w (RetFb L' ok w) := by
  have hS0 := subgroup_any d (clsL d) zs v B2 w rfl hzl ho
  clear ho
  rcases h with ⟨hc, rfl, rfl⟩ | ⟨hc, rfl, rfl⟩
  · have hS : Hid (Calls Try.prog 91 #[.int .i64 d, v] w fun e w' => e = .returned (.tuple #[.pointer none, .slice none 0 0, .bool false]) ∧ Below w.heap.size w w') := Lib.hid (hS0.mono (fun e w' h => by
      rcases h with ⟨_, a, b⟩ | ⟨a, _⟩
      · exact ⟨a, b⟩
      · rw [hc] at a; cases a))
    clear hS0
    go_enter Try.func34, Try.ntmps34
    go_wp2_with (go_at_call 91; refine hS.out.mono ?_; rintro e w1 ⟨rfl, hb1⟩; have hz1 := hb1.size)
    go_ret2
    exact ⟨_, rfl, own_empty (by omega), (by repeat (first | with_reducible exact Below.refl _ _ | with_reducible assumption | with_reducible apply Below.drew | with_reducible apply below_drewN | (with_reducible apply below_setp; (first | omega | (simp <;> omega))) | (with_reducible apply below_allocp; (first | omega | (simp <;> omega))) | (with_reducible refine below_viap (by assumption) ?_ ?_; (first | omega | (simp <;> omega)))))⟩
  · obtain ⟨i0, hi, hz0, hz1, hz2⟩ := info_parts infoForm
    have hl : (clsL d).length ≤ 100000 := Nat.le_trans (clsL_len d) (by decide)
    obtain ⟨p, hp⟩ : ∃ p, rchB (mulN d (clsL d)) (gensN (clsL d) zs) = p := ⟨_, rfl⟩
    have hS1 : Calls Try.prog 91 #[.int .i64 d, v] w fun e w' => ∃ G O, e = .returned (.tuple #[.pointer (some ⟨G, 0, none⟩), .slice (some ⟨O, 0, none⟩) (clsL d).length (clsL d).length, .bool true]) ∧ Grp (clsL d) w.heap.size G w' ∧ w.heap.size ≤ O ∧
        w'.rowIs O 4 (clsL d).length (fun i => .bool (rchB (mulN d (clsL d)) (gensN (clsL d) zs) i)) ∧ Below w.heap.size w w' := hS0.mono (fun e w' h => by
      rcases h with ⟨a, _⟩ | ⟨_, b⟩
      · rw [hc] at a; cases a
      · exact b)
    rw [hp] at hS1 ⊢
    have hS := Lib.hid hS1
    clear hS0 hS1 hp
    generalize clsL d = L at *
    go_enter Try.func34, Try.ntmps34
    go_wp2_with (go_at_call 91; refine hS.out.mono ?_; rintro e w1 ⟨G, O, rfl, hg, hO, hR, hb1⟩; have hz1' := hb1.size; obtain ⟨base, cap, M, Dm, hblk, howl, _, _⟩ := hg; have cG := hblk.cell; have fG := hblk.frozen; have lG := hblk.lt; have nG := Nat.ne_of_lt lG)
    have HR := Lib.hid hR
    have HL := Lib.hid howl
    have lO := hR.lt
    clear hR howl
    go_loopw [9, 28] (fun v i wr => GclSt L p w1 v i wr) (fun _ i _ => L.length - (intOf i).toNat)
    case atStart => exact ⟨0, rfl, Nat.zero_le _, own_empty (Nat.le_refl _), (by repeat (first | with_reducible exact Below.refl _ _ | with_reducible assumption | with_reducible apply Below.drew | with_reducible apply below_drewN | (with_reducible apply below_setp; (first | omega | (simp <;> omega))) | (with_reducible apply below_allocp; (first | omega | (simp <;> omega))) | (with_reducible refine below_viap (by assumption) ?_ ?_; (first | omega | (simp <;> omega)))))⟩
    case round =>
      obtain ⟨k, rfl, hk, hown, hbel⟩ := hrel
      have hz := hbel.size
      by_cases hlt : k < L.length
      · obtain ⟨g, rfl, hg2, d1, d2, d3⟩ := own_elem (own_call hbel HL.out) hlt
        have cR := (HR.out.of_block (hbel.block O lO)).cell hlt
        have hnx := genF_next (p := p) hlt
        have hql : (genF L p k).length ≤ 100000 := Nat.le_trans (genF_len _ _ _) (by omega)
        generalize L[k] = f at d1 d2 d3 hnx
        have nO : ¬ O = wr.heap.size := by omega
        have pO : O < wr.heap.size := by omega
        have oO : O < wr.heap.size + 1 := by omega
        generalize genF L p k = Q at hown hnx hql
        cases hpk : p k with
        | true =>
          have hx : Hid (genF L p (k + 1) = Q ++ [f]) := Lib.hid (by rw [hnx, hpk]; rfl)
          simp only [hpk] at cR
          clear hnx hpk
          go_wp2_with (at_builtin; refine wpList_append_own_at _ rfl (.tmp 37) (.tmp 39) 29 rfl w1.heap.size 26 i0 _ 3 24 Try.underlying29 hi hz0 hz1 hz2 rfl (by decide) u9 Q.length (cellsF Q) rfl ?_ ⟨wr.heap.size + 1, 0, none⟩ 1 1 [.int .i64 f.a, .int .i64 f.b, .int .i64 f.c] rfl rfl ?_ (one3 _ _ _) ?_ ?_ ?_ ?_; exact (by repeat (first | with_reducible assumption | with_reducible apply own_alloc | with_reducible apply own_drew | with_reducible apply own_drewN | (with_reducible refine own_setp (by assumption) ?_ ?_; (first | omega | (simp <;> omega))) | (with_reducible refine own_call (by assumption) ?_))); exact cells3 (Blk.new_at (by simp)); (unfold maxLen; omega); omega; (simp; omega); intro x2 w2 hown2 hgr _ hloc)
          have hb2 : Below w1.heap.size w1 w2 := below_grown (own_ge hown) (by simp; omega) hgr (by repeat (first | with_reducible exact Below.refl _ _ | with_reducible assumption | with_reducible apply Below.drew | with_reducible apply below_drewN | (with_reducible apply below_setp; (first | omega | (simp <;> omega))) | (with_reducible apply below_allocp; (first | omega | (simp <;> omega))) | (with_reducible refine below_viap (by assumption) ?_ ?_; (first | omega | (simp <;> omega)))))
          have ho2 := own_snoc (L := Q) (f := f) (K := genF L p (k + 1)) hx.out hown2
          clear hgr hown2 hown hbel hloc
          go_wp2
          go_roundw
          case rel => exact ⟨k + 1, rfl, hlt, ho2, hb2⟩
          case measure => simp [intOf]; omega
        | false =>
          have hx : Hid (genF L p (k + 1) = Q) := Lib.hid (by rw [hnx, hpk]; simp)
          simp only [hpk] at cR
          clear hnx hpk
          go_wp2
          go_roundw
          case rel => exact ⟨k + 1, rfl, hlt, by rw [hx.out]; exact own_alloc hown, (by repeat (first | with_reducible exact Below.refl _ _ | with_reducible assumption | with_reducible apply Below.drew | with_reducible apply below_drewN | (with_reducible apply below_setp; (first | omega | (simp <;> omega))) | (with_reducible apply below_allocp; (first | omega | (simp <;> omega))) | (with_reducible refine below_viap (by assumption) ?_ ?_; (first | omega | (simp <;> omega)))))⟩
          case measure => simp [intOf]; omega
      · have e : k = L.length := by omega
        subst e
        go_wp2
        go_ret2
        exact ⟨_, rfl, own_base hz1' hown, below_via hb1 hbel hz1'⟩
end Go.Proofs.Ytononfokhdmofaa
