/- Contracts: the primitive forms of a list. -/
import Derived.Test.YtifkmjmhhklkjaaG2
namespace Go.Proofs.Ytifkmjmhhklkjaa
open Go.RowKit

/-- Forms that are small. -/
def Small (L : List Fm) : Prop := ∀ f ∈ L, (-1000000000000 ≤ f.a ∧ f.a ≤ 1000000000000) ∧ (-1000000000000 ≤ f.b ∧ f.b ≤ 1000000000000) ∧ (-1000000000000 ≤ f.c ∧ f.c ≤ 1000000000000)

theorem own_form {w : World} {B : Nat} {e : TypeId} {sz : Nat} {v : Value} {n : Nat} {xs : List Value} (h : w.ownsRow B e sz v n xs) :
    (v = .slice none 0 0 ∧ n = 0) ∨ ∃ g cap, v = .slice (some ⟨g, 0, none⟩) n cap ∧ B ≤ g ∧ g < w.heap.size ∧ ∀ j u, xs[j]? = some u → w.cell? ⟨g, j, none⟩ = some u := by
  have hc := fun g => World.ownsRow.cells (g := g) h
  rcases h.2 with ⟨rfl, h0⟩ | ⟨g, cap, cur, rfl, hg, hh, _⟩
  · exact .inl ⟨rfl, h0⟩
  · refine .inr ⟨g, cap, rfl, hg, (Array.getElem?_eq_some_iff.1 hh).1, fun j u hu => ?_⟩
    have := hc g rfl j u hu
    have e : (⟨g, 0, none⟩ : Addr).add j = ⟨g, j, none⟩ := by unfold Addr.add; split <;> simp_all
    rwa [e] at this

/-- The three cells of the element k of a list of forms. -/
theorem own_cells {w : World} {L : List Fm} {g : Nat} (h : ∀ j u, (cellsF L)[j]? = some u → w.cell? ⟨g, j, none⟩ = some u) {k : Nat} (hk : k < L.length) :
    w.cell? ⟨g, k * 3, none⟩ = some (.int .i64 L[k].a) ∧ w.cell? ⟨g, k * 3 + 1, none⟩ = some (.int .i64 L[k].b) ∧ w.cell? ⟨g, k * 3 + 2, none⟩ = some (.int .i64 L[k].c) := by
  rw [show k * 3 = 3 * k by omega]
  obtain ⟨h1, h2, h3⟩ := cellsF_get L k hk
  exact ⟨h _ _ h1, h _ _ h2, h _ _ h3⟩

theorem filter_take {L : List Fm} {p : Fm → Bool} {k : Nat} (hk : k < L.length) : (L.take (k + 1)).filter p = (L.take k).filter p ++ (if p L[k] then [L[k]] else []) := by
  rw [List.take_succ_eq_append_getElem hk, List.filter_append]
  congr 1
  cases h : p L[k] <;> simp [h]

theorem filter_len {p : Fm → Bool} (L : List Fm) (k : Nat) {n : Nat} (h : L.length ≤ n) : ((L.take k).filter p).length ≤ n := by
  have h1 := List.length_filter_le p (L.take k)
  have h2 := List.length_take_le' k L
  omega

/-- The state of a loop that filters. -/
def FltSt (p : Fm → Bool) (L : List Fm) (w : World) (v vi : Value) (wr : World) : Prop :=
  ∃ k : Nat, vi = .int .i64 k ∧ k ≤ L.length ∧ wr.ownsRow w.heap.size 23 3 v ((L.take k).filter p).length (cellsF ((L.take k).filter p)) ∧ Below w.heap.size w wr

set_option maxRecDepth 100000 in
set_option maxHeartbeats 1600000 in
theorem primitiveOf_any (v : Value) (B : Nat) (L : List Fm) (w : World) (hs : Small L) (hl : L.length ≤ 100000) (hown0 : w.ownsRow B 23 3 v L.length (cellsF L)) :
    Calls Try.prog 137 #[v] w (RetF (L.filter primB) w) := by
  obtain ⟨i0, hi, hz0, hz1, hz2⟩ := info_parts infoForm
  rcases own_form hown0 with ⟨rfl, h0⟩ | ⟨g, cap, rfl, hg1, hg2, hcells⟩
  · have hL : L = [] := List.eq_nil_of_length_eq_zero h0
    subst hL
    clear hown0 h0
    go_enter Try.func137, Try.ntmps137
    go_wp2
    refine wp_loop_rounds 1 ?_
    rw [rounds_succ]
    go_wp2
    go_ret
    exact ⟨_, rfl, own_empty (Nat.le_refl _), (by repeat (first | with_reducible exact Below.refl _ _ | with_reducible assumption | with_reducible apply Below.drew | with_reducible apply below_drewN | (with_reducible apply below_setp; (first | omega | (simp <;> omega))) | (with_reducible apply below_allocp; (first | omega | (simp <;> omega))) | (with_reducible refine below_viap (by assumption) ?_ ?_; (first | omega | (simp <;> omega)))))⟩
  · have Hc := Lib.hid hcells
    have Hs := Lib.hid hs
    clear hown0 hcells hs
    go_enter Try.func137, Try.ntmps137
    go_wp2
    go_loopw [3, 9] (fun v i wr => FltSt primB L w v i wr) (fun _ i _ => L.length - (intOf i).toNat)
    case atStart => exact ⟨0, rfl, Nat.zero_le _, own_empty (Nat.le_refl _), (by repeat (first | with_reducible exact Below.refl _ _ | with_reducible assumption | with_reducible apply Below.drew | with_reducible apply below_drewN | (with_reducible apply below_setp; (first | omega | (simp <;> omega))) | (with_reducible apply below_allocp; (first | omega | (simp <;> omega))) | (with_reducible refine below_viap (by assumption) ?_ ?_; (first | omega | (simp <;> omega)))))⟩
    case round =>
      obtain ⟨k, rfl, hk, hown, hbel⟩ := hrel
      by_cases hlt : k < L.length
      · obtain ⟨c1, c2, c3⟩ := own_cells Hc.out hlt
        have d1 := (hbel.cell (p := ⟨g, k * 3, none⟩) hg2).trans c1
        have d2 := (hbel.cell (p := ⟨g, k * 3 + 1, none⟩) hg2).trans c2
        have d3 := (hbel.cell (p := ⟨g, k * 3 + 2, none⟩) hg2).trans c3
        obtain ⟨⟨a1, a2⟩, ⟨b1, b2⟩, ⟨q1, q2⟩⟩ := Hs.out L[k] (List.getElem_mem hlt)
        have hft := filter_take (p := primB) hlt
        generalize L[k] = f at *
        have Hft := Lib.hid hft
        clear c1 c2 c3 hft
        have fa : Far f.a := ⟨by omega, by omega⟩
        have fb : Far f.b := ⟨by omega, by omega⟩
        have fc : Far f.c := ⟨by omega, by omega⟩
        have hz := hbel.size
        have hlf := filter_len (p := primB) L k hl
        by_cases hp : primB f = true
        · have hx := Lib.hid (Hft.out.trans (by rw [if_pos hp]))
          have hcn : ((Int.gcd f.a (Int.gcd f.b f.c) : Int) == 1) = true := by have := of_decide_eq_true hp; rw [this]; rfl
          go_wp2_with (first
            | (go_at_call 56; (with_reducible refine (content_any f.a f.b f.c _ fa fb fc).mono ?_); rintro e v1 ⟨rfl, hB1⟩; have hZ1 := hB1.size; (try simp at hZ1); (try have zl1 : w.heap.size < v1.heap.size := by omega); (try have ze1 : w.heap.size ≤ v1.heap.size := by omega); (try have zn1 : ¬ w.heap.size = v1.heap.size := by omega); (try have zm1 : ¬ v1.heap.size = w.heap.size := by omega); have hC1_0 := fun o => (calm_cells hB1).1 (wr.heap.size) o (by first | omega | (simp <;> omega)); have hF1_0 := fun o => (calm_cells hB1).2 (wr.heap.size) o (by first | omega | (simp <;> omega)); (try have hl1_0 : wr.heap.size < v1.heap.size := by omega); (try have hm1_0 : ¬ wr.heap.size = v1.heap.size := by omega); (try have hn1_0 : ¬ v1.heap.size = wr.heap.size := by omega))
            | (at_builtin; refine wpList_append_own _ rfl (.tmp 16) (.tmp 18) 51 rfl w.heap.size 23 i0 _ 3 24 Try.underlying51 hi hz0 hz1 hz2 rfl (by decide) u3 ((L.take k).filter primB).length (cellsF ((L.take k).filter primB)) rfl ?_ ⟨v1.heap.size, 0, none⟩ 1 1 [.int .i64 f.a, .int .i64 f.b, .int .i64 f.c] rfl rfl ?_ (one3 _ _ _) ?_ ?_ ?_ ?_; exact (by repeat (first | with_reducible assumption | with_reducible apply own_alloc | with_reducible apply own_drew | with_reducible apply own_drewN | (with_reducible refine own_setp (by assumption) ?_ ?_; (first | omega | (simp <;> omega))) | (with_reducible refine own_call (by assumption) ?_))); exact cells3 (Blk.new _ _ _); (unfold maxLen; omega); omega; (simp; omega); intro v2 w2 hown2 hg2 _))
          have hb2 : Below w.heap.size w w2 := below_grown (own_ge hown) (by simp; omega) hg2 (by repeat (first | with_reducible exact Below.refl _ _ | with_reducible assumption | with_reducible apply Below.drew | with_reducible apply below_drewN | (with_reducible apply below_setp; (first | omega | (simp <;> omega))) | (with_reducible apply below_allocp; (first | omega | (simp <;> omega))) | (with_reducible refine below_viap (by assumption) ?_ ?_; (first | omega | (simp <;> omega)))))
          have ho2 := own_snoc hx.out hown2
          clear hg2 hown2 hown hbel
          go_wp2
          go_roundw
          case rel => exact ⟨k + 1, rfl, hlt, ho2, hb2⟩
          case measure => simp [intOf]; omega
        · have hx := Lib.hid (Hft.out.trans (by rw [if_neg hp, List.append_nil]))
          have hcn : ((Int.gcd f.a (Int.gcd f.b f.c) : Int) == 1) = false := by rw [beq_eq_false_iff_ne]; intro h; exact hp (decide_eq_true (by omega))
          go_wp2_with (go_at_call 56; (with_reducible refine (content_any f.a f.b f.c _ fa fb fc).mono ?_); rintro e v1 ⟨rfl, hB1⟩; have hZ1 := hB1.size; (try simp at hZ1); (try have zl1 : w.heap.size < v1.heap.size := by omega); (try have ze1 : w.heap.size ≤ v1.heap.size := by omega); (try have zn1 : ¬ w.heap.size = v1.heap.size := by omega); (try have zm1 : ¬ v1.heap.size = w.heap.size := by omega); have hC1_0 := fun o => (calm_cells hB1).1 (wr.heap.size) o (by first | omega | (simp <;> omega)); have hF1_0 := fun o => (calm_cells hB1).2 (wr.heap.size) o (by first | omega | (simp <;> omega)); (try have hl1_0 : wr.heap.size < v1.heap.size := by omega); (try have hm1_0 : ¬ wr.heap.size = v1.heap.size := by omega); (try have hn1_0 : ¬ v1.heap.size = wr.heap.size := by omega))
          go_roundw
          case rel => exact ⟨k + 1, rfl, hlt, by rw [hx.out]; exact (by repeat (first | with_reducible assumption | with_reducible apply own_alloc | with_reducible apply own_drew | with_reducible apply own_drewN | (with_reducible refine own_setp (by assumption) ?_ ?_; (first | omega | (simp <;> omega))) | (with_reducible refine own_call (by assumption) ?_))), (by repeat (first | with_reducible exact Below.refl _ _ | with_reducible assumption | with_reducible apply Below.drew | with_reducible apply below_drewN | (with_reducible apply below_setp; (first | omega | (simp <;> omega))) | (with_reducible apply below_allocp; (first | omega | (simp <;> omega))) | (with_reducible refine below_viap (by assumption) ?_ ?_; (first | omega | (simp <;> omega)))))⟩
          case measure => simp [intOf]; omega
      · have e : k = L.length := by omega
        have hx : (L.take k).filter primB = L.filter primB := by rw [e, List.take_length]
        have Hx := Lib.hid hx
        clear hx
        subst e
        go_wp2
        go_ret
        exact ⟨_, rfl, by rw [← Hx.out]; exact hown, hbel⟩
end Go.Proofs.Ytifkmjmhhklkjaa
