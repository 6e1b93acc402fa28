/- Contracts: lists of lists of integers that are the same, as the laws compare them. -/
import Derived.Test.YteehcjjhkphdnaaGreatDB
import Derived.Test.YteehcjjhkphdnaaGreatY5
import Derived.Test.YteehcjjhkphdnaaGreatBC
namespace Go.Proofs.YteehcjjhkphdnaaGreat
open Go.RowKit

set_option maxRecDepth 100000 in
set_option maxHeartbeats 1600000 in
theorem sameLists_same (v u : Value) (B B2 : Nat) (G : List (List Int)) (w : World) (hl : G.length ≤ 100000) (hr : ∀ g ∈ G, g.length ≤ 100000) (h1 : NestI B G v w) (h2 : NestI B2 G u w) :
    Calls Tryz.prog 44 #[v, u] w fun e w' => e = .returned (.bool true) ∧ Below w.heap.size w w' := by
  obtain ⟨b1, c1, rfl⟩ := h1.shape
  obtain ⟨b2, c2, rfl⟩ := h2.shape
  obtain ⟨vs, n1⟩ := h1
  obtain ⟨us, n2⟩ := h2
  have H1 := Lib.hid n1
  have H2 := Lib.hid n2
  clear n1 n2
  go_enter Tryz.func44, Tryz.ntmps44
  go_wp2
  go_loopw [13] (fun i wr => ∃ k : Nat, i = .int .i64 k ∧ k ≤ G.length ∧ Below w.heap.size w wr) (fun i _ => G.length - (intOf i).toNat)
  case atStart => exact ⟨0, rfl, Nat.zero_le _, (by repeat (first | with_reducible exact Below.refl _ _ | with_reducible assumption | with_reducible apply Below.drew | with_reducible apply below_drewN | (with_reducible apply below_setp; (first | omega | (simp <;> omega))) | (with_reducible apply below_allocp; (first | omega | (simp <;> omega))) | (with_reducible refine below_viap (by assumption) ?_ ?_; (first | omega | (simp <;> omega)))))⟩
  case round =>
    obtain ⟨k, rfl, hk, hbel⟩ := hrel
    have hz := hbel.size
    by_cases hlt : k < G.length
    · have m1 := H1.out.call hbel
      have m2 := H2.out.call hbel
      obtain ⟨x, hx, hxo, _⟩ := m1.2.1 k hlt
      obtain ⟨y, hy, hyo, _⟩ := m2.2.1 k hlt
      obtain ⟨O1, rfl, l1, e1⟩ := ownV_at m1.1 hlt hx
      obtain ⟨O2, rfl, l2, e2⟩ := ownV_at m2.1 hlt hy
      have hgl := hr _ (List.getElem_mem hlt)
      have HX := Lib.hid hxo
      have HY := Lib.hid hyo
      generalize G[k] = g at HX HY hgl
      clear hxo hyo hx hy m1 m2
      go_wp2
      refine wp_region_calm 10 (Below (wr.heap.size) _) (by kernel_rfl) (by kernel_rfl) ((Below.refl _ _).drew) ?_
      simp only [List.take_succ_cons, List.take_zero, List.drop_succ_cons, List.drop_zero]
      repeat (first | (apply wpCalm_go; go_simp; (intro w' hw' hcc hff; go_simp; first | exact rfl | (refine (sameInts_same x y _ _ g _ (by omega) (own_bel hw' (own_lt HX.out) HX.out) (own_bel hw' (own_lt HY.out) HY.out)).mono ?_; rintro e w1 ⟨rfl, hb⟩; exact ⟨rfl, calm_call (by have := hw'.size; omega) hw' hb⟩)); (intro K hK; go_simp; refine hK _ ?_; clear hK K)) | (apply wpCalm_skip; go_simp; (intro K hK; go_simp; refine hK _ ?_; clear hK K)))
      refine wpCalm_nil ?_
      intro w1 hw1
      have hcc := (calm_cells hw1).1
      have hff := (calm_cells hw1).2
      have hss := calm_size hw1
      have hsz := hw1.size
      (try simp at hsz)
      go_wp2
      exact ⟨⟨k + 1, rfl, hlt, below_via hbel hw1 hz⟩, by simp [intOf]; omega⟩
    · go_wp2
      go_ret
      exact ⟨rfl, hbel⟩
end Go.Proofs.YteehcjjhkphdnaaGreat
