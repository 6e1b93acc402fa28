/- Contracts: the composite of two classes by their indices, in the class group. -/
import Derived.Test.YtcijjnjgifoipaaT2
import Derived.Test.YtcijjnjgifoipaaW4
namespace Go.Proofs.Ytcijjnjgifoipaa
open Go.RowKit Go.Maps

set_option maxRecDepth 100000 in
/-- A look-up in the map of the indices. -/
theorem idx_run {L : List Fm} {w : World} {M n : Nat} {D : DataW Unit} {f : Fm} {j : Nat} (h : w.ownsMap Try.prog 32 (plainElem Try.prog 3) M n D) (hi : IdxM D L L.length) (hw : WfF f) (hj : j < L.length) (he : L[j] = f) :
    (Instr.lookup 60 (.map (some M)) (.agg #[.int .i64 f.a, .int .i64 f.b, .int .i64 f.c]) false).run Try.prog w = .ok (.int .i64 j) w := by
  obtain ⟨c, hrun, hat, _⟩ := h.lookup_int law_K1 Try.underlying60 Try.underlying3 (zeroInt_T w) (key_klF hw)
  have h2 := hi.2 j hj hj
  rw [he, hat] at h2
  injection h2 with h2; injection h2 with _ h2
  rw [h2] at hrun
  exact hrun

set_option maxRecDepth 100000 in
set_option maxHeartbeats 3200000 in
theorem gtimes_any (d : Int) (i k : Nat) (L : List Fm) (B G : Nat) (w : World) (hD : Dsc d) (hL : clsL d = L) (hi : i < L.length) (hk : k < L.length) (hg : Grp L B G w) :
    Calls Try.prog 77 #[.pointer (some ⟨G, 0, none⟩), .int .i64 i, .int .i64 k] w fun e w' => e = .returned (.int .i64 (gix L (cmp d L[i] L[k]))) ∧ Below w.heap.size w w' := by
  have hl : L.length ≤ 100000 := by rw [← hL]; exact Nat.le_trans (clsL_len d) (by decide)
  obtain ⟨base, cap, M, D, hblk, hown, hmap, hidx⟩ := hg
  have hml := hmap.lt
  have hmi : L[i] ∈ clsL d := by rw [hL]; exact List.getElem_mem hi
  have hmk : L[k] ∈ clsL d := by rw [hL]; exact List.getElem_mem hk
  have hmp := hD.cmpm hmi hmk
  have hW := cls_wf hD.lo hmp
  obtain ⟨g, rfl, hg2, d1, d2, d3⟩ := own_elem hown hi
  obtain ⟨g', hgg, _, e1, e2, e3⟩ := own_elem hown hk
  injection hgg with hgg; injection hgg with hgg; subst hgg
  have hc := Lib.hid (fun w => compose_cf d L[i] L[k] L[i] L[k] _ w (CF.of_mem hD hmi) (CF.of_mem hD hmk) rfl)
  rw [hL] at hmp
  obtain ⟨n, hn, hnp, hng⟩ := gix_mem hmp
  rw [hng]
  have cG := hblk.cell; have fG := hblk.frozen; have lG := hblk.lt
  have cG0 := cG 0; have cG1 := cG 1
  simp at cG0 cG1
  generalize L[i] = p at *
  generalize L[k] = q at *
  have Hm := Lib.hid hmap
  have Hi := Lib.hid hidx
  generalize Go.Proofs.Ytcijjnjgifoipaa.cmp d p q = r at *
  have Hn := Lib.hid hnp
  clear hmap hidx hown hblk hL hmi hmk hmp hng hnp hD
  go_enter Try.func77, Try.ntmps77
  go_wp2
  go_region_held3 (fun w' => w'.cell? ⟨G, 0, none⟩ = some (.slice (some ⟨g, 0, none⟩) L.length cap) ∧ w'.cell? ⟨G, 1, none⟩ = some (.map (some M)) ∧ w'.cell? ⟨g, i * 3, none⟩ = some (.int .i64 p.a) ∧ w'.cell? ⟨g, i * 3 + 1, none⟩ = some (.int .i64 p.b) ∧ w'.cell? ⟨g, i * 3 + 2, none⟩ = some (.int .i64 p.c) ∧ w'.cell? ⟨g, k * 3, none⟩ = some (.int .i64 q.a) ∧ w'.cell? ⟨g, k * 3 + 1, none⟩ = some (.int .i64 q.b) ∧ w'.cell? ⟨g, k * 3 + 2, none⟩ = some (.int .i64 q.c)) (first | (go_keep; done) | (go_simp; done)) ((go_at_call 80; (with_reducible refine (hc.out _).mono ?_); rintro e h1 ⟨rfl, hb1⟩; have hcc := (calm_cells hb1).1; have hff := (calm_cells hb1).2; have hsz1 := hb1.size; (try simp at hsz1); have g1 := fun o => hcc G o (by first | omega | (simp <;> omega)); have g2 := fun o => hcc g o (by first | omega | (simp <;> omega)); have hrun := idx_run (ownsMap_below (World.ownsMap.drew Hm.out) hb1 (by simp; omega)) Hi.out hW hn Hn.out; clear hcc hff))
  go_wp2
  go_ret
  exact ⟨rfl, (by repeat (first | with_reducible exact Below.refl _ _ | with_reducible assumption | with_reducible apply Below.drew | with_reducible apply below_drewN | (with_reducible apply below_setp; (first | omega | (simp <;> omega))) | (with_reducible apply below_allocp; (first | omega | (simp <;> omega))) | (with_reducible refine below_viap (by assumption) ?_ ?_; (first | omega | (simp <;> omega)))))⟩
end Go.Proofs.Ytcijjnjgifoipaa
