/- Contract: impl.sortPoints over a row of two to nine points. -/
import Derived.Test.YtblcmkhkbgikoaaGreatI2
namespace Go.Proofs.YtblcmkhkbgikoaaGreat
open Go.RowKit Go Go.Lib
noncomputable def ptT : TypeInfo := (Tryz.prog.info? 39).get (by kernel_rfl)
noncomputable def ptE : TypeInfo := (Tryz.prog.info? 51).get (by kernel_rfl)
theorem ptK (n : Nat) (h2 : 2 ≤ n) : Lib.swapperK n ptE 25 = 9 := by
  have a : ptE.hasPointers = false := by kernel_rfl
  have b : ptE.bytes = 16 := by kernel_rfl
  have c : (n == 0) = false := by simp; omega
  have d : (n == 1) = false := by simp; omega
  simp [Lib.swapperK, a, b, c, d]
set_option maxRecDepth 100000 in
set_option maxHeartbeats 1600000 in
theorem sliceP_any (K0 : List (Int × Int)) (n g cap B Bb Bs : Nat) (w : World) (hn : K0.length = n) (hn2 : 2 ≤ n) (hn9 : n ≤ 9) (hnd : K0.Nodup)
    (hown : w.ownsRow B 51 2 (.slice (some ⟨g, 0, none⟩) n cap) n (cellsP K0)) (lgw : g < w.heap.size) (hgB : Bb ≤ g) (hbox : w.cell? ⟨Bs, 0, none⟩ = some (.slice (some ⟨g, 0, none⟩) n cap)) (lB : Bs < w.heap.size) (nB : Bs ≠ g) :
    Calls Tryz.prog 56 #[.iface 39 (.slice (some ⟨g, 0, none⟩) n cap), .func (.func 57) #[] #[.pointer (some ⟨Bs, 0, none⟩)]] w fun e w' => e = .returned (.tuple #[]) ∧ ∃ K, K.Perm K0 ∧ SrtN K n ∧ w'.ownsRow B 51 2 (.slice (some ⟨g, 0, none⟩) n cap) n (cellsP K) ∧ Below Bb w w' := by
  have hp := fun lim (W : World) h1 h2 h3 h4 => pdqFn_any K0 n g cap Bs B 96 Bb lim #[.slice (some ⟨g, 0, none⟩) n cap, typeHandle Tryz.prog 51] W hn hn9 hnd h1 h2 h3 nB h4 hgB (Lib.hid (fun W K a b ha hb hl ho => swapP_run n g cap B ptE (by kernel_rfl) (by kernel_rfl) W K a b ha hb hl ho))
  have hq := Any.sort_Slice_of_pdq Tryz.laysGg6 39 51 ptT ptE (by kernel_rfl) (by kernel_rfl) (by kernel_rfl) (by kernel_rfl) 25 (fun _ => by kernel_rfl) (some ⟨g, 0, none⟩) n cap (by omega) 96 (by rw [ptK _ hn2]; kernel_rfl) (.func 57) #[] #[.pointer (some ⟨Bs, 0, none⟩)] w
    (fun w' => ∃ K, K.Perm K0 ∧ SrtN K n ∧ w'.ownsRow B 51 2 (.slice (some ⟨g, 0, none⟩) n cap) n (cellsP K) ∧ Below Bb w w')
  refine hq ?_
  have hs : sliceBound Tryz.prog 51 ptE 25 (some ⟨g, 0, none⟩) n cap = #[.slice (some ⟨g, 0, none⟩) n cap, typeHandle Tryz.prog 51] := by unfold sliceBound; rw [ptK _ hn2]; rfl
  rw [hs]
  have hB := ((Below.refl w.heap.size w).alloc (Nat.le_refl _) (.cells #[.slice (some ⟨g, 0, none⟩) n cap] 39))
  have hB2 : Below w.heap.size w (sliceWorld Tryz.prog Tryz.laysGg6_ren 39 (some ⟨g, 0, none⟩) n cap w) := hB.alloc (by simp) _
  have hz := hB2.size
  refine (hp _ _ (own_call hB2 hown) ((hB2.cell (p := ⟨Bs, 0, none⟩) lB).trans hbox) (by omega) (by omega)).mono ?_
  rintro e w' ⟨rfl, K, h1, h2, h3, h4⟩
  exact ⟨rfl, K, h1, h2, h3, (hB2.mono (by omega)).trans h4⟩
set_option maxRecDepth 100000 in
set_option maxHeartbeats 1600000 in
theorem sortPoints_any (K0 : List (Int × Int)) (n g cap B Bb : Nat) (w : World) (hn : K0.length = n) (hn2 : 2 ≤ n) (hn9 : n ≤ 9) (hnd : K0.Nodup)
    (hown : w.ownsRow B 51 2 (.slice (some ⟨g, 0, none⟩) n cap) n (cellsP K0)) (lgw : g < w.heap.size) (hgB : Bb ≤ g) :
    Calls Tryz.prog 31 #[.slice (some ⟨g, 0, none⟩) n cap] w fun e w' => e = .returned (.tuple #[]) ∧ ∃ K, K.Perm K0 ∧ SrtN K n ∧ w'.ownsRow B 51 2 (.slice (some ⟨g, 0, none⟩) n cap) n (cellsP K) ∧ Below Bb w w' := by
  have hB := ((Below.refl w.heap.size w).alloc (Nat.le_refl _) (.cells #[.slice (some ⟨g, 0, none⟩) n cap] 39))
  have hz := hB.size
  have hz1 : (w.alloc (.cells #[.slice (some ⟨g, 0, none⟩) n cap] 39)).heap.size = w.heap.size + 1 := by simp
  have hC := Lib.hid (sliceP_any K0 n g cap B Bb w.heap.size _ hn hn2 hn9 hnd (own_call hB hown) (by omega) hgB ((Blk.cell (Blk.new_at rfl) 0).trans rfl) (by omega) (by omega))
  have hB' : Below Bb w (w.alloc (.cells #[.slice (some ⟨g, 0, none⟩) n cap] 39)) := hB.mono (by omega)
  go_enter Tryz.func31, Tryz.ntmps31
  go_wp2_with fail
  refine hC.out.mono ?_
  rintro e w' ⟨rfl, K, h1, h2, h3, h4⟩
  clear hB hz hz1
  go_wp2
  refine bodyPost_end (results_none rfl _ _ _) rfl ?_
  exact ⟨rfl, K, h1, h2, h3, hB'.trans h4⟩
end Go.Proofs.YtblcmkhkbgikoaaGreat
