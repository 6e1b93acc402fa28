/- Contract: sort.pdqsort_func over a row of at most nine points. -/
import Derived.Test.YtblcmkhkbgikoaaGreatHS
namespace Go.Proofs.YtblcmkhkbgikoaaGreat
open Go.RowKit Go
set_option maxRecDepth 100000 in
set_option maxHeartbeats 1600000 in
theorem pdqFn_any (K0 : List (Int × Int)) (n g cap Bs B sf Bb : Nat) (lim : Int) (sb : Array Value) (w : World) (hn : K0.length = n) (hn9 : n ≤ 9) (hnd : K0.Nodup)
    (hown : w.ownsRow B 51 2 (.slice (some ⟨g, 0, none⟩) n cap) n (cellsP K0)) (hbox : w.cell? ⟨Bs, 0, none⟩ = some (.slice (some ⟨g, 0, none⟩) n cap)) (lB : Bs < w.heap.size) (nB : Bs ≠ g) (lgw : g < w.heap.size) (hgB : Bb ≤ g)
    (hsw : Hid (∀ (W : World) (K : List (Int × Int)) (a b : Nat) (ha : a < K.length) (hb : b < K.length), K.length = n → W.ownsRow B 51 2 (.slice (some ⟨g, 0, none⟩) n cap) n (cellsP K) → (callFunc sf (#[.int .i64 (a : Int), .int .i64 (b : Int)] ++ sb)).run Tryz.prog W = .ok (.value (.tuple #[])) ((W.setCells g (a * 2) [.int .i64 K[b].1, .int .i64 K[b].2]).setCells g (b * 2) [.int .i64 K[a].1, .int .i64 K[a].2]))) :
    Calls Tryz.prog 78 #[.agg #[.func (.func 57) #[] #[.pointer (some ⟨Bs, 0, none⟩)], .func (.func sf) #[] sb], .int .i64 0, .int .i64 n, .int .i64 lim] w fun e w' => e = .returned (.tuple #[]) ∧ ∃ K, K.Perm K0 ∧ SrtN K n ∧ w'.ownsRow B 51 2 (.slice (some ⟨g, 0, none⟩) n cap) n (cellsP K) ∧ Below Bb w w' := by
  have hA0 : (w.alloc (.cells #[.func (.func 57) #[] #[.pointer (some ⟨Bs, 0, none⟩)], .func (.func sf) #[] sb] 108)).heap.size = w.heap.size + 1 := by simp
  have W1 := Lib.hid (show wrap64 ((n : Int) - 0) = (n : Int) from by rw [IntWalk.wrap64_in _ (by omega)]; omega)
  have kN : ¬ (12 : Int) < (n : Int) := by omega
  have kN' : (n : Int) ≤ 12 := by omega
  have HI := Lib.hid (fun W (h1 : W.ownsRow B 51 2 (.slice (some ⟨g, 0, none⟩) n cap) n (cellsP K0)) h2 h3 h4 => insSort_any K0 n g cap Bs B sf Bb sb W hn hn9 hnd h1 h2 h3 nB h4 hgB hsw)
  clear hsw
  go_enter Tryz.func78, Tryz.ntmps78
  have w1 := W1.out
  go_wp2
  refine wp_loop_rounds 1 ?_
  rw [rounds_succ]
  have ho1 := own_alloc (o := .cells #[.func (.func 57) #[] #[.pointer (some ⟨Bs, 0, none⟩)], .func (.func sf) #[] sb] 108) hown
  have hb1 := (((Below.refl w.heap.size w).alloc (Nat.le_refl _) (.cells #[.func (.func 57) #[] #[.pointer (some ⟨Bs, 0, none⟩)], .func (.func sf) #[] sb] 108)).cell (p := ⟨Bs, 0, none⟩) lB).trans hbox
  have hB1 := (Below.refl Bb w).alloc (show Bb ≤ w.heap.size by omega) (.cells #[.func (.func 57) #[] #[.pointer (some ⟨Bs, 0, none⟩)], .func (.func sf) #[] sb] 108)
  have hC := HI.out _ ho1 hb1 (by omega) (by omega)
  go_wp2_with (go_at_call 99; refine hC.mono ?_; rintro e w' ⟨rfl, K, hK1, hK2, hK3, hK4⟩)
  (try simp only [Exit.inBlock, Exit.then]); refine bodyPost_ret (results_none rfl _ _ _) rfl ?_
  exact ⟨rfl, K, hK1, hK2, hK3, hB1.trans hK4⟩
end Go.Proofs.YtblcmkhkbgikoaaGreat
