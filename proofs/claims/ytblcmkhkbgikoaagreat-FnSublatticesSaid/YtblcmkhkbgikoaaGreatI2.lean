/- The swap of reflectlite over a row of points. -/
import Derived.Test.YtblcmkhkbgikoaaGreatI1
import Derived.Test.YtblcmkhkbgikoaaGreatSi
import Derived.Shelf.SlSortFuncK.WholeK
namespace Go.Proofs.YtblcmkhkbgikoaaGreat
open Go.RowKit Go Go.Lib
theorem own_frozI {w : World} {B g n m cap sz : Nat} {e : TypeId} {xs : List Value} (h : w.ownsRow B e sz (.slice (some ⟨g, 0, none⟩) n cap) m xs) (i : Nat) : w.frozen? ⟨g, i, none⟩ = false := by
  rcases h.2 with ⟨hv, _⟩ | ⟨g', cap', cur, hv, hbg, hg, _⟩
  · cases hv
  · injection hv with e1 _ _
    injection e1 with e1
    injection e1 with e1
    subst e1
    exact Blk.frozen (cs := cur) hg i
set_option maxRecDepth 100000 in
set_option maxHeartbeats 1600000 in
theorem swapP_run (n g cap B : Nat) (ie : TypeInfo) (hie : Tryz.prog.info? 51 = some ie) (hz : ie.size = 2) (W : World) (K : List (Int × Int)) (a b : Nat) (ha : a < K.length) (hb : b < K.length) (hl : K.length = n) (ho : W.ownsRow B 51 2 (.slice (some ⟨g, 0, none⟩) n cap) n (cellsP K)) :
    (callFunc 96 (#[.int .i64 (a : Int), .int .i64 (b : Int)] ++ #[.slice (some ⟨g, 0, none⟩) n cap, typeHandle Tryz.prog 51])).run Tryz.prog W = .ok (.value (.tuple #[])) ((W.setCells g (a * 2) [.int .i64 K[b].1, .int .i64 K[b].2]).setCells g (b * 2) [.int .i64 K[a].1, .int .i64 K[a].2]) := by
  have fz := fun i => own_frozI ho i
  have ho' : W.ownsRow B 51 2 (.slice (some ⟨g, 0, none⟩) K.length cap) K.length (cellsP K) := by rw [hl]; exact ho
  obtain ⟨g1, e1, _, c1, c2⟩ := own_elemP ho' ha
  injection e1 with e1
  injection e1 with e1
  subst e1
  obtain ⟨g2, e2, _, c3, c4⟩ := own_elemP ho' hb
  injection e2 with e2
  injection e2 with e2
  subst e2
  have hs := run_swap_cells (P := Tryz.prog) false 51 ie hie (fun _ => by kernel_rfl) g 0 n cap a b (by omega) (by omega) [.int .i64 K[a].1, .int .i64 K[a].2] [.int .i64 K[b].1, .int .i64 K[b].2] (by rw [hz]; rfl) (by rw [hz]; rfl) (by intro v hv; simp at hv; rcases hv with rfl | rfl <;> rfl) (by intro v hv; simp at hv; rcases hv with rfl | rfl <;> rfl) W
    (by intro k v hk; rw [hz]; match k, hk with | 0, hk => (injection hk with hk; subst hk; simpa using c1) | 1, hk => (injection hk with hk; subst hk; simpa using c2))
    (by intro k v hk; rw [hz]; match k, hk with | 0, hk => (injection hk with hk; subst hk; simpa using c3) | 1, hk => (injection hk with hk; subst hk; simpa using c4))
    (fun _ _ => fz _) (fun _ _ => fz _)
  rw [hz] at hs
  simp only [Nat.zero_add] at hs
  rw [run_callFunc_extern Tryz.func96 (by kernel_rfl) (by kernel_rfl) (by kernel_rfl) (e := Extern.ReflectliteSwapper.swap false) (by kernel_rfl)]
  rw [show (#[.int .i64 (a : Int), .int .i64 (b : Int)] ++ #[.slice (some ⟨g, 0, none⟩) n cap, typeHandle Tryz.prog 51] : Array Value) = #[.int .i64 a, .int .i64 b, .slice (some ⟨g, 0, none⟩) n cap, typeHandle Tryz.prog 51] from rfl, hs]
  simp only [Result.andThen]
end Go.Proofs.YtblcmkhkbgikoaaGreat
