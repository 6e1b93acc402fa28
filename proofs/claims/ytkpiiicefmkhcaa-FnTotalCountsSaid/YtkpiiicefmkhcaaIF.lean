/- Contracts: the primitive points of a list; the reduced forms that represent a number; of the reference. -/
import Derived.Test.YtkpiiicefmkhcaaIE
namespace Go.Proofs.Ytkpiiicefmkhcaa
open Go.RowKit

set_option maxHeartbeats 800000 in
theorem vaShown_all (n : Int) (w : World) : Calls Try.prog 55 #[.int .i64 n] w fun e w' => e = .returned (.bool (shwB n)) ∧ w = w' := by
  have hL := Lib.hid (fun w => l1In_any n 1 10000 w)
  go_enter Try.func55, Try.ntmps55
  go_wp2_with (go_at_call 126; (with_reducible refine (hL.out _).mono ?_); rintro e v ⟨rfl, rfl⟩)
  go_ret
  exact ⟨rfl, rfl⟩
/-- Whether there is a primitive point, by whatever list of the points. -/
theorem prim_pos {d n : Int} {f : Fm} (D : Dsc d) (hf : f ∈ clsL d) (hn : 1 ≤ n) {L : List (Int × Int)} (h : ∀ p, p ∈ L ↔ vlP f.a f.b f.c p = n) : decide (0 < (L.filter prmP).length) = repP d n f := by
  unfold repP
  rw [Bool.eq_iff_iff, decide_eq_true_eq, decide_eq_true_eq, List.length_pos_iff_exists_mem, List.length_pos_iff_exists_mem]
  have k : ∀ p, p ∈ L ↔ p ∈ ptsL d n f := fun p => (h p).trans (ptsL_mem D hf hn p.1 p.2).symm
  constructor
  · rintro ⟨p, hp⟩
    rw [List.mem_filter] at hp
    exact ⟨p, List.mem_filter.2 ⟨(k p).1 hp.1, hp.2⟩⟩
  · rintro ⟨p, hp⟩
    rw [List.mem_filter] at hp
    exact ⟨p, List.mem_filter.2 ⟨(k p).2 hp.1, hp.2⟩⟩
theorem pts_bd2 {d n : Int} {f : Fm} (D : Dsc d) (hf : f ∈ clsL d) (hn : 1 ≤ n ∧ n ≤ 10000) {L : List (Int × Int)} (hnd : L.Nodup) (h : ∀ p, p ∈ L ↔ vlP f.a f.b f.c p = n) :
    L.length ≤ 50000 ∧ ∀ p ∈ L, (-1000000 ≤ p.1 ∧ p.1 ≤ 1000000) ∧ (-1000000 ≤ p.2 ∧ p.2 ≤ 1000000) := by
  have k : ∀ p, p ∈ L → p ∈ ptsL d n f := fun p hp => (ptsL_mem D hf hn.1 p.1 p.2).2 ((h p).1 hp)
  refine ⟨Nat.le_trans (len_sub hnd k) (pts_len D hf hn), fun p hp => ?_⟩
  have := pts_bd D hf hn p (k p hp)
  omega

end Go.Proofs.Ytkpiiicefmkhcaa
