/- Contracts: ShortestPoints of both sides, in one. -/
import Derived.Test.YtblcmkhkbgikoaaGreatI5
namespace Go.Proofs.YtblcmkhkbgikoaaGreat
open Go.RowKit
theorem nd_leP {α : Type} [DecidableEq α] : ∀ {K L : List α}, K.Nodup → (∀ x ∈ K, x ∈ L) → K.length ≤ L.length
  | [], _, _, _ => Nat.zero_le _
  | x :: K, L, hn, hs => by
    rw [List.nodup_cons] at hn
    have hx := hs x (by simp)
    have ih := nd_leP (K := K) (L := L.erase x) hn.2 (fun y hy => by
      have hne : y ≠ x := fun e => hn.1 (by rw [← e]; exact hy)
      exact (List.mem_erase_of_ne hne).2 (hs y (by simp [hy])))
    rw [List.length_erase_of_mem hx] at ih
    have : 0 < L.length := List.length_pos_of_mem hx
    rw [List.length_cons]
    omega
theorem bxS_uniq {r : Fm} {m : M4} {A B D : Int} {n : Nat} {K L : List (Int × Int)} (h : BxS r m A B D n K) (k : BxS r m A B D n L) : K = L := srt_uniq h.1 k.1 (fun p => by rw [h.2, k.2])
theorem bxS_len {r : Fm} {m : M4} {A B D : Int} {n : Nat} {K : List (Int × Int)} (h : BxS r m A B D n K) : K.length ≤ 9 := by
  have hnd : K.Nodup := List.Pairwise.imp (fun {p q} hpq he => by rw [he, ltP_irr] at hpq; cases hpq) h.1
  have h1 := nd_leP (L := (bxL r n).map (laPt m A B D)) hnd (fun q hq => by
    obtain ⟨p, h1, h2⟩ := (h.2 q).1 hq
    exact List.mem_map.2 ⟨p, h1, h2.symm⟩)
  rw [List.length_map] at h1
  exact Nat.le_trans h1 (bxL_len r n)
/-- A number, a list that P tells, and a flag. -/
def RetG (x : Int) (P : List (Int × Int) → Prop) (ok : Bool) (w : World) (e : Ending) (w' : World) : Prop := ∃ K v, e = .returned (.tuple #[.int .i64 x, v, .bool ok]) ∧ P K ∧ w'.ownsRow w.heap.size 51 2 v K.length (cellsP K) ∧ Below w.heap.size w w'
theorem sp_both (f : Fm) (A B D : Int) : ∃ (x : Int) (ok : Bool) (P : List (Int × Int) → Prop), (∀ K L, P K → P L → K = L) ∧ (∀ K, P K → K.length ≤ 9) ∧
    (∀ w, Calls Tryz.prog 12 #[.agg #[.int .i64 f.a, .int .i64 f.b, .int .i64 f.c], .agg #[.int .i64 A, .int .i64 B, .int .i64 D]] w (RetG x P ok w)) ∧
    (∀ w, Calls Tryz.prog 11 #[.agg #[.int .i64 f.a, .int .i64 f.b, .int .i64 f.c], .agg #[.int .i64 A, .int .i64 B, .int .i64 D]] w (RetG x P ok w)) := by
  cases h : laA f A B D with
  | false =>
    refine ⟨0, false, fun K => K = [], fun K L h1 h2 => by rw [h1, h2], fun K h1 => by rw [h1]; exact Nat.zero_le _, fun w => ?_, fun w => ?_⟩
    · refine (specSP_no f A B D w h).mono ?_
      rintro e w' ⟨rfl, hb⟩
      exact ⟨[], _, rfl, rfl, ⟨by simp [cellsP], .inl ⟨rfl, rfl⟩⟩, hb⟩
    · refine (implSP_no f A B D w h).mono ?_
      rintro e w' ⟨v, rfl, ho, hb⟩
      exact ⟨[], _, rfl, rfl, ho, hb⟩
  | true =>
    have S := spV_of h
    refine ⟨(red (laF f A B D)).a, true, BxS (red (laF f A B D)) (redM (laF f A B D) M4.one) A B D 9, fun K L h1 h2 => bxS_uniq h1 h2, fun K h1 => bxS_len h1, fun w => ?_, fun w => ?_⟩
    · refine (specSP_yes f A B D _ _ w h S).mono ?_
      rintro e w' ⟨K, v, rfl, hK, ho, hb⟩
      exact ⟨K, v, rfl, hK, ho, hb⟩
    · refine (implSP_yes f A B D _ _ w h S).mono ?_
      rintro e w' ⟨K, v, rfl, hK, ho, hb⟩
      exact ⟨K, v, rfl, hK, ho, hb⟩
end Go.Proofs.YtblcmkhkbgikoaaGreat
