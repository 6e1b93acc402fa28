/- Plain facts and a contract for the law on products of ideals. -/
import Derived.Test.YtohgccgbbipjjaaGreatR8
import Derived.Test.YtohgccgbbipjjaaGreatRU
namespace Go.Proofs.YtohgccgbbipjjaaGreat
open Go.RowKit

/-- What IdealProduct answers. -/
def IpR (d e1 a b e2 a' b' q1 q2 q3 : Int) (ok : Bool) : Prop :=
  ((idB d e1 a b && idB d e2 a' b') = false ∧ ok = false ∧ q1 = 0 ∧ q2 = 0 ∧ q3 = 0) ∨
  (IdV d e1 a b ∧ IdV d e2 a' b' ∧ ∃ e A p, PdR d a b a' b' e A (2 * p + sD d) ∧ HnP (sD d) (nD d) a ((b + sD d) / 2) a' ((b' + sD d) / 2) (2 * e * A) (e * (2 * p + sD d)) e ∧
    Pr (sD d) (nD d) (Id a ((b + sD d) / 2)) (Id a' ((b' + sD d) / 2)) = Sc (sD d) (nD d) ⟨e, 0⟩ (Id A (-p)) ∧ e ∣ a ∧
    ((ok = true ∧ idB d (e * (e1 * e2)) A ((-(2 * p + sD d)) % (2 * A)) = true ∧ q1 = e * (e1 * e2) ∧ q2 = A ∧ q3 = (-(2 * p + sD d)) % (2 * A)) ∨
     (ok = false ∧ idB d (e * (e1 * e2)) A ((-(2 * p + sD d)) % (2 * A)) = false ∧ q1 = 0 ∧ q2 = 0 ∧ q3 = 0)))
theorem ipR_ex (d e1 a b e2 a' b' : Int) : ∃ q1 q2 q3 ok, IpR d e1 a b e2 a' b' q1 q2 q3 ok := by
  cases h : idB d e1 a b && idB d e2 a' b' with
  | false => exact ⟨0, 0, 0, false, .inl ⟨h, rfl, rfl, rfl, rfl⟩⟩
  | true =>
    rw [Bool.and_eq_true] at h
    have hx := idB_iff.1 h.1
    have hy := idB_iff.1 h.2
    obtain ⟨e, A, p, h1, h2, h3, h4⟩ := pd_ex hx hy
    cases hi : idB d (e * (e1 * e2)) A ((-(2 * p + sD d)) % (2 * A)) with
    | true => exact ⟨_, _, _, true, .inr ⟨hx, hy, e, A, p, h1, h2, h3, h4, .inl ⟨rfl, hi, rfl, rfl, rfl⟩⟩⟩
    | false => exact ⟨_, _, _, false, .inr ⟨hx, hy, e, A, p, h1, h2, h3, h4, .inr ⟨rfl, hi, rfl, rfl, rfl⟩⟩⟩
theorem implIP_R {d e1 a b e2 a' b' q1 q2 q3 : Int} {ok : Bool} (w : World) (h : IpR d e1 a b e2 a' b' q1 q2 q3 ok) : Calls Tryz.prog 8 #[.int .i64 d, .agg #[.int .i64 e1, .int .i64 a, .int .i64 b], .agg #[.int .i64 e2, .int .i64 a', .int .i64 b']] w fun x w' => x = .returned (.tuple #[.agg #[.int .i64 q1, .int .i64 q2, .int .i64 q3], .bool ok]) ∧ Below w.heap.size w w' := by
  rcases h with ⟨h, rfl, rfl, rfl, rfl⟩ | ⟨hx, hy, e, A, p, h1, h2, h3, h4, ⟨rfl, hi, rfl, rfl, rfl⟩ | ⟨rfl, hi, rfl, rfl, rfl⟩⟩
  · exact implIP_no d e1 a b e2 a' b' w h
  · have := implIP_any d e1 a b e2 a' b' e _ _ w hx hy h1
    rw [hi] at this
    simpa using this
  · have := implIP_any d e1 a b e2 a' b' e _ _ w hx hy h1
    rw [hi] at this
    simpa using this
end Go.Proofs.YtohgccgbbipjjaaGreat
