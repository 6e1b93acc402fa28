/- Contract: the product of a list, of the laws. -/
import Derived.Test.YtkkamlhpappebaaSW
import Derived.Test.YtkkamlhpappebaaN5
namespace Go.Proofs.Ytkkamlhpappebaa
open Go.RowKit

theorem prod_pre {n : List Int} (h : ∀ x ∈ n, 2 ≤ x) (k : Nat) : 1 ≤ prodI (n.take k) ∧ prodI (n.take k) ≤ prodI n := by
  have h1 := prod_two (n.take k) (fun x hx => h x (List.mem_of_mem_take hx))
  have h2 := prod_two (n.drop k) (fun x hx => h x (List.mem_of_mem_drop hx))
  have p1 := Nat.pow_pos (n := (n.take k).length) (show 0 < 2 by omega)
  have p2 := Nat.pow_pos (n := (n.drop k).length) (show 0 < 2 by omega)
  have e := prod_app (n.take k) (n.drop k)
  rw [List.take_append_drop] at e
  have h3 := Int.mul_le_mul_of_nonneg_left (show 1 ≤ prodI (n.drop k) by omega) (show 0 ≤ prodI (n.take k) by omega)
  omega
def PpSt (n : List Int) (v3 v8 : Value) : Prop := ∃ k : Nat, v8 = .int .i64 k ∧ k ≤ n.length ∧ v3 = .int .i64 (prodI (n.take k))

set_option maxRecDepth 100000 in
set_option maxHeartbeats 1600000 in
theorem pProduct_any (n : List Int) (v : Value) (B : Nat) (w : World) (hn : ∀ x ∈ n, 2 ≤ x ∧ x ≤ 1640) (hp : prodI n ≤ 1640) (h20 : n.length ≤ 20) (ho : w.ownsRow B 3 1 v n.length (cellsI n)) :
    Calls Try.prog 19 #[v] w fun e w' => e = .returned (.int .i64 (prodI n)) ∧ w = w' := by
  obtain ⟨b, c, rfl⟩ := own_shape ho
  have HO := Lib.hid ho
  have Hn := Lib.hid hn
  have Hpr := Lib.hid (fun k => prod_pre (n := n) (fun x hx => (hn x hx).1) k)
  clear ho hn
  go_enter Try.func19, Try.ntmps19
  go_wp2
  go_loop [3, 8] (fun v3 v8 => PpSt n v3 v8) (fun _ v8 => n.length - (intOf v8).toNat)
  case atStart => exact ⟨0, rfl, Nat.zero_le _, rfl⟩
  case round =>
    obtain ⟨k, rfl, hk, rfl⟩ := hrel
    by_cases hlt : k < n.length
    · obtain ⟨g, rfl, lg, c1⟩ := own_elemI HO.out hlt
      obtain ⟨y1, y2⟩ := Hn.out _ (List.getElem_mem hlt)
      obtain ⟨z1, z2⟩ := Hpr.out k
      obtain ⟨z3, z4⟩ := Hpr.out (k + 1)
      have ht := prod_take hlt
      generalize n[k] = y at *
      generalize prodI (n.take k) = P at *
      have hw : wrap64 (P * y) = P * y := by rw [← ht]; exact IntWalk.wrap64_in _ (by omega)
      have Ht := Lib.hid ht
      clear ht
      go_wp2
      go_round
      case rel => exact ⟨k + 1, by go_num, hlt, by rw [Ht.out]; (first | rfl | rw [hw] | (simp; exact hw))⟩
      case measure => (first | (simp [intOf]; done) | (simp [intOf]; omega))
    · have e : k = n.length := by omega
      rw [e, List.take_length]
      subst e
      go_wp2
      go_ret
      exact ⟨rfl, rfl⟩
end Go.Proofs.Ytkkamlhpappebaa
