/- Contracts: powers that meet a marked subgroup in the identity alone, of the program. -/
import Derived.Test.YtkkamlhpappebaaGreatZX
namespace Go.Proofs.YtkkamlhpappebaaGreat
open Go.RowKit

set_option maxRecDepth 100000 in
set_option maxHeartbeats 1600000 in
theorem meets_any (l : List Int) (v : Value) (B O m : Nat) (F : Nat → Bool) (w : World) (h1 : 1 ≤ l.length) (h2 : l.length ≤ 100000) (ho : w.ownsRow B 3 1 v l.length (cellsI l)) (hr : w.rowIs O 4 m (fun i => .bool (F i))) (hb : ∀ x ∈ l, 0 ≤ x ∧ x < m) :
    Calls Tryz.prog 48 #[v, .slice (some ⟨O, 0, none⟩) m m] w fun e w' => e = .returned (.bool (l.tail.all fun x => !F x.toNat)) ∧ w = w' := by
  obtain ⟨bl, cl, rfl⟩ := own_shape ho
  have HO := Lib.hid ho
  have HR := Lib.hid hr
  have HB := Lib.hid hb
  obtain ⟨g, rfl, lg, d00⟩ := own_elemI ho h1
  obtain ⟨n, hn⟩ : ∃ n, l.length = n + 1 := ⟨l.length - 1, by omega⟩
  have HN := Lib.hid hn
  have hcl : n + 1 ≤ cl := by
    rcases own_form ho with ⟨hv, h0⟩ | ⟨g2, c2, hv, _, _, _⟩
    · omega
    · rcases ho.2 with ⟨hv, _⟩ | ⟨_, _, _, hv, _, _, hnc, _⟩
      · cases hv
      · injection hv with _ _ e3; omega
  have hn64 : wrap64 (((n + 1 : Nat) : Int) - 1) = (n : Int) := by rw [IntWalk.wrap64_in _ (by omega)]; omega
  rw [hn]
  rw [hn] at h2
  clear d00
  clear ho hr hb hn h1
  by_cases hc : cl = 1
  · obtain rfl : n = 0 := by omega
    subst hc
    have ht : l.tail = [] := by have := HN.out; exact List.length_eq_zero_iff.1 (by rw [List.length_tail]; omega)
    rw [ht]
    go_enter Tryz.func48, Tryz.ntmps48
    go_wp2
    go_loop [10] (fun i => ∃ k : Nat, i = .int .i64 k ∧ k ≤ 0) (fun i => 0)
    case atStart => exact ⟨0, rfl, by omega⟩
    case round =>
      obtain ⟨k, rfl, hk⟩ := hrel
      obtain rfl : k = 0 := by omega
      go_wp2
      go_ret
      exact ⟨rfl, rfl⟩
  · go_enter Tryz.func48, Tryz.ntmps48
    go_wp2
    go_loop [10] (fun i => ∃ k : Nat, i = .int .i64 k ∧ k ≤ n ∧ Hid (∀ j, (h : j + 1 < l.length) → j < k → F (l[j + 1]).toNat = false)) (fun i => n - (intOf i).toNat)
    case atStart => exact ⟨0, rfl, by omega, Lib.hid (fun j _ hj => by omega)⟩
    case round =>
      obtain ⟨k, rfl, hk, hF⟩ := hrel
      by_cases hlt : k < n
      · have hkl : k + 1 < l.length := by rw [HN.out]; omega
        obtain ⟨g2, e2, _, d1⟩ := own_elemI HO.out hkl
        injection e2 with e2
        injection e2 with e2 _ _
        subst e2
        obtain ⟨y1, y2⟩ := HB.out _ (List.getElem_mem hkl)
        have hnx := Lib.hid (fun (h : F (l[k + 1]).toNat = false) j (hj : j + 1 < l.length) (hjk : j < k + 1) => (by
          by_cases e : j = k
          · subst e; exact h
          · exact hF.out j hj (by omega) : F (l[j + 1]).toNat = false))
        have hno := Lib.hid (fun (h : F (l[k + 1]).toNat = true) => (by
          rw [List.all_eq_false]
          exact ⟨l[k + 1], by rw [← List.getElem_tail (i := k) (by rw [List.length_tail]; omega)]; exact List.getElem_mem _, by rw [h]; simp⟩ : l.tail.all (fun x => !F x.toNat) = false))
        clear hF
        generalize l[k + 1] = y at *
        obtain ⟨t, rfl⟩ : ∃ t : Nat, y = t := ⟨y.toNat, by omega⟩
        have ht : t < m := by omega
        have dR := HR.out.cell ht
        have d2 : w.cell? ⟨g, 1 + k, none⟩ = some (.int .i64 (t : Int)) := by rw [Nat.add_comm]; exact d1
        rw [Int.toNat_natCast] at hnx hno
        cases hf : F t with
        | true =>
          have hv := hno.out hf
          rw [hf] at dR
          go_wp2
          go_ret
          exact ⟨rfl, rfl⟩
        | false =>
          rw [hf] at dR
          have hn2 := Lib.hid (hnx.out hf)
          go_wp2
          exact ⟨⟨k + 1, by simp, hlt, hn2⟩, by simp [intOf]; omega⟩
      · obtain rfl : k = n := by omega
        have hv : l.tail.all (fun x => !F x.toNat) = true := by
          rw [List.all_eq_true]
          intro x hx
          obtain ⟨j, hj, rfl⟩ := List.getElem_of_mem hx
          rw [List.length_tail, HN.out] at hj
          rw [List.getElem_tail, hF.out j (by rw [HN.out]; omega) (by omega)]; rfl
        go_wp2
        go_ret
        exact ⟨rfl, rfl⟩
end Go.Proofs.YtkkamlhpappebaaGreat
