/- Contracts: which forms are class forms. -/
import Derived.Test.YtifkmjmhhklkjaaC7
namespace Go.Proofs.Ytifkmjmhhklkjaa
open Go.RowKit

def isNum (x : Int) : Bool := decide (-1000000 ≤ x) && decide (x ≤ 1000000)
theorem isNum_iff (x : Int) : isNum x = true ↔ -1000000 ≤ x ∧ x ≤ 1000000 := by simp [isNum]
theorem isNum_no (x : Int) : isNum x = false ↔ ¬ (-1000000 ≤ x ∧ x ≤ 1000000) := by rw [← isNum_iff]; simp

set_option maxHeartbeats 400000 in
theorem nuGood_any (x : Int) (w : World) : Calls Try.prog 160 #[.int .i64 x] w fun e w' => e = .returned (.bool (isNum x)) ∧ w = w' := by
  by_cases h1 : -1000000 ≤ x
  · by_cases h2 : x ≤ 1000000
    · rw [(isNum_iff x).2 ⟨h1, h2⟩]
      go_enter Try.func160, Try.ntmps160
      go_wp2
      go_ret
      exact ⟨rfl, rfl⟩
    · rw [(isNum_no x).2 (by omega)]
      go_enter Try.func160, Try.ntmps160
      go_wp2
      go_ret
      exact ⟨rfl, rfl⟩
  · rw [(isNum_no x).2 (by omega)]
    go_enter Try.func160, Try.ntmps160
    go_wp2
    go_ret
    exact ⟨rfl, rfl⟩

set_option maxHeartbeats 800000 in
theorem areNumbers_any (b n cap : Nat) (xs : List Int) (w : World) (hn : xs.length = n) (hs : n ≤ 1000000000) (hc : ∀ j, j < n → w.cell? ⟨b, j, none⟩ = some (.int .i64 (xs.getD j 0))) :
    Calls Try.prog 161 #[.slice (some ⟨b, 0, none⟩) n cap] w fun e w' => e = .returned (.bool (xs.all isNum)) ∧ w = w' := by
  have Hn := Lib.hid hn; clear hn
  have Hc := Lib.hid hc; clear hc
  go_enter Try.func161, Try.ntmps161
  go_wp2
  go_loop [7] (fun i => ∃ k : Nat, k ≤ n ∧ i = .int .i64 k ∧ Hid ((xs.take k).all isNum = true)) (fun i => n - (intOf i).toNat)
  case atStart => exact ⟨0, Nat.zero_le _, rfl, Lib.hid (by simp)⟩
  case round =>
    obtain ⟨k, hk, rfl, ht⟩ := hrel
    by_cases hlt : k < n
    · have hcell := Hc.out k hlt
      have hstep := Lib.hid (show (xs.take (k + 1)).all isNum = ((xs.take k).all isNum && isNum (xs.getD k 0)) by
        have hl : k < xs.length := by rw [Hn.out]; exact hlt
        rw [List.take_succ_eq_append_getElem hl, List.all_append, List.getD_eq_getElem?_getD, List.getElem?_eq_getElem hl]; simp)
      have hfull := Lib.hid (show isNum (xs.getD k 0) = false → xs.all isNum = false by
        intro h0
        have hl : k < xs.length := by rw [Hn.out]; exact hlt
        rw [← Bool.not_eq_true, List.all_eq_true]
        intro h1
        have := h1 xs[k] (List.getElem_mem hl)
        rw [List.getD_eq_getElem?_getD, List.getElem?_eq_getElem hl] at h0
        simp only [Option.getD_some] at h0
        rw [h0] at this; cases this)
      generalize xs.getD k 0 = x at *
      by_cases h1 : -1000000 ≤ x
      · by_cases h2 : x ≤ 1000000
        · have hx := (isNum_iff x).2 ⟨h1, h2⟩
          have hok := Lib.hid (show (xs.take (k + 1)).all isNum = true by rw [hstep.out, ht.out, hx]; rfl)
          clear hstep hfull hx
          go_wp2
          go_round
          case rel => exact ⟨k + 1, hlt, by go_num, hok⟩
          case measure => simp [intOf]; omega
        · have hno := Lib.hid (hfull.out ((isNum_no x).2 (by omega)))
          clear hstep hfull
          go_wp2
          go_ret
          exact ⟨ret_bool hno.out.symm, rfl⟩
      · have hno := Lib.hid (hfull.out ((isNum_no x).2 (by omega)))
        clear hstep hfull
        go_wp2
        go_ret
        exact ⟨ret_bool hno.out.symm, rfl⟩
    · have hkn : k = n := by omega
      have hall := Lib.hid (show xs.all isNum = true by
        have := ht.out
        rw [hkn, ← Hn.out, List.take_length] at this; exact this)
      clear hkn
      go_wp2
      go_ret
      exact ⟨ret_bool hall.out.symm, rfl⟩
end Go.Proofs.Ytifkmjmhhklkjaa
