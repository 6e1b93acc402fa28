/- Parts N2 N3 N4 laid together by tp.py. -/
import Derived.Test.YtjfcaafmlghjlaaCA
import Derived.Test.YtjfcaafmlghjlaaN1
import Derived.Deep.LoopGhost
namespace Go.Proofs.Ytjfcaafmlghjlaa
section
open Go.RowKit

set_option maxHeartbeats 400000 in
theorem symbolOfTwo_any (n : Int) (w : World) : Calls Try.prog 239 #[.int .i64 n] w fun e w' => e = .returned (.int .i64 (two n)) ∧ w = w' := by
  have hM := Lib.hid (fun w => mod_any n 8 w (by omega) (by omega))
  obtain ⟨t, ht⟩ : ∃ t : Int, two n = t := ⟨_, rfl⟩
  rw [ht]
  unfold two at ht
  generalize n % 8 = r at *
  by_cases h1 : r = 1
  · have hx := Lib.hid (show (1 : Int) = t by rw [← ht, if_pos (.inl h1)])
    subst h1
    clear ht
    go_enter Try.func239, Try.ntmps239
    go_wp2_with (go_at_call 233; (with_reducible refine (hM.out _).mono ?_); rintro e v ⟨rfl, rfl⟩)
    go_ret
    exact ⟨ret_int hx.out, rfl⟩
  · by_cases h7 : r = 7
    · have hx := Lib.hid (show (1 : Int) = t by rw [← ht, if_pos (.inr h7)])
      subst h7
      clear ht
      go_enter Try.func239, Try.ntmps239
      go_wp2_with (go_at_call 233; (with_reducible refine (hM.out _).mono ?_); rintro e v ⟨rfl, rfl⟩)
      go_ret
      exact ⟨ret_int hx.out, rfl⟩
    · have e1 : (r == 1) = false := by rw [beq_eq_false_iff_ne]; exact h1
      have e7 : (r == 7) = false := by rw [beq_eq_false_iff_ne]; exact h7
      have hx := Lib.hid (show -1 = t by rw [← ht, if_neg (by omega)])
      clear h1 h7 ht
      go_enter Try.func239, Try.ntmps239
      go_wp2_with (go_at_call 233; (with_reducible refine (hM.out _).mono ?_); rintro e v ⟨rfl, rfl⟩)
      go_ret
      exact ⟨ret_int hx.out, rfl⟩

theorem sg_mul {s t : Int} (hs : s = 1 ∨ s = -1) (ht : t = 1 ∨ t = -1) : s * t = 1 ∨ s * t = -1 := by
  rcases hs with rfl | rfl <;> rcases ht with rfl | rfl <;> simp
/-- The state of the outer loop. -/
def JacSt (R : Int) (va vn vs : Value) : Prop := ∃ a n s : Int, va = .int .i64 a ∧ vn = .int .i64 n ∧ vs = .int .i64 s ∧ 0 ≤ a ∧ a < n ∧ n ≤ 1000000000000000 ∧ n % 2 = 1 ∧ (-1 ≤ s ∧ s ≤ 1) ∧ Hid ((s = 1 ∨ s = -1) ∧ s * jacS a n = R)
def JacIn (R n a0 : Int) (va vs : Value) : Prop := ∃ a s : Int, va = .int .i64 a ∧ vs = .int .i64 s ∧ 0 < a ∧ a ≤ a0 ∧ (-1 ≤ s ∧ s ≤ 1) ∧ Hid ((s = 1 ∨ s = -1) ∧ s * jacS a n = R)

set_option maxHeartbeats 1600000 in
theorem jacobi_any (a n : Int) (w : World) (hn : 0 < n) (hn2 : n ≤ 1000000000000000) (ho : n % 2 = 1) :
    Calls Try.prog 240 #[.int .i64 a, .int .i64 n] w fun e w' => e = .returned (.int .i64 (jacS (a % n) n)) ∧ w = w' := by
  have h1 := Int.emod_nonneg a (show n ≠ 0 by omega)
  have h2 := Int.emod_lt_of_pos a hn
  have hM := Lib.hid (fun w => mod_any a n w hn (by omega))
  obtain ⟨R, hR⟩ : ∃ R, jacS (a % n) n = R := ⟨_, rfl⟩
  have hst := Lib.hid hR
  rw [hR]
  generalize a % n = r at *
  have ho' := Lib.hid ho
  clear hR ho
  go_enter Try.func240, Try.ntmps240
  go_wp2_with (go_at_call 233; (with_reducible refine (hM.out _).mono ?_); rintro e v ⟨rfl, rfl⟩)
  go_loop [0, 1, 5] (fun va vn vs => JacSt R va vn vs) (fun va _ _ => (intOf va).toNat)
  case atStart => exact ⟨r, n, 1, rfl, rfl, rfl, h1, h2, hn2, ho'.out, ⟨by omega, by omega⟩, Lib.hid ⟨.inl rfl, by rw [Int.one_mul]; exact hst.out⟩⟩
  case round =>
    clear h1 h2 hM hst ho' hn hn2
    obtain ⟨a, m, s, rfl, rfl, rfl, a0, am, m2, mo, ⟨s1, s2⟩, hs⟩ := hrel
    by_cases h0 : a = 0
    · subst h0
      by_cases hm1 : m = 1
      · subst hm1
        have hx := Lib.hid (show s = R by rw [← hs.out.2, jacS_zero]; simp)
        go_wp2
        go_ret
        exact ⟨ret_int hx.out, rfl⟩
      · have hx := Lib.hid (show 0 = R by rw [← hs.out.2, jacS_zero, if_neg hm1]; simp)
        have e1 : (m != 1) = true := by rw [bne_iff_ne]; exact hm1
        clear hm1
        go_wp2
        go_ret
        exact ⟨ret_int hx.out, rfl⟩
    · have e0 : (a != 0) = true := by rw [bne_iff_ne]; exact h0
      have a1 : 0 < a := by omega
      clear h0
      go_wp2
      go_loop [0, 5] (fun va vs => JacIn R m a va vs) (fun va _ => (intOf va).toNat)
      case atStart => exact ⟨a, s, rfl, rfl, a1, Int.le_refl _, ⟨s1, s2⟩, hs⟩
      case round =>
        clear hs s1 s2 e0
        obtain ⟨b, t, rfl, rfl, b0, bm, ⟨t1, t2⟩, ht⟩ := hrel
        have hT := Lib.hid (two_sg m)
        have hTw := Lib.hid (fun w => symbolOfTwo_any m w)
        by_cases hev : b % 2 = 0
        · have e1 : (b % 2 == 0) = true := by rw [beq_iff_eq]; exact hev
          have hnx : Hid ((t * two m = 1 ∨ t * two m = -1) ∧ t * two m * jacS (b / 2) m = R) := Lib.hid ⟨sg_mul ht.out.1 hT.out, by rw [← ht.out.2, jacS_even b0 hev, Int.mul_assoc]⟩
          have htm : -1 ≤ t * two m ∧ t * two m ≤ 1 := by rcases hnx.out.1 with h | h <;> rw [h] <;> omega
          obtain ⟨tm1, tm2⟩ := htm
          have b7 : 0 < b / 2 := by omega
          generalize two m = u at *
          clear hev ht hT
          go_wp2_with (go_at_call 239; (with_reducible refine (hTw.out _).mono ?_); rintro e v ⟨rfl, rfl⟩)
          go_round
          case rel => exact ⟨b / 2, t * u, rfl, rfl, by omega, by omega, ⟨tm1, tm2⟩, hnx⟩
          case measure => simp [intOf]; omega
        · have e1 : (b % 2 == 0) = false := by rw [beq_eq_false_iff_ne]; exact hev
          have q1 := Int.emod_nonneg m (show b ≠ 0 by omega)
          have q2 := Int.emod_lt_of_pos m b0
          have hnx := jacS_odd (n := m) b0 hev
          have b5 : ¬ b = 0 := by omega
          have b6 : (b == 0) = false := by rw [beq_eq_false_iff_ne]; exact b5
          have hbo : b % 2 = 1 := by omega
          have Hbo := Lib.hid hbo
          clear hbo hev hT hTw
          by_cases h3 : b % 4 = 3
          · have e3 : (b % 4 == 3) = true := by rw [beq_iff_eq]; exact h3
            by_cases h4 : m % 4 = 3
            · have e4 : (m % 4 == 3) = true := by rw [beq_iff_eq]; exact h4
              rw [if_pos ⟨h3, h4⟩] at hnx
              have hs2 : Hid ((-t = 1 ∨ -t = -1) ∧ -t * jacS (m % b) b = R) := Lib.hid ⟨by rcases ht.out.1 with h | h <;> rw [h] <;> simp, by rw [← ht.out.2, hnx]; grind⟩
              clear h3 h4 hnx ht
              go_wp2
              go_round
              case rel => exact ⟨m % b, b, -t, rfl, rfl, rfl, q1, q2, by omega, Hbo.out, ⟨by omega, by omega⟩, hs2⟩
              case measure => simp [intOf]; omega
            · have e4 : (m % 4 == 3) = false := by rw [beq_eq_false_iff_ne]; exact h4
              rw [if_neg (fun h => h4 h.2), Int.one_mul] at hnx
              have hs2 : Hid ((t = 1 ∨ t = -1) ∧ t * jacS (m % b) b = R) := Lib.hid ⟨ht.out.1, by rw [← ht.out.2, hnx]⟩
              clear h3 h4 hnx ht
              go_wp2
              go_round
              case rel => exact ⟨m % b, b, t, rfl, rfl, rfl, q1, q2, by omega, Hbo.out, ⟨by omega, by omega⟩, hs2⟩
              case measure => simp [intOf]; omega
          · have e3 : (b % 4 == 3) = false := by rw [beq_eq_false_iff_ne]; exact h3
            rw [if_neg (fun h => h3 h.1), Int.one_mul] at hnx
            have hs2 : Hid ((t = 1 ∨ t = -1) ∧ t * jacS (m % b) b = R) := Lib.hid ⟨ht.out.1, by rw [← ht.out.2, hnx]⟩
            clear h3 hnx ht
            go_wp2
            go_round
            case rel => exact ⟨m % b, b, t, rfl, rfl, rfl, q1, q2, by omega, Hbo.out, ⟨by omega, by omega⟩, hs2⟩
            case measure => simp [intOf]; omega

set_option maxHeartbeats 400000 in
theorem l1In_any (k a b : Int) (w : World) : Calls Try.prog 217 #[.int .i64 k, .int .i64 a, .int .i64 b] w fun e w' => e = .returned (.bool (decide (a ≤ k) && decide (k ≤ b))) ∧ w = w' := by
  by_cases h : a ≤ k
  · go_enter Try.func217, Try.ntmps217
    go_wp2
    go_ret
    exact ⟨ret_bool (by first | (simp; done) | (simp; omega) | (rw [Bool.eq_iff_iff]; simp; omega) | (simp_all; done) | (simp_all; omega)), rfl⟩
  · go_enter Try.func217, Try.ntmps217
    go_wp2
    go_ret
    exact ⟨ret_bool (by first | (simp; done) | (simp; omega) | (rw [Bool.eq_iff_iff]; simp; omega) | (simp_all; done) | (simp_all; omega)), rfl⟩
end

section
open Go.RowKit

set_option maxHeartbeats 800000 in
theorem syTwo_any (n : Int) (w : World) (hn : n % 2 = 1) : Calls Try.prog 344 #[.int .i64 n] w fun e w' => e = .returned (.int .i64 (two n)) ∧ w = w' := by
  have hM := Lib.hid (fun w => nuMod_any n 8 w (by omega) (by omega))
  obtain ⟨t, ht⟩ : ∃ t : Int, two n = t := ⟨_, rfl⟩
  rw [ht]
  unfold two at ht
  have hr : n % 8 = 1 ∨ n % 8 = 3 ∨ n % 8 = 5 ∨ n % 8 = 7 := by omega
  generalize n % 8 = r at *
  clear hn
  rcases hr with rfl | rfl | rfl | rfl
  all_goals
    simp at ht
    subst ht
    go_enter Try.func344, Try.ntmps344
    go_wp2_with (go_at_call 237; (with_reducible refine (hM.out _).mono ?_); rintro e v ⟨rfl, rfl⟩)
    go_ret
    exact ⟨rfl, rfl⟩

set_option maxHeartbeats 400000 in
theorem syEnd_any (t b s : Int) (e0 : Bool) (w : World) (h : (decide (t = 0) || decide (t = 1)) = e0) : Calls Try.prog 379 #[.agg #[.int .i64 t, .int .i64 b, .int .i64 s]] w fun e w' => e = .returned (.bool e0) ∧ Below w.heap.size w w' := by
  by_cases h0 : t = 0
  · subst h0
    simp at h; subst h
    go_enter Try.func379, Try.ntmps379
    go_wp2
    go_ret
    exact ⟨rfl, (by repeat (first | with_reducible exact Below.refl _ _ | with_reducible assumption | with_reducible apply Below.drew | with_reducible apply below_drewN | (with_reducible apply below_setp; (first | omega | (simp <;> omega))) | (with_reducible apply below_allocp; (first | omega | (simp <;> omega))) | (with_reducible refine below_viap (by assumption) ?_ ?_; (first | omega | (simp <;> omega)))))⟩
  · have e1 : (t == 0) = false := by rw [beq_eq_false_iff_ne]; exact h0
    by_cases h1 : t = 1
    · subst h1
      simp at h; subst h
      go_enter Try.func379, Try.ntmps379
      go_wp2
      go_ret
      exact ⟨rfl, (by repeat (first | with_reducible exact Below.refl _ _ | with_reducible assumption | with_reducible apply Below.drew | with_reducible apply below_drewN | (with_reducible apply below_setp; (first | omega | (simp <;> omega))) | (with_reducible apply below_allocp; (first | omega | (simp <;> omega))) | (with_reducible refine below_viap (by assumption) ?_ ?_; (first | omega | (simp <;> omega)))))⟩
    · have e2 : (t == 1) = false := by rw [beq_eq_false_iff_ne]; exact h1
      simp [h0, h1] at h; subst h
      clear h0 h1
      go_enter Try.func379, Try.ntmps379
      go_wp2
      go_ret
      exact ⟨rfl, (by repeat (first | with_reducible exact Below.refl _ _ | with_reducible assumption | with_reducible apply Below.drew | with_reducible apply below_drewN | (with_reducible apply below_setp; (first | omega | (simp <;> omega))) | (with_reducible apply below_allocp; (first | omega | (simp <;> omega))) | (with_reducible refine below_viap (by assumption) ?_ ?_; (first | omega | (simp <;> omega)))))⟩

set_option maxHeartbeats 800000 in
theorem sySuc_red (t b s : Int) (w : World) (hb : 0 < b) (hb2 : b ≤ 1000000000000000) (h : ¬ (0 ≤ t ∧ t < b)) :
    Calls Try.prog 380 #[.agg #[.int .i64 t, .int .i64 b, .int .i64 s]] w fun e w' => e = .returned (.agg #[.int .i64 (t % b), .int .i64 b, .int .i64 s]) ∧ Below w.heap.size w w' := by
  have hI := fun w => l1In_any t 0 (b - 1) w
  rw [show (decide (0 ≤ t) && decide (t ≤ b - 1)) = false by simp; omega] at hI
  have HI := Lib.hid hI
  clear hI h
  go_enter Try.func380, Try.ntmps380
  go_wp2_with (first | (go_at_call 217; (with_reducible refine (HI.out _).mono ?_); rintro e v ⟨rfl, rfl⟩) | (go_at_call 237; (with_reducible refine (nuMod_any t b _ hb (by omega)).mono ?_); rintro e v ⟨rfl, rfl⟩))
  exact bodyPost_ret (v := .agg #[.int .i64 (t % b), .int .i64 b, .int .i64 s]) (by simp [results, Try.results380, go_sem, *]) rfl ⟨rfl, (by repeat (first | with_reducible exact Below.refl _ _ | with_reducible assumption | with_reducible apply Below.drew | with_reducible apply below_drewN | (with_reducible apply below_setp; (first | omega | (simp <;> omega))) | (with_reducible apply below_allocp; (first | omega | (simp <;> omega))) | (with_reducible refine below_viap (by assumption) ?_ ?_; (first | omega | (simp <;> omega)))))⟩

set_option maxHeartbeats 800000 in
theorem sySuc_even (t b s : Int) (w : World) (hb2 : b ≤ 1000000000000000) (h0 : 0 ≤ t) (h1 : t < b) (he : t % 2 = 0) (hs : -1 ≤ s * two b ∧ s * two b ≤ 1) (hs2 : -1 ≤ s ∧ s ≤ 1) (ho : b % 2 = 1) :
    Calls Try.prog 380 #[.agg #[.int .i64 t, .int .i64 b, .int .i64 s]] w fun e w' => e = .returned (.agg #[.int .i64 (t / 2), .int .i64 b, .int .i64 (s * two b)]) ∧ Below w.heap.size w w' := by
  have hI := fun w => l1In_any t 0 (b - 1) w
  rw [show (decide (0 ≤ t) && decide (t ≤ b - 1)) = true by simp; omega] at hI
  have HI := Lib.hid hI
  have HT := Lib.hid (fun w => syTwo_any b w ho)
  obtain ⟨s1, s2⟩ := hs
  obtain ⟨s3, s4⟩ := hs2
  have e1 : (t % 2 == 0) = true := by rw [beq_iff_eq]; exact he
  have w1 : IntKind.i64.wrap (s * two b) = s * two b := IntWalk.i64_in _ (by omega)
  generalize two b = u at *
  clear hI he ho
  go_enter Try.func380, Try.ntmps380
  go_wp2_with (first | (go_at_call 217; (with_reducible refine (HI.out _).mono ?_); rintro e v ⟨rfl, rfl⟩))
  refine wp_region_calm 7 (Below (w.heap.size + 2) _) (by kernel_rfl) (by kernel_rfl) ((Below.refl _ _).drew) ?_
  simp only [List.take_succ_cons, List.take_zero, List.drop_succ_cons, List.drop_zero]
  repeat (first | (apply wpCalm_go; go_simp; (intro w' hw' hcc hff; go_simp; first | exact rfl | ((with_reducible refine (HT.out _).mono ?_); rintro ee w1 ⟨rfl, hb⟩; exact ⟨rfl, calm_call_same hw' hb⟩)); (intro K hK; go_simp; refine hK _ ?_; clear hK K)) | (apply wpCalm_skip; go_simp; (intro K hK; go_simp; refine hK _ ?_; clear hK K)))
  refine wpCalm_nil ?_
  intro w1 hw1
  have hcc := (calm_cells hw1).1
  have hff := (calm_cells hw1).2
  have hss := calm_size hw1
  have hsz := hw1.size
  (try simp at hsz)
  go_wp2
  exact bodyPost_ret (v := .agg #[.int .i64 (t / 2), .int .i64 b, .int .i64 (s * u)]) (by simp [results, Try.results380, go_sem, *]) rfl ⟨rfl, (by repeat (first | with_reducible exact Below.refl _ _ | with_reducible assumption | with_reducible apply Below.drew | with_reducible apply below_drewN | (with_reducible apply below_setp; (first | omega | (simp <;> omega))) | (with_reducible apply below_allocp; (first | omega | (simp <;> omega))) | (with_reducible refine below_viap (by assumption) ?_ ?_; (first | omega | (simp <;> omega)))))⟩

set_option maxHeartbeats 1600000 in
theorem sySuc_odd (t b s u : Int) (w : World) (hb2 : b ≤ 1000000000000000) (h0 : 0 < t) (h1 : t < b) (he : ¬ t % 2 = 0) (hs2 : -1 ≤ s ∧ s ≤ 1) (hu : u = if t % 4 = 3 ∧ b % 4 = 3 then -s else s) :
    Calls Try.prog 380 #[.agg #[.int .i64 t, .int .i64 b, .int .i64 s]] w fun e w' => e = .returned (.agg #[.int .i64 b, .int .i64 t, .int .i64 u]) ∧ Below w.heap.size w w' := by
  have hI := fun w => l1In_any t 0 (b - 1) w
  rw [show (decide (0 ≤ t) && decide (t ≤ b - 1)) = true by simp; omega] at hI
  have HI := Lib.hid hI
  obtain ⟨s3, s4⟩ := hs2
  have e1 : (t % 2 == 0) = false := by rw [beq_eq_false_iff_ne]; exact he
  clear hI he
  by_cases h3 : t % 4 = 3
  · have e3 : (t % 4 == 3) = true := by rw [beq_iff_eq]; exact h3
    by_cases h4 : b % 4 = 3
    · have e4 : (b % 4 == 3) = true := by rw [beq_iff_eq]; exact h4
      rw [if_pos ⟨h3, h4⟩] at hu
      subst hu
      clear h3 h4
      go_enter Try.func380, Try.ntmps380
      go_wp2_with (first | (go_at_call 217; (with_reducible refine (HI.out _).mono ?_); rintro e v ⟨rfl, rfl⟩))
      exact bodyPost_ret (v := .agg #[.int .i64 b, .int .i64 t, .int .i64 (-s)]) (by simp [results, Try.results380, go_sem, *]) rfl ⟨rfl, (by repeat (first | with_reducible exact Below.refl _ _ | with_reducible assumption | with_reducible apply Below.drew | with_reducible apply below_drewN | (with_reducible apply below_setp; (first | omega | (simp <;> omega))) | (with_reducible apply below_allocp; (first | omega | (simp <;> omega))) | (with_reducible refine below_viap (by assumption) ?_ ?_; (first | omega | (simp <;> omega)))))⟩
    · have e4 : (b % 4 == 3) = false := by rw [beq_eq_false_iff_ne]; exact h4
      rw [if_neg (fun h => h4 h.2)] at hu
      subst hu
      clear h3 h4
      go_enter Try.func380, Try.ntmps380
      go_wp2_with (first | (go_at_call 217; (with_reducible refine (HI.out _).mono ?_); rintro e v ⟨rfl, rfl⟩))
      exact bodyPost_ret (v := .agg #[.int .i64 b, .int .i64 t, .int .i64 u]) (by simp [results, Try.results380, go_sem, *]) rfl ⟨rfl, (by repeat (first | with_reducible exact Below.refl _ _ | with_reducible assumption | with_reducible apply Below.drew | with_reducible apply below_drewN | (with_reducible apply below_setp; (first | omega | (simp <;> omega))) | (with_reducible apply below_allocp; (first | omega | (simp <;> omega))) | (with_reducible refine below_viap (by assumption) ?_ ?_; (first | omega | (simp <;> omega)))))⟩
  · have e3 : (t % 4 == 3) = false := by rw [beq_eq_false_iff_ne]; exact h3
    rw [if_neg (fun h => h3 h.1)] at hu
    subst hu
    clear h3
    go_enter Try.func380, Try.ntmps380
    go_wp2_with (first | (go_at_call 217; (with_reducible refine (HI.out _).mono ?_); rintro e v ⟨rfl, rfl⟩))
    exact bodyPost_ret (v := .agg #[.int .i64 b, .int .i64 t, .int .i64 u]) (by simp [results, Try.results380, go_sem, *]) rfl ⟨rfl, (by repeat (first | with_reducible exact Below.refl _ _ | with_reducible assumption | with_reducible apply Below.drew | with_reducible apply below_drewN | (with_reducible apply below_setp; (first | omega | (simp <;> omega))) | (with_reducible apply below_allocp; (first | omega | (simp <;> omega))) | (with_reducible refine below_viap (by assumption) ?_ ?_; (first | omega | (simp <;> omega)))))⟩
end

section
open Go.RowKit

/-- How many steps are to come. -/
def muJ (t b : Int) : Nat := if 0 ≤ t ∧ t < b then (2 * t).toNat else (2 * b - 1).toNat
theorem muJ_red {t b : Int} (hb : 0 < b) (h : ¬ (0 ≤ t ∧ t < b)) : muJ (t % b) b < muJ t b := by
  have h1 := Int.emod_nonneg t (show b ≠ 0 by omega)
  have h2 := Int.emod_lt_of_pos t hb
  unfold muJ; rw [if_neg h, if_pos ⟨h1, h2⟩]; omega
theorem muJ_even {t b : Int} (h0 : 0 < t) (h1 : t < b) : muJ (t / 2) b < muJ t b := by
  unfold muJ; rw [if_pos (show 0 ≤ t / 2 ∧ t / 2 < b by omega), if_pos (show 0 ≤ t ∧ t < b by omega)]; omega
theorem muJ_odd {t b : Int} (h0 : 0 < t) (h1 : t < b) : muJ b t < muJ t b := by
  unfold muJ; rw [if_neg (show ¬ (0 ≤ b ∧ b < t) by omega), if_pos (show 0 ≤ t ∧ t < b by omega)]; omega
/-- The state of the loop. -/
def SyJSt (R : Int) (G : Nat) (w : World) (k : Nat) (wr : World) : Prop :=
  ∃ t b s : Int, 0 < b ∧ b ≤ 1000000000000000 ∧ Hid (b % 2 = 1) ∧ (-1 ≤ s ∧ s ≤ 1) ∧ Hid ((s = 1 ∨ s = -1) ∧ s * jacS (t % b) b = R) ∧ muJ t b ≤ k ∧
    Blk wr G 316 #[.int .i64 t, .int .i64 b, .int .i64 s] ∧ Below w.heap.size w wr

set_option maxHeartbeats 3200000 in
theorem syJacobi_any (a n : Int) (w : World) (hn : 0 < n) (hn2 : n ≤ 1000000000000000) (ho : n % 2 = 1) :
    Calls Try.prog 343 #[.int .i64 a, .int .i64 n] w fun e w' => e = .returned (.int .i64 (jacS (a % n) n)) ∧ Below w.heap.size w w' := by
  obtain ⟨R, hR⟩ : ∃ R, jacS (a % n) n = R := ⟨_, rfl⟩
  have hst := Lib.hid hR
  rw [hR]
  have ho' := Lib.hid ho
  clear hR ho
  go_enter Try.func343, Try.ntmps343
  go_wp2
  go_loopg [] (muJ a n) (fun k wr => SyJSt R w.heap.size w k wr)
  case atStart => exact ⟨a, n, 1, hn, hn2, ho', ⟨by omega, by omega⟩, Lib.hid ⟨.inl rfl, by rw [Int.one_mul]; exact hst.out⟩, Nat.le_refl _, by (repeat (first | with_reducible assumption | (with_reducible apply Blk.new_at; (first | rfl | (simp; done))) | with_reducible apply Blk.store3 | with_reducible apply Blk.store4 | (with_reducible apply Blk.farp; (first | omega | (simp <;> omega))) | with_reducible apply Blk.allocp | with_reducible apply Blk.drew | with_reducible apply Blk.drewN)), (by repeat (first | with_reducible exact Below.refl _ _ | with_reducible assumption | with_reducible apply Below.drew | with_reducible apply below_drewN | (with_reducible apply below_setp; (first | omega | (simp <;> omega))) | (with_reducible apply below_allocp; (first | omega | (simp <;> omega))) | (with_reducible refine below_viap (by assumption) ?_ ?_; (first | omega | (simp <;> omega)))))⟩
  case round =>
    clear hst ho' hn hn2
    obtain ⟨t, b, s, b0, b2, bo, ⟨s1, s2⟩, hs, hmu, hB, hbel⟩ := hrel
    have cB := hB.cell; have fB := hB.frozen; have lB := hB.lt
    by_cases h0 : t = 0
    · subst h0
      have hE := Lib.hid (fun w => syEnd_any 0 b s true w (by simp))
      have hj : s * (if b = 1 then 1 else 0) = R := by have := hs.out.2; rw [Int.zero_emod, jacS_zero] at this; exact this
      by_cases hb1 : b = 1
      · subst hb1
        have hx := Lib.hid (show s = R by rw [← hj]; simp)
        clear hj
        go_wp2_with (go_at_call 379; (with_reducible refine (hE.out _).mono ?_); rintro e v1 ⟨rfl, hB1⟩; have hZ1 := hB1.size; (try simp at hZ1); (try have zl1 : w.heap.size < v1.heap.size := by omega); (try have ze1 : w.heap.size ≤ v1.heap.size := by omega); (try have zn1 : ¬ w.heap.size = v1.heap.size := by omega); (try have zm1 : ¬ v1.heap.size = w.heap.size := by omega); have hB1 : Blk v1 (w.heap.size) 316 #[.int .i64 0, .int .i64 1, .int .i64 s] := Blk.call (by (repeat (first | with_reducible assumption | (with_reducible apply Blk.new_at; (first | rfl | (simp; done))) | with_reducible apply Blk.store3 | with_reducible apply Blk.store4 | (with_reducible apply Blk.farp; (first | omega | (simp <;> omega))) | with_reducible apply Blk.allocp | with_reducible apply Blk.drew | with_reducible apply Blk.drewN))) hB1; have cB1 := hB1.cell; have fB1 := hB1.frozen; have lB1 := hB1.lt; have mB1 := Nat.ne_of_gt lB1; have nB1 := Nat.ne_of_lt lB1)
        go_ret
        exact ⟨ret_int hx.out, (by repeat (first | with_reducible exact Below.refl _ _ | with_reducible assumption | with_reducible apply Below.drew | with_reducible apply below_drewN | (with_reducible apply below_setp; (first | omega | (simp <;> omega))) | (with_reducible apply below_allocp; (first | omega | (simp <;> omega))) | (with_reducible refine below_viap (by assumption) ?_ ?_; (first | omega | (simp <;> omega)))))⟩
      · have hx := Lib.hid (show 0 = R by rw [← hj, if_neg hb1]; simp)
        have e1 : 1 < b := by omega
        clear hj hb1
        go_wp2_with (go_at_call 379; (with_reducible refine (hE.out _).mono ?_); rintro e v1 ⟨rfl, hB1⟩; have hZ1 := hB1.size; (try simp at hZ1); (try have zl1 : w.heap.size < v1.heap.size := by omega); (try have ze1 : w.heap.size ≤ v1.heap.size := by omega); (try have zn1 : ¬ w.heap.size = v1.heap.size := by omega); (try have zm1 : ¬ v1.heap.size = w.heap.size := by omega); have hB1 : Blk v1 (w.heap.size) 316 #[.int .i64 0, .int .i64 b, .int .i64 s] := Blk.call (by (repeat (first | with_reducible assumption | (with_reducible apply Blk.new_at; (first | rfl | (simp; done))) | with_reducible apply Blk.store3 | with_reducible apply Blk.store4 | (with_reducible apply Blk.farp; (first | omega | (simp <;> omega))) | with_reducible apply Blk.allocp | with_reducible apply Blk.drew | with_reducible apply Blk.drewN))) hB1; have cB1 := hB1.cell; have fB1 := hB1.frozen; have lB1 := hB1.lt; have mB1 := Nat.ne_of_gt lB1; have nB1 := Nat.ne_of_lt lB1)
        go_ret
        exact ⟨ret_int hx.out, (by repeat (first | with_reducible exact Below.refl _ _ | with_reducible assumption | with_reducible apply Below.drew | with_reducible apply below_drewN | (with_reducible apply below_setp; (first | omega | (simp <;> omega))) | (with_reducible apply below_allocp; (first | omega | (simp <;> omega))) | (with_reducible refine below_viap (by assumption) ?_ ?_; (first | omega | (simp <;> omega)))))⟩
    · by_cases h1 : t = 1
      · subst h1
        have hE := Lib.hid (fun w => syEnd_any 1 b s true w (by simp))
        have hj : s = R := by
          have := hs.out.2
          by_cases hb1 : b = 1
          · rw [hb1] at this; simp [jacS_zero] at this; exact this
          · rw [Int.emod_eq_of_lt (by omega) (by omega), jacS_one, Int.mul_one] at this; exact this
        have hx := Lib.hid hj
        clear hj h0
        go_wp2_with (go_at_call 379; (with_reducible refine (hE.out _).mono ?_); rintro e v1 ⟨rfl, hB1⟩; have hZ1 := hB1.size; (try simp at hZ1); (try have zl1 : w.heap.size < v1.heap.size := by omega); (try have ze1 : w.heap.size ≤ v1.heap.size := by omega); (try have zn1 : ¬ w.heap.size = v1.heap.size := by omega); (try have zm1 : ¬ v1.heap.size = w.heap.size := by omega); have hB1 : Blk v1 (w.heap.size) 316 #[.int .i64 1, .int .i64 b, .int .i64 s] := Blk.call (by (repeat (first | with_reducible assumption | (with_reducible apply Blk.new_at; (first | rfl | (simp; done))) | with_reducible apply Blk.store3 | with_reducible apply Blk.store4 | (with_reducible apply Blk.farp; (first | omega | (simp <;> omega))) | with_reducible apply Blk.allocp | with_reducible apply Blk.drew | with_reducible apply Blk.drewN))) hB1; have cB1 := hB1.cell; have fB1 := hB1.frozen; have lB1 := hB1.lt; have mB1 := Nat.ne_of_gt lB1; have nB1 := Nat.ne_of_lt lB1)
        go_ret
        exact ⟨ret_int hx.out, (by repeat (first | with_reducible exact Below.refl _ _ | with_reducible assumption | with_reducible apply Below.drew | with_reducible apply below_drewN | (with_reducible apply below_setp; (first | omega | (simp <;> omega))) | (with_reducible apply below_allocp; (first | omega | (simp <;> omega))) | (with_reducible refine below_viap (by assumption) ?_ ?_; (first | omega | (simp <;> omega)))))⟩
      · have hE := Lib.hid (fun w => syEnd_any t b s false w (by simp [h0, h1]))
        have step : ∀ t' b' s' : Int, (∀ w, Calls Try.prog 380 #[.agg #[.int .i64 t, .int .i64 b, .int .i64 s]] w fun e w' => e = .returned (.agg #[.int .i64 t', .int .i64 b', .int .i64 s']) ∧ Below w.heap.size w w') →
            0 < b' → b' ≤ 1000000000000000 → b' % 2 = 1 → (-1 ≤ s' ∧ s' ≤ 1) → (s' = 1 ∨ s' = -1) ∧ s' * jacS (t' % b') b' = R → muJ t' b' < muJ t b →
            ∃ t' b' s' : Int, Hid (∀ w, Calls Try.prog 380 #[.agg #[.int .i64 t, .int .i64 b, .int .i64 s]] w fun e w' => e = .returned (.agg #[.int .i64 t', .int .i64 b', .int .i64 s']) ∧ Below w.heap.size w w') ∧
            0 < b' ∧ b' ≤ 1000000000000000 ∧ Hid (b' % 2 = 1) ∧ (-1 ≤ s' ∧ s' ≤ 1) ∧ Hid ((s' = 1 ∨ s' = -1) ∧ s' * jacS (t' % b') b' = R) ∧ muJ t' b' < muJ t b :=
          fun t' b' s' h1 h2 h3 h4 h5 h6 h7 => ⟨t', b', s', Lib.hid h1, h2, h3, Lib.hid h4, h5, Lib.hid h6, h7⟩
        have hnx : ∃ t' b' s' : Int, Hid (∀ w, Calls Try.prog 380 #[.agg #[.int .i64 t, .int .i64 b, .int .i64 s]] w fun e w' => e = .returned (.agg #[.int .i64 t', .int .i64 b', .int .i64 s']) ∧ Below w.heap.size w w') ∧
            0 < b' ∧ b' ≤ 1000000000000000 ∧ Hid (b' % 2 = 1) ∧ (-1 ≤ s' ∧ s' ≤ 1) ∧ Hid ((s' = 1 ∨ s' = -1) ∧ s' * jacS (t' % b') b' = R) ∧ muJ t' b' < muJ t b := by
          have hso := hs.out
          have hbo := bo.out
          by_cases hin : 0 ≤ t ∧ t < b
          · have et : t % b = t := Int.emod_eq_of_lt hin.1 hin.2
            rw [et] at hso
            by_cases hev : t % 2 = 0
            · have hsg := sg_mul hso.1 (two_sg b)
              refine step (t / 2) b (s * two b) (fun w => sySuc_even t b s w b2 hin.1 hin.2 hev (by rcases hsg with h | h <;> rw [h] <;> omega) ⟨s1, s2⟩ hbo) b0 b2 hbo (by rcases hsg with h | h <;> rw [h] <;> omega) ⟨hsg, ?_⟩ (muJ_even (by omega) hin.2)
              rw [Int.emod_eq_of_lt (by omega) (by omega), Int.mul_assoc, ← jacS_even (by omega) hev]; exact hso.2
            · have hjo := jacS_odd (n := b) (show 0 < t by omega) hev
              refine step b t (if t % 4 = 3 ∧ b % 4 = 3 then -s else s) (fun w => sySuc_odd t b s _ w b2 (by omega) hin.2 hev ⟨s1, s2⟩ rfl) (by omega) (by omega) (by omega) (by split <;> omega) ⟨by split <;> omega, ?_⟩ (muJ_odd (by omega) hin.2)
              rw [← hso.2, hjo]
              split <;> grind
          · refine step (t % b) b s (fun w => sySuc_red t b s w b0 b2 hin) b0 b2 hbo ⟨s1, s2⟩ ⟨hso.1, ?_⟩ (muJ_red b0 hin)
            rw [Int.emod_emod]; exact hso.2
        clear step
        obtain ⟨t', b', s', hN, b0', b2', bo', hs', hj', hmu'⟩ := hnx
        have hmm : muJ t' b' ≤ gk - 1 := by omega
        have hm2 : gk - 1 < gk := by omega
        clear h0 h1 hmu hmu'
        go_wp2_with (first
          | (go_at_call 379; (with_reducible refine (hE.out _).mono ?_); rintro e v1 ⟨rfl, hB1⟩; have hZ1 := hB1.size; (try simp at hZ1); (try have zl1 : w.heap.size < v1.heap.size := by omega); (try have ze1 : w.heap.size ≤ v1.heap.size := by omega); (try have zn1 : ¬ w.heap.size = v1.heap.size := by omega); (try have zm1 : ¬ v1.heap.size = w.heap.size := by omega); have hB1 : Blk v1 (w.heap.size) 316 #[.int .i64 t, .int .i64 b, .int .i64 s] := Blk.call (by (repeat (first | with_reducible assumption | (with_reducible apply Blk.new_at; (first | rfl | (simp; done))) | with_reducible apply Blk.store3 | with_reducible apply Blk.store4 | (with_reducible apply Blk.farp; (first | omega | (simp <;> omega))) | with_reducible apply Blk.allocp | with_reducible apply Blk.drew | with_reducible apply Blk.drewN))) hB1; have cB1 := hB1.cell; have fB1 := hB1.frozen; have lB1 := hB1.lt; have mB1 := Nat.ne_of_gt lB1; have nB1 := Nat.ne_of_lt lB1)
          | (go_at_call 380; (with_reducible refine (hN.out _).mono ?_); rintro e v2 ⟨rfl, hB2⟩; have hZ2 := hB2.size; (try simp at hZ2); (try have zl2 : w.heap.size < v2.heap.size := by omega); (try have ze2 : w.heap.size ≤ v2.heap.size := by omega); (try have zn2 : ¬ w.heap.size = v2.heap.size := by omega); (try have zm2 : ¬ v2.heap.size = w.heap.size := by omega); have hB2 : Blk v2 (w.heap.size) 316 #[.int .i64 t, .int .i64 b, .int .i64 s] := Blk.call (by (repeat (first | with_reducible assumption | (with_reducible apply Blk.new_at; (first | rfl | (simp; done))) | with_reducible apply Blk.store3 | with_reducible apply Blk.store4 | (with_reducible apply Blk.farp; (first | omega | (simp <;> omega))) | with_reducible apply Blk.allocp | with_reducible apply Blk.drew | with_reducible apply Blk.drewN))) hB2; have cB2 := hB2.cell; have fB2 := hB2.frozen; have lB2 := hB2.lt; have mB2 := Nat.ne_of_gt lB2; have nB2 := Nat.ne_of_lt lB2))
        go_roundg (gk - 1)
        case measure => exact hm2
        case rel => exact ⟨t', b', s', b0', b2', bo', hs', hj', hmm, by (repeat (first | with_reducible assumption | (with_reducible apply Blk.new_at; (first | rfl | (simp; done))) | with_reducible apply Blk.store3 | with_reducible apply Blk.store4 | (with_reducible apply Blk.farp; (first | omega | (simp <;> omega))) | with_reducible apply Blk.allocp | with_reducible apply Blk.drew | with_reducible apply Blk.drewN)), (by repeat (first | with_reducible exact Below.refl _ _ | with_reducible assumption | with_reducible apply Below.drew | with_reducible apply below_drewN | (with_reducible apply below_setp; (first | omega | (simp <;> omega))) | (with_reducible apply below_allocp; (first | omega | (simp <;> omega))) | (with_reducible refine below_viap (by assumption) ?_ ?_; (first | omega | (simp <;> omega)))))⟩
end
end Go.Proofs.Ytjfcaafmlghjlaa
