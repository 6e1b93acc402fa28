/- Parts C1 R0 C2 C3 W1 C4 C5 C6 C7 C8 C9 S1 W3 laid together by tp.py. -/
import Derived.Test.YtlcegkafagdcjaaGreatDoorRows
import Derived.Test.YtlcegkafagdcjaaGreatDoorMM
import Derived.WalkKit
import Derived.ProofKit
import Derived.Outline
import Derived.WalkSpells
import Derived.WalkLawsBesides
import Derived.Lib.Hide
import Derived.Deep.QuietTactic
import Derived.BigQuiet
import Derived.StillTail
import Derived.Deep.Quiet
import Derived.Tactics
import Derived.Tactics2
import Derived.KernelRfl
import Derived.Below
import Derived.Laws.OwnMore
import Derived.Deep.Draws
import Derived.Laws.Rows
import Derived.Deep.LoopGhost
import Derived.BigRegion
import Derived.RegionTactic
import Derived.Laws.AppendOwn
import Derived.OwnWalk
namespace Go.Proofs.YtlcegkafagdcjaaGreatDoor
section
open Go.RowKit

theorem ret_int {k : IntKind} {a b : Int} (h : a = b) : Ending.returned (.int k a) = .returned (.int k b) := by rw [h]
theorem ret_bool {a b : Bool} (h : a = b) : Ending.returned (.bool a) = .returned (.bool b) := by rw [h]
theorem tmod_emod {a m : Int} (hm : 0 < m) : (if a.tmod m < 0 then a.tmod m + m else a.tmod m) = a % m := by
  have h1 := Int.emod_nonneg a (show m ≠ 0 by omega)
  have h2 := Int.emod_lt_of_pos a hm
  rw [Int.tmod_eq_emod]
  split <;> split <;> omega

theorem tmod_bd {a m : Int} (hm : 0 < m) : -m < a.tmod m ∧ a.tmod m < m := by
  have h1 := Int.emod_nonneg a (show m ≠ 0 by omega)
  have h2 := Int.emod_lt_of_pos a hm
  rw [Int.tmod_eq_emod]
  split <;> omega

set_option maxHeartbeats 400000 in
theorem nuMod_any (a m : Int) (w : World) (hm : 0 < m) (hm2 : m ≤ 4000000000000000000) :
    Calls Tryz.prog 95 #[.int .i64 a, .int .i64 m] w fun e w' => e = .returned (.int .i64 (a % m)) ∧ w = w' := by
  have hb := tmod_bd (a := a) hm
  have he := tmod_emod (a := a) hm
  have hne : (m == 0) = false := by rw [beq_eq_false_iff_ne]; omega
  generalize a % m = r at *
  obtain ⟨hb1, hb2⟩ := hb
  by_cases h : a.tmod m < 0
  · rw [if_pos h] at he
    have He := Lib.hid he; clear he
    go_enter Tryz.func95, Tryz.ntmps95
    go_wp2
    go_ret
    exact ⟨ret_int He.out, rfl⟩
  · rw [if_neg h] at he
    have He := Lib.hid he; clear he
    go_enter Tryz.func95, Tryz.ntmps95
    go_wp2
    go_ret
    exact ⟨ret_int He.out, rfl⟩

set_option maxHeartbeats 400000 in
theorem mod_any (a m : Int) (w : World) (hm : 0 < m) (hm2 : m ≤ 4000000000000000000) :
    Calls Tryz.prog 87 #[.int .i64 a, .int .i64 m] w fun e w' => e = .returned (.int .i64 (a % m)) ∧ w = w' := by
  have hb := tmod_bd (a := a) hm
  have he := tmod_emod (a := a) hm
  have hne : (m == 0) = false := by rw [beq_eq_false_iff_ne]; omega
  generalize a % m = r at *
  obtain ⟨hb1, hb2⟩ := hb
  by_cases h : a.tmod m < 0
  · rw [if_pos h] at he
    have He := Lib.hid he; clear he
    go_enter Tryz.func87, Tryz.ntmps87
    go_wp2
    go_ret
    exact ⟨ret_int He.out, rfl⟩
  · rw [if_neg h] at he
    have He := Lib.hid he; clear he
    go_enter Tryz.func87, Tryz.ntmps87
    go_wp2
    go_ret
    exact ⟨ret_int He.out, rfl⟩

theorem tdiv_bd {a m K : Int} (h1 : -K ≤ a) (h2 : a ≤ K) : -K ≤ a.tdiv m ∧ a.tdiv m ≤ K := by
  have h := Int.natAbs_tdiv_le_natAbs a m
  omega

theorem floor_tdiv {a m : Int} (hm : 0 < m) : (a - a % m).tdiv m = a / m := by
  have h : a - a % m = a / m * m := by have := Int.emod_add_mul_ediv a m; rw [Int.mul_comm m] at this; omega
  rw [h, Int.mul_tdiv_cancel _ (by omega)]

set_option maxHeartbeats 400000 in
theorem floorDiv_any (a m : Int) (w : World) (hm : 0 < m) (hm2 : m ≤ 4000000000000000000) (h1 : -4000000000000000000 ≤ a) (h2 : a ≤ 4000000000000000000) :
    Calls Tryz.prog 114 #[.int .i64 a, .int .i64 m] w fun e w' => e = .returned (.int .i64 (a / m)) ∧ w = w' := by
  have he := floor_tdiv (a := a) hm
  have h3 := Int.emod_nonneg a (show m ≠ 0 by omega)
  have h4 := Int.emod_lt_of_pos a hm
  have hne : (m == 0) = false := by rw [beq_eq_false_iff_ne]; omega
  have H4 := Lib.hid he; clear he
  have hq := tdiv_bd (a := a - a % m) (m := m) (K := 8000000000000000000) (by omega) (by omega)
  generalize a / m = q at *
  go_enter Tryz.func114, Tryz.ntmps114
  go_wp2_with (go_at_call 87; refine (mod_any _ _ _ hm hm2).mono ?_; rintro e w' ⟨rfl, rfl⟩)
  go_ret
  exact ⟨ret_int H4.out, rfl⟩

set_option maxHeartbeats 400000 in
theorem abs_any (a : Int) (w : World) (h1 : -4000000000000000000 ≤ a) (h2 : a ≤ 4000000000000000000) :
    Calls Tryz.prog 117 #[.int .i64 a] w fun e w' => e = .returned (.int .i64 a.natAbs) ∧ w = w' := by
  go_enter Tryz.func117, Tryz.ntmps117
  go_wp2
  all_goals
    go_ret
    exact ⟨ret_int (by omega), rfl⟩

set_option maxHeartbeats 400000 in
theorem l1Abs_any (a : Int) (w : World) (h1 : -4000000000000000000 ≤ a) (h2 : a ≤ 4000000000000000000) :
    Calls Tryz.prog 150 #[.int .i64 a] w fun e w' => e = .returned (.int .i64 a.natAbs) ∧ w = w' := by
  by_cases h : a ≤ -a
  · go_enter Tryz.func150, Tryz.ntmps150
    go_wp2
    go_ret
    exact ⟨ret_int (by omega), rfl⟩
  · go_enter Tryz.func150, Tryz.ntmps150
    go_wp2
    go_ret
    exact ⟨ret_int (by omega), rfl⟩

theorem gcd_tmod (a b : Int) : Int.gcd b (a.tmod b) = Int.gcd a b := by
  have h := Int.natAbs_tmod a b
  rw [Int.gcd_eq_natAbs_gcd_natAbs, Int.gcd_eq_natAbs_gcd_natAbs, h, Nat.gcd_comm, ← Nat.gcd_rec, Nat.gcd_comm]
theorem tmod_lt (a : Int) {b : Int} (hb : b ≠ 0) : (a.tmod b).natAbs < b.natAbs := by
  rw [Int.natAbs_tmod]
  exact Nat.mod_lt _ (by omega)

set_option maxHeartbeats 400000 in
theorem gcd_any (a b : Int) (w : World) (h1 : -4000000000000000000 ≤ a) (h2 : a ≤ 4000000000000000000) (h3 : -4000000000000000000 ≤ b) (h4 : b ≤ 4000000000000000000) :
    Calls Tryz.prog 115 #[.int .i64 a, .int .i64 b] w fun e w' => e = .returned (.int .i64 (Int.gcd a b)) ∧ ∃ n, w' = w.drewN n := by
  go_enter Tryz.func115, Tryz.ntmps115
  go_wp2
  go_loopw [0, 1] (fun x y wr => ∃ s t : Int, x = .int .i64 s ∧ y = .int .i64 t ∧ -4000000000000000000 ≤ s ∧ s ≤ 4000000000000000000 ∧ -4000000000000000000 ≤ t ∧ t ≤ 4000000000000000000 ∧ Hid (Int.gcd s t = Int.gcd a b) ∧ ∃ n, Hid (wr = w.drewN n))
    (fun _ y _ => (intOf y).natAbs)
  case atStart => exact ⟨a, b, rfl, rfl, h1, h2, h3, h4, Lib.hid rfl, 0, Lib.hid rfl⟩
  case round =>
    obtain ⟨s, t, rfl, rfl, hs1, hs2, ht1, ht2, hg, n, hn⟩ := hrel
    by_cases ht : t = 0
    · subst ht
      go_wp2_with (go_at_call 117; refine (abs_any _ _ hs1 hs2).mono ?_; rintro e w' ⟨rfl, rfl⟩)
      go_ret
      exact ⟨ret_int (by rw [← hg.out]; simp), n, hn.out⟩
    · have hne : (t == 0) = false := by rw [beq_eq_false_iff_ne]; omega
      have hne2 : (t != 0) = true := by rw [bne_iff_ne]; omega
      have hlt := tmod_lt s ht
      have hgt := Lib.hid ((gcd_tmod s t).trans hg.out)
      clear ht
      go_wp2
      go_quiet (fail)
      go_wp2
      go_roundw

      case rel => exact ⟨t, s.tmod t, rfl, rfl, ht1, ht2, by omega, by omega, hgt, _, Lib.hid (by rw [hn.out, World.drewN_drewN])⟩
      case measure => simpa [intOf] using hlt

set_option maxHeartbeats 400000 in
theorem nuGcd_any (a b : Int) (w : World) (h1 : -4000000000000000000 ≤ a) (h2 : a ≤ 4000000000000000000) (h3 : -4000000000000000000 ≤ b) (h4 : b ≤ 4000000000000000000) :
    Calls Tryz.prog 135 #[.int .i64 a, .int .i64 b] w fun e w' => e = .returned (.int .i64 (Int.gcd a b)) ∧ ∃ n, w' = w.drewN n := by
  go_enter Tryz.func135, Tryz.ntmps135
  go_wp2_with (go_at_call 150; refine (l1Abs_any _ _ (by omega) (by omega)).mono ?_; rintro e w' ⟨rfl, rfl⟩)
  go_loopw [0, 1] (fun x y wr => ∃ s t : Int, x = .int .i64 s ∧ y = .int .i64 t ∧ 0 ≤ s ∧ s ≤ 4000000000000000000 ∧ 0 ≤ t ∧ t ≤ 4000000000000000000 ∧ Hid (Int.gcd s t = Int.gcd a b) ∧ ∃ n, Hid (wr = w.drewN n))
    (fun _ y _ => (intOf y).natAbs)
  case atStart => exact ⟨a.natAbs, b.natAbs, rfl, rfl, by omega, by omega, by omega, by omega, Lib.hid (by simp [Int.gcd_eq_natAbs_gcd_natAbs]), 0, Lib.hid rfl⟩
  case round =>
    obtain ⟨s, t, rfl, rfl, hs1, hs2, ht1, ht2, hg, n, hn⟩ := hrel
    by_cases ht : t = 0
    · subst ht
      go_wp2
      go_ret
      exact ⟨ret_int (by rw [← hg.out]; simp; omega), n, hn.out⟩
    · have hne : (t == 0) = false := by rw [beq_eq_false_iff_ne]; omega
      have hne2 : (t != 0) = true := by rw [bne_iff_ne]; omega
      have h0 := Int.emod_nonneg s ht
      have hlt := Int.emod_lt_of_pos s (show 0 < t by omega)
      have hgt := Lib.hid (show Int.gcd t (s % t) = Int.gcd a b by rw [← hg.out, ← gcd_tmod s t, Int.tmod_eq_emod_of_nonneg hs1])
      clear ht
      go_wp2
      go_quiet (fail)
      go_wp2
      go_roundw
      case rel => exact ⟨t, s % t, rfl, rfl, ht1, ht2, by omega, by omega, hgt, _, Lib.hid (by rw [hn.out, World.drewN_drewN])⟩
      case measure => simp [intOf]; omega

/-- A negative discriminant within the range. -/
def isDisc (d : Int) : Bool := decide (-2000 ≤ d) && (decide (d ≤ -3) && decide (d % 4 < 2))

set_option maxHeartbeats 400000 in
theorem reDisc_any (d : Int) (w : World) : Calls Tryz.prog 98 #[.int .i64 d] w fun e w' => e = .returned (.bool (isDisc d)) ∧ w = w' := by
  unfold isDisc
  by_cases h1 : -2000 ≤ d
  · by_cases h2 : d ≤ -3
    · go_enter Tryz.func98, Tryz.ntmps98
      go_wp2_with (first | (go_at_call 95; refine (nuMod_any _ _ _ (by omega) (by omega)).mono ?_; rintro e w' ⟨rfl, rfl⟩) | go_in)
      go_ret
      exact ⟨ret_bool (by first | (simp; done) | (simp; omega) | (rw [Bool.eq_iff_iff]; simp; omega) | (simp_all; done) | (simp_all; omega)), rfl⟩
    · go_enter Tryz.func98, Tryz.ntmps98
      go_wp2_with go_in
      go_ret
      exact ⟨ret_bool (by first | (simp; done) | (simp; omega) | (rw [Bool.eq_iff_iff]; simp; omega) | (simp_all; done) | (simp_all; omega)), rfl⟩
  · go_enter Tryz.func98, Tryz.ntmps98
    go_wp2_with go_in
    go_ret
    exact ⟨ret_bool (by first | (simp; done) | (simp; omega) | (rw [Bool.eq_iff_iff]; simp; omega) | (simp_all; done) | (simp_all; omega)), rfl⟩

end

section
open Go Go.RowKit

section
variable {P : Program} {ops : Array Oper} {md : Region.Mode} {C : World → Prop}

/-- What an operation has yielded: the value v and a world of the class, or a call that hands back v and leaves such a world. -/
def calmUpon (P : Program) (C : World → Prop) (v : Value) : Result Next → Prop
  | .ok (.value u) w => u = v ∧ C w
  | .ok .skip w => v = undef ∧ C w
  | .ok (.enter f args) w => Calls P f args w (fun e w' => e = .returned v ∧ C w')
  | _ => False

def Calm (P : Program) (ops : Array Oper) (C : World → Prop) (o : Oper) (v : Value) (a : Act) : Prop :=
  (Region.wanted o (yielded ops a.tmps) = true ∧ ∀ w, C w → calmUpon P C v ((execOp a.eval o).run P w)) ∨
  (Region.wanted o (yielded ops a.tmps) = false ∧ v = undef)

/-- The walk in the order of the text. -/
def wpCalm (P : Program) (ops : Array Oper) (C : World → Prop) (Q : Act → Prop) : List Oper → Act → Prop
  | [], a => Q a
  | o :: rest, a => ∃ v, Calm P ops C o v a ∧ wpCalm P ops C Q rest (a.put o.dst v)

theorem wpCalm_nil {Q : Act → Prop} {a : Act} (h : Q a) : wpCalm P ops C Q [] a := h
theorem wpCalm_on {Q : Act → Prop} {a : Act} {o : Oper} {rest : List Oper} (v : Value) (hw : Region.wanted o (yielded ops a.tmps) = true) (hv : ∀ w, C w → calmUpon P C v ((execOp a.eval o).run P w))
    (h : wpCalm P ops C Q rest (a.put o.dst v)) : wpCalm P ops C Q (o :: rest) a := ⟨v, .inl ⟨hw, hv⟩, h⟩
theorem wpCalm_off {Q : Act → Prop} {a : Act} {o : Oper} {rest : List Oper} (hw : Region.wanted o (yielded ops a.tmps) = false)
    (h : wpCalm P ops C Q rest (a.put o.dst undef)) : wpCalm P ops C Q (o :: rest) a := ⟨undef, .inr ⟨hw, rfl⟩, h⟩

theorem Calm.of_put {oi oj : Oper} {v u : Value} {a : Act} (hap : oi.apart ops oj = true) (hsj : ∀ cs b, oj.op ≠ .select cs b) (h : Calm P ops C oj u (a.put oi.dst v)) : Calm P ops C oj u a := by
  obtain ⟨h1, _, _⟩ := Oper.apart_spec hap
  unfold Calm at h ⊢
  rw [wanted_put oj a oi.dst v h1, execOp_put oj hsj a oi.dst v h1] at h
  exact h
theorem Calm.put {oi oj : Oper} {v u : Value} {a : Act} (hap : oi.apart ops oj = true) (hsi : ∀ cs b, oi.op ≠ .select cs b) (h : Calm P ops C oi v a) : Calm P ops C oi v (a.put oj.dst u) := by
  obtain ⟨_, _, h3⟩ := Oper.apart_spec hap
  unfold Calm at h ⊢
  rw [wanted_put oi a oj.dst u h3, execOp_put oi hsi a oj.dst u h3]
  exact h

/-- Whatever order is picked, till the head of n operations is through. -/
def AnyC (P : Program) (md : Region.Mode) (ops : Array Oper) (C : World → Prop) (n : Nat) (L : Array Bool → Act → Prop) : Nat → Array Bool → Act → Prop
  | 0, listed, a => L listed a
  | f + 1, listed, a => Region.ready md ops listed ≠ [] ∧ ∀ i ∈ Region.ready md ops listed, i < n ∧ ∃ o v, ops[i]? = some o ∧ Calm P ops C o v a ∧ AnyC P md ops C n L f (listed.setIfInBounds i true) (a.put o.dst v)

theorem wpOp_of_calm {i : Nat} {o : Oper} {v : Value} {a : Act} {w : World} (hi : ops[i]? = some o) (hy : Calm P ops C o v a) (hw : C w) {K : Act → World → Prop} {Q : Exit → Act → World → Prop}
    (h : ∀ w', C w' → K (a.put o.dst v) w') : wpOp P ops Q i K a w := by
  unfold wpOp
  simp only [hi]
  rcases hy with ⟨hn, hv⟩ | ⟨hn, rfl⟩
  · simp only [hn, if_true]
    refine .inl ?_
    have h1 := hv w hw
    unfold Oper.wp
    generalize (execOp a.eval o).run P w = r at *
    cases r with
    | ok n w' =>
      cases n <;> simp only [calmUpon] at h1 <;> simp only [Oper.upon]
      case value u => obtain ⟨rfl, hc⟩ := h1; exact h _ hc
      case skip => obtain ⟨rfl, hc⟩ := h1; exact h _ hc
      case enter f args => exact h1.mono fun e w'' ⟨he, hc⟩ => by subst he; exact h _ hc
    | halt x w' => simp only [calmUpon] at h1
  · simp only [hn, Bool.false_eq_true, if_false]; exact h w hw

theorem wpAny_of_AnyC {n g : Nat} {L : Array Bool → Act → Prop} {Q : Exit → Act → World → Prop} (hL : ∀ listed a w, C w → L listed a → wpAny P md ops Q g listed a w) :
    ∀ (f : Nat) (listed : Array Bool) (a : Act) (w : World), C w → AnyC P md ops C n L f listed a → wpAny P md ops Q (f + g) listed a w
  | 0, listed, a, w, hw, h => by rw [Nat.zero_add]; exact hL _ _ _ hw h
  | f + 1, listed, a, w, hw, h => by
    rw [show f + 1 + g = (f + g) + 1 by omega]
    refine ⟨fun h0 => absurd h0 h.1, fun i hi => ?_⟩
    obtain ⟨_, o, v, ho, hc, hr⟩ := h.2 i hi
    exact wpOp_of_calm ho hc hw fun w' hw' => wpAny_of_AnyC hL f _ _ w' hw' hr

/-- An operation that may come up now may be taken first. -/
theorem AnyC_first {n i : Nat} {oi : Oper} {v : Value} {L : Array Bool → Act → Prop} (hi : ops[i]? = some oi) (hsel : ∀ (j : Nat) (o : Oper) cs b, ops[j]? = some o → o.op ≠ .select cs b)
    (hblock : ∀ listed, HeadInv md ops n listed → ∀ i, i < n → listed.getD i true = false → ∀ t, n ≤ t → t ∉ Region.ready md ops listed) (hin : i < n)
    (hdone : ∀ listed a, L listed a → ∀ j ∈ Region.ready md ops listed, n ≤ j) :
    ∀ (f : Nat) (listed : Array Bool) (a : Act), HeadInv md ops n listed →
      (∀ j oj, ops[j]? = some oj → j ≠ i → listed.getD j true = false → (∀ e ∈ oj.after, Region.binds md e = true → e.on ≠ i) → oi.apart ops oj = true) →
      i ∈ Region.ready md ops listed → Calm P ops C oi v a →
      AnyC P md ops C n L f (listed.setIfInBounds i true) (a.put oi.dst v) → AnyC P md ops C n L (f + 1) listed a := by
  intro f
  induction f with
  | zero =>
    intro listed a inv _ hr hy H
    refine ⟨fun h => (by rw [h] at hr; cases hr), fun j hj => ?_⟩
    have hjn : j < n := Nat.lt_of_not_le fun h => hblock listed inv i hin (mem_ready.1 hr).1 j h hj
    refine ⟨hjn, ?_⟩
    by_cases hji : j = i
    · subst hji; exact ⟨oi, v, hi, hy, H⟩
    · have := hdone _ _ H j (ready_mono hj hji)
      omega
  | succ f ih =>
    intro listed a inv hfree hr hy H
    have hun := (mem_ready.1 hr).1
    refine ⟨fun h => (by rw [h] at hr; cases hr), fun j hj => ?_⟩
    have hjn : j < n := Nat.lt_of_not_le fun h => hblock listed inv i hin hun j h hj
    refine ⟨hjn, ?_⟩
    by_cases hji : j = i
    · subst hji; exact ⟨oi, v, hi, hy, H⟩
    · obtain ⟨_, oj, u, hoj, hcj, hrest⟩ := H.2 j (ready_mono hj hji)
      obtain ⟨hjun, oj', hoj', hall⟩ := mem_ready.1 hj
      obtain rfl : oj' = oj := Option.some.inj (hoj'.symm.trans hoj)
      have hnot : ∀ e ∈ oj'.after, Region.binds md e = true → e.on ≠ i := fun e he hb heq => by
        have h1 := hall e he hb
        rw [heq, getD_both hun] at h1
        cases h1
      have hap := hfree j oj' hoj hji hjun hnot
      obtain ⟨_, h2, _⟩ := Oper.apart_spec hap
      have hfree' : ∀ k ok, ops[k]? = some ok → k ≠ i → (listed.setIfInBounds j true).getD k true = false →
          (∀ e ∈ ok.after, Region.binds md e = true → e.on ≠ i) → oi.apart ops ok = true := fun k ok hk hki hun' hno => by
        refine hfree k ok hk hki ?_ hno
        by_cases hjk : j = k
        · subst hjk; exact hjun
        · rw [getD_set_ne true hjk] at hun'; exact hun'
      refine ⟨oj', u, hoj, hcj.of_put hap (fun cs b => hsel j oj' cs b hoj), ih (listed.setIfInBounds j true) _ (inv.set hj hjn) hfree' (ready_mono hr (Ne.symm hji)) (hy.put hap (fun cs b => hsel i oi cs b hi)) ?_⟩
      rw [Array.setIfInBounds_comm _ _ hji, ← Act.put_comm a v u h2]
      exact hrest

theorem AnyC_lex {n g : Nat} {Lq : Act → Prop} (hsel : Region.noSelect ops = true)
    (hblock : ∀ listed, HeadInv md ops n listed → ∀ i, i < n → listed.getD i true = false → ∀ t, n ≤ t → t ∉ Region.ready md ops listed) :
    ∀ (l : List Oper) (k : Nat) (listed : Array Bool) (a : Act), (∀ j, j < l.length → l[j]? = ops[k + j]?) → k + l.length = n → HeadInv md ops n listed →
    Region.lexHead md ops g l.length k listed = true → wpCalm P ops C Lq l a →
    AnyC P md ops C n (fun listed' a' => Region.seqB md ops g n listed' = true ∧ Lq a') l.length listed a
  | [], k, listed, a, _, hk, _, hB, h => by
    obtain rfl : k = n := by simpa using hk
    exact ⟨by simpa [Region.lexHead] using hB, h⟩
  | o :: l, k, listed, a, hl, hk, inv, hB, h => by
    have h0 : ops[k]? = some o := by simpa using (hl 0 (by simp)).symm
    simp only [List.length_cons, Region.lexHead, Bool.and_eq_true] at hB
    obtain ⟨⟨hr, hf⟩, hB'⟩ := hB
    have hkn : k < n := by simp only [List.length_cons] at hk; omega
    have hr' : k ∈ Region.ready md ops listed := by simpa using hr
    obtain ⟨v, hy, hK⟩ := h
    exact AnyC_first h0 (Region.noSelect_spec hsel) hblock hkn (fun listed' a' hL => seqB_ready hL.1) l.length listed a inv (Region.free_spec h0 hf) hr' hy
      (AnyC_lex hsel hblock l (k + 1) _ _ (fun j hj => by have := hl (j + 1) (by simp; omega); simpa [Nat.add_assoc, Nat.add_comm 1 j] using this) (by simp only [List.length_cons] at hk; omega) (inv.set hr' hkn) hB' hK)

/-- The check on a region: its first n operations in the order of the text, then a tail in a forced order. -/
def calmB (ops : Array Oper) (n : Nat) : Bool :=
  Region.noSelect ops && (decide (n = ops.size) || (decide (n < ops.size) && Region.sinkB .any ops n && Region.chainB .any ops n)) && Region.lexHead .any ops (ops.size - n) n 0 (Array.replicate ops.size false)

/-- One walk of the text's order serves every order. -/
theorem wp_region_calm {id : Nat} {Q : Exit → Act → World → Prop} {a : Act} {w : World} {l : List Oper} (n : Nat) (C : World → Prop) (hm : P.follows .mixedOrders = true) (hB : calmB l.toArray n = true) (hC : C w.drew)
    (h : wpCalm P l.toArray C (fun a' => ∀ w', C w' → wpList P l.toArray Q (l.drop n) a' w') (l.take n) a) : (Code.region id l.toArray true).wp P Q a w := by
  simp only [calmB, Bool.and_eq_true, Bool.or_eq_true, decide_eq_true_eq] at hB
  obtain ⟨⟨hsel, hcase⟩, hlex⟩ := hB
  have hn' : n ≤ l.length := by
    rcases hcase with h | ⟨⟨h, _⟩, _⟩
    · simp at h; omega
    · simp at h; omega
  have hblock : ∀ listed, HeadInv .any l.toArray n listed → ∀ i, i < n → listed.getD i true = false → ∀ t, n ≤ t → t ∉ Region.ready .any l.toArray listed := by
    intro listed inv i hi hun t ht htr
    rcases hcase with h | ⟨⟨h1, h2⟩, h3⟩
    · obtain ⟨_, ot, hot, _⟩ := mem_ready.1 htr
      have := (Array.getElem?_eq_some_iff.1 hot).1
      omega
    · exact tail_waits h2 h3 h1 inv _ i rfl hi hun t ht htr
  have htl : (l.take n).length = n := by simp; omega
  have hdl : (l.drop n).length = l.toArray.size - n := by simp
  have inv0 : HeadInv .any l.toArray n (Array.replicate l.toArray.size false) :=
    ⟨by simp, fun j oj _ hl => (by rw [getD_replicate_false] at hl; cases hl), fun t _ ht => getD_in (by simpa using ht) (getD_replicate_false _ _)⟩
  have H := AnyC_lex (md := .any) (g := l.toArray.size - n) hsel hblock (l.take n) 0 _ a (fun j hj => by
    have hj' : j < n := by rw [htl] at hj; exact hj
    simp [hj']) (by simpa using htl) inv0 (by rw [htl]; exact hlex) h
  refine wp_region_any hm ?_
  have := wpAny_of_AnyC (Q := Q) (g := l.toArray.size - n) (fun listed a' w' hw' hL => by
    have := wpAny_of_seq (md := .any) (Q' := Q) (l.drop n) n listed a' w' (fun j => by simp [List.getElem?_drop]) (by rw [hdl]; exact hL.1) (hL.2 w' hw')
    rwa [hdl] at this) _ _ _ _ hC H
  rw [htl, show n + (l.toArray.size - n) = l.toArray.size by omega] at this
  exact this

attribute [go_sem] calmUpon

/-- The usual class: what was there when the region began is as it was. -/
theorem calm_cells {B : Nat} {W w : World} (h : Below B W w) : (∀ b o, b < B → w.cell? ⟨b, o, none⟩ = W.cell? ⟨b, o, none⟩) ∧ (∀ b o, b < B → w.frozen? ⟨b, o, none⟩ = W.frozen? ⟨b, o, none⟩) :=
  ⟨fun b o hb => h.cell (p := ⟨b, o, none⟩) hb, fun b o hb => h.frozen (p := ⟨b, o, none⟩) hb⟩
theorem calm_size {B : Nat} {W w : World} (h : Below B W w) : ∀ k, k < W.heap.size → k < w.heap.size := fun _ hk => Nat.lt_of_lt_of_le hk h.size
/-- One operation of the walk, over the usual class. -/
theorem wpCalm_go {B : Nat} {W : World} {Q : Act → Prop} {a : Act} {o : Oper} {rest : List Oper} {v : Value} (hw : Region.wanted o (yielded ops a.tmps) = true)
    (hv : ∀ w, Below B W w → (∀ b o, b < B → w.cell? ⟨b, o, none⟩ = W.cell? ⟨b, o, none⟩) → (∀ b o, b < B → w.frozen? ⟨b, o, none⟩ = W.frozen? ⟨b, o, none⟩) → calmUpon P (Below B W) v ((execOp a.eval o).run P w))
    (h : ∀ K : Act → Prop, (∀ a, wpCalm P ops (Below B W) Q rest a → K a) → K (a.put o.dst v)) : wpCalm P ops (Below B W) Q (o :: rest) a :=
  wpCalm_on v hw (fun w hb => hv w hb (calm_cells hb).1 (calm_cells hb).2) (h _ fun _ h => h)
theorem wpCalm_skip {Q : Act → Prop} {a : Act} {o : Oper} {rest : List Oper} (hw : Region.wanted o (yielded ops a.tmps) = false)
    (h : ∀ K : Act → Prop, (∀ a, wpCalm P ops C Q rest a → K a) → K (a.put o.dst undef)) : wpCalm P ops C Q (o :: rest) a :=
  wpCalm_off hw (h _ fun _ h => h)
/-- The class is kept behind a call. -/
theorem calm_call {B : Nat} {W w w1 : World} (hB : B ≤ W.heap.size) (h : Below B W w) (hb : Below w.heap.size w w1) : Below B W w1 := h.trans (hb.mono (Nat.le_trans hB h.size))
theorem calm_call_same {B : Nat} {W w w1 : World} (h : Below B W w) (hb : w = w1) : Below B W w1 := hb ▸ h
theorem below_via {B B' : Nat} {a b c : World} (h : Below B a b) (k : Below B' b c) (hB : B ≤ B') : Below B a c := h.trans (k.mono hB)
theorem below_viap {B B' : Nat} {a b c : World} (k : Below B' b c) (hB : B ≤ B') (h : Below B a b) : Below B a c := h.trans (k.mono hB)
theorem below_allocp {B : Nat} {a w : World} {o : Obj} (hB : B ≤ w.heap.size) (h : Below B a w) : Below B a (w.alloc o) := h.alloc hB o
theorem below_setp {B : Nat} {a w : World} {p : Addr} {u : Value} (hp : B ≤ p.block) (h : Below B a w) : Below B a (w.setCell p u) := h.setCell hp u
theorem below_drewN {B : Nat} {a w : World} (h : Below B a w) (n : Nat) : Below B a (w.drewN n) := ⟨h.os, h.tape, h.output, h.size, h.block⟩
theorem calm_call_draws {B : Nat} {W w w1 : World} (h : Below B W w) (hb : ∃ n, w1 = w.drewN n) : Below B W w1 := by
  obtain ⟨n, rfl⟩ := hb
  exact below_drewN h n
end
end

section
open Go.RowKit

/-- An integer far from the ends. -/
def Far (x : Int) : Prop := -2000000000000000000 ≤ x ∧ x ≤ 2000000000000000000

structure AtOK (a b c x y : Int) : Prop where
  h1 : Far (a * x)
  h2 : Far (a * x * x)
  h3 : Far (b * x)
  h4 : Far (b * x * y)
  h5 : Far (c * y)
  h6 : Far (c * y * y)

structure PolOK (a b c x y u v : Int) : Prop where
  h0 : Far (2 * a)
  h1 : Far (2 * a * x)
  h2 : Far (2 * a * x * u)
  h3 : Far (x * v)
  h4 : Far (y * u)
  h5 : Far (b * (x * v + y * u))
  h6 : Far (2 * c)
  h7 : Far (2 * c * y)
  h8 : Far (2 * c * y * v)

def atF (a b c x y : Int) : Int := a * x * x + b * x * y + c * y * y
def polF (a b c x y u v : Int) : Int := 2 * a * x * u + b * (x * v + y * u) + 2 * c * y * v

set_option maxHeartbeats 400000 in
theorem at_any (a b c x y : Int) (w : World) (h : AtOK a b c x y) :
    Calls Tryz.prog 69 #[.agg #[.int .i64 a, .int .i64 b, .int .i64 c], .int .i64 x, .int .i64 y] w fun e w' => e = .returned (.int .i64 (atF a b c x y)) ∧ Below w.heap.size w w' := by
  obtain ⟨⟨h1, k1⟩, ⟨h2, k2⟩, ⟨h3, k3⟩, ⟨h4, k4⟩, ⟨h5, k5⟩, ⟨h6, k6⟩⟩ := h
  go_enter Tryz.func69, Tryz.ntmps69
  go_wp2
  go_ret
  exact ⟨ret_int rfl, (by repeat (first | with_reducible exact Below.refl _ _ | with_reducible assumption | with_reducible apply Below.drew | with_reducible apply below_drewN | (with_reducible apply below_setp; (first | omega | (simp <;> omega))) | (with_reducible apply below_allocp; (first | omega | (simp <;> omega))) | (with_reducible refine below_viap (by assumption) ?_ ?_; (first | omega | (simp <;> omega)))))⟩

set_option maxHeartbeats 400000 in
theorem foValue_any (a b c x y : Int) (w : World) (h : AtOK a b c x y) :
    Calls Tryz.prog 136 #[.agg #[.int .i64 a, .int .i64 b, .int .i64 c], .int .i64 x, .int .i64 y] w fun e w' => e = .returned (.int .i64 (atF a b c x y)) ∧ Below w.heap.size w w' := by
  obtain ⟨⟨h1, k1⟩, ⟨h2, k2⟩, ⟨h3, k3⟩, ⟨h4, k4⟩, ⟨h5, k5⟩, ⟨h6, k6⟩⟩ := h
  go_enter Tryz.func136, Tryz.ntmps136
  go_wp2
  go_ret
  exact ⟨ret_int rfl, (by repeat (first | with_reducible exact Below.refl _ _ | with_reducible assumption | with_reducible apply Below.drew | with_reducible apply below_drewN | (with_reducible apply below_setp; (first | omega | (simp <;> omega))) | (with_reducible apply below_allocp; (first | omega | (simp <;> omega))) | (with_reducible refine below_viap (by assumption) ?_ ?_; (first | omega | (simp <;> omega)))))⟩

set_option maxHeartbeats 400000 in
theorem polar_any (a b c x y u v : Int) (w : World) (h : PolOK a b c x y u v) :
    Calls Tryz.prog 70 #[.agg #[.int .i64 a, .int .i64 b, .int .i64 c], .int .i64 x, .int .i64 y, .int .i64 u, .int .i64 v] w fun e w' => e = .returned (.int .i64 (polF a b c x y u v)) ∧ Below w.heap.size w w' := by
  obtain ⟨⟨h0, k0⟩, ⟨h1, k1⟩, ⟨h2, k2⟩, ⟨h3, k3⟩, ⟨h4, k4⟩, ⟨h5, k5⟩, ⟨h6, k6⟩, ⟨h7, k7⟩, ⟨h8, k8⟩⟩ := h
  go_enter Tryz.func70, Tryz.ntmps70
  go_wp2
  go_ret
  exact ⟨ret_int rfl, (by repeat (first | with_reducible exact Below.refl _ _ | with_reducible assumption | with_reducible apply Below.drew | with_reducible apply below_drewN | (with_reducible apply below_setp; (first | omega | (simp <;> omega))) | (with_reducible apply below_allocp; (first | omega | (simp <;> omega))) | (with_reducible refine below_viap (by assumption) ?_ ?_; (first | omega | (simp <;> omega)))))⟩

set_option maxHeartbeats 400000 in
theorem foPolar_any (a b c x y u v : Int) (w : World) (h : PolOK a b c x y u v) :
    Calls Tryz.prog 137 #[.agg #[.int .i64 a, .int .i64 b, .int .i64 c], .int .i64 x, .int .i64 y, .int .i64 u, .int .i64 v] w fun e w' => e = .returned (.int .i64 (polF a b c x y u v)) ∧ Below w.heap.size w w' := by
  obtain ⟨⟨h0, k0⟩, ⟨h1, k1⟩, ⟨h2, k2⟩, ⟨h3, k3⟩, ⟨h4, k4⟩, ⟨h5, k5⟩, ⟨h6, k6⟩, ⟨h7, k7⟩, ⟨h8, k8⟩⟩ := h
  go_enter Tryz.func137, Tryz.ntmps137
  go_wp2
  go_ret
  exact ⟨ret_int rfl, (by repeat (first | with_reducible exact Below.refl _ _ | with_reducible assumption | with_reducible apply Below.drew | with_reducible apply below_drewN | (with_reducible apply below_setp; (first | omega | (simp <;> omega))) | (with_reducible apply below_allocp; (first | omega | (simp <;> omega))) | (with_reducible refine below_viap (by assumption) ?_ ?_; (first | omega | (simp <;> omega)))))⟩


set_option maxHeartbeats 800000 in
theorem substitute_any (a b c p q r s : Int) (w : World) (h1 : AtOK a b c p r) (h2 : PolOK a b c p r q s) (h3 : AtOK a b c q s) :
    Calls Tryz.prog 36 #[.agg #[.int .i64 a, .int .i64 b, .int .i64 c], .agg #[.int .i64 p, .int .i64 q, .int .i64 r, .int .i64 s]] w fun e w' =>
      e = .returned (.agg #[.int .i64 (atF a b c p r), .int .i64 (polF a b c p r q s), .int .i64 (atF a b c q s)]) ∧ Below w.heap.size w w' := by
  go_enter Tryz.func36, Tryz.ntmps36
  go_wp2
  refine wp_region_calm 23 (Below (w.heap.size + 3) _) (by kernel_rfl) (by kernel_rfl) ((Below.refl _ _).drew) ?_
  simp only [List.take_succ_cons, List.take_zero, List.drop_succ_cons, List.drop_zero]
  repeat (first | (apply wpCalm_go; go_simp; (intro w' hw' hcc hff; go_simp; first | exact rfl | (refine (at_any a b c _ _ _ ?_).mono ?_; (first | exact h1 | exact h3); rintro e w1 ⟨rfl, hb⟩; exact ⟨rfl, calm_call (by simp <;> omega) hw' hb⟩) | (refine (polar_any a b c _ _ _ _ _ h2).mono ?_; rintro e w1 ⟨rfl, hb⟩; exact ⟨rfl, calm_call (by simp <;> omega) hw' hb⟩)); (intro K hK; go_simp; refine hK _ ?_; clear hK K)) | (apply wpCalm_skip; go_simp; (try (focus (simp [undef]; done))); (intro K hK; go_simp; refine hK _ ?_; clear hK K)))
  refine wpCalm_nil ?_
  intro w1 hw1
  have hcc := (calm_cells hw1).1
  have hff := (calm_cells hw1).2
  have hss := calm_size hw1
  have hsz := hw1.size
  (try simp at hsz)
  go_wp2
  exact bodyPost_ret (v := .agg #[.int .i64 (atF a b c p r), .int .i64 (polF a b c p r q s), .int .i64 (atF a b c q s)]) (by simp [results, Tryz.results36, go_sem, *]) rfl ⟨rfl, (by repeat (first | with_reducible exact Below.refl _ _ | with_reducible assumption | with_reducible apply Below.drew | with_reducible apply below_drewN | (with_reducible apply below_setp; (first | omega | (simp <;> omega))) | (with_reducible apply below_allocp; (first | omega | (simp <;> omega))) | (with_reducible refine below_viap (by assumption) ?_ ?_; (first | omega | (simp <;> omega)))))⟩

set_option maxHeartbeats 800000 in
theorem foAct_any (a b c p q r s : Int) (w : World) (h1 : AtOK a b c p r) (h2 : PolOK a b c p r q s) (h3 : AtOK a b c q s) :
    Calls Tryz.prog 109 #[.agg #[.int .i64 a, .int .i64 b, .int .i64 c], .agg #[.int .i64 p, .int .i64 q, .int .i64 r, .int .i64 s]] w fun e w' =>
      e = .returned (.agg #[.int .i64 (atF a b c p r), .int .i64 (polF a b c p r q s), .int .i64 (atF a b c q s)]) ∧ Below w.heap.size w w' := by
  go_enter Tryz.func109, Tryz.ntmps109
  go_wp2
  refine wp_region_calm 23 (Below (w.heap.size + 3) _) (by kernel_rfl) (by kernel_rfl) ((Below.refl _ _).drew) ?_
  simp only [List.take_succ_cons, List.take_zero, List.drop_succ_cons, List.drop_zero]
  repeat (first | (apply wpCalm_go; go_simp; (intro w' hw' hcc hff; go_simp; first | exact rfl | (refine (foValue_any a b c _ _ _ ?_).mono ?_; (first | exact h1 | exact h3); rintro e w1 ⟨rfl, hb⟩; exact ⟨rfl, calm_call (by simp <;> omega) hw' hb⟩) | (refine (foPolar_any a b c _ _ _ _ _ h2).mono ?_; rintro e w1 ⟨rfl, hb⟩; exact ⟨rfl, calm_call (by simp <;> omega) hw' hb⟩)); (intro K hK; go_simp; refine hK _ ?_; clear hK K)) | (apply wpCalm_skip; go_simp; (try (focus (simp [undef]; done))); (intro K hK; go_simp; refine hK _ ?_; clear hK K)))
  refine wpCalm_nil ?_
  intro w1 hw1
  have hcc := (calm_cells hw1).1
  have hff := (calm_cells hw1).2
  have hss := calm_size hw1
  have hsz := hw1.size
  (try simp at hsz)
  go_wp2
  exact bodyPost_ret (v := .agg #[.int .i64 (atF a b c p r), .int .i64 (polF a b c p r q s), .int .i64 (atF a b c q s)]) (by simp [results, Tryz.results109, go_sem, *]) rfl ⟨rfl, (by repeat (first | with_reducible exact Below.refl _ _ | with_reducible assumption | with_reducible apply Below.drew | with_reducible apply below_drewN | (with_reducible apply below_setp; (first | omega | (simp <;> omega))) | (with_reducible apply below_allocp; (first | omega | (simp <;> omega))) | (with_reducible refine below_viap (by assumption) ?_ ?_; (first | omega | (simp <;> omega)))))⟩

/-- An entry of a product of matrices, as Go reckons it. -/
def mm (a b c d : Int) : Int := wrap64 (wrap64 (a * b) + wrap64 (c * d))

set_option maxHeartbeats 800000 in
theorem times_any (p q r s p' q' r' s' : Int) (w : World) :
    Calls Tryz.prog 47 #[.agg #[.int .i64 p, .int .i64 q, .int .i64 r, .int .i64 s], .agg #[.int .i64 p', .int .i64 q', .int .i64 r', .int .i64 s']] w fun e w' =>
      e = .returned (.agg #[.int .i64 (mm p p' q r'), .int .i64 (mm p q' q s'), .int .i64 (mm r p' s r'), .int .i64 (mm r q' s s')]) ∧ Below w.heap.size w w' := by
  go_enter Tryz.func47, Tryz.ntmps47
  go_wp2
  exact bodyPost_ret (v := .agg #[.int .i64 (mm p p' q r'), .int .i64 (mm p q' q s'), .int .i64 (mm r p' s r'), .int .i64 (mm r q' s s')]) (by simp [results, Tryz.results47, go_sem, mm, *]) rfl ⟨rfl, (by repeat (first | with_reducible exact Below.refl _ _ | with_reducible assumption | with_reducible apply Below.drew | with_reducible apply below_drewN | (with_reducible apply below_setp; (first | omega | (simp <;> omega))) | (with_reducible apply below_allocp; (first | omega | (simp <;> omega))) | (with_reducible refine below_viap (by assumption) ?_ ?_; (first | omega | (simp <;> omega)))))⟩

set_option maxHeartbeats 800000 in
theorem foMul_any (p q r s p' q' r' s' : Int) (w : World) :
    Calls Tryz.prog 59 #[.agg #[.int .i64 p, .int .i64 q, .int .i64 r, .int .i64 s], .agg #[.int .i64 p', .int .i64 q', .int .i64 r', .int .i64 s']] w fun e w' =>
      e = .returned (.agg #[.int .i64 (mm p p' q r'), .int .i64 (mm p q' q s'), .int .i64 (mm r p' s r'), .int .i64 (mm r q' s s')]) ∧ Below w.heap.size w w' := by
  go_enter Tryz.func59, Tryz.ntmps59
  go_wp2
  exact bodyPost_ret (v := .agg #[.int .i64 (mm p p' q r'), .int .i64 (mm p q' q s'), .int .i64 (mm r p' s r'), .int .i64 (mm r q' s s')]) (by simp [results, Tryz.results59, go_sem, mm, *]) rfl ⟨rfl, (by repeat (first | with_reducible exact Below.refl _ _ | with_reducible assumption | with_reducible apply Below.drew | with_reducible apply below_drewN | (with_reducible apply below_setp; (first | omega | (simp <;> omega))) | (with_reducible apply below_allocp; (first | omega | (simp <;> omega))) | (with_reducible refine below_viap (by assumption) ?_ ?_; (first | omega | (simp <;> omega)))))⟩

set_option maxHeartbeats 400000 in
theorem one_any (w : World) : Calls Tryz.prog 82 #[] w fun e w' => e = .returned (.agg #[.int .i64 1, .int .i64 0, .int .i64 0, .int .i64 1]) ∧ Below w.heap.size w w' := by
  go_enter Tryz.func82, Tryz.ntmps82
  go_wp2
  exact bodyPost_ret (v := .agg #[.int .i64 1, .int .i64 0, .int .i64 0, .int .i64 1]) (by simp [results, Tryz.results82, go_sem, *]) rfl ⟨rfl, (by repeat (first | with_reducible exact Below.refl _ _ | with_reducible assumption | with_reducible apply Below.drew | with_reducible apply below_drewN | (with_reducible apply below_setp; (first | omega | (simp <;> omega))) | (with_reducible apply below_allocp; (first | omega | (simp <;> omega))) | (with_reducible refine below_viap (by assumption) ?_ ?_; (first | omega | (simp <;> omega)))))⟩

set_option maxHeartbeats 400000 in
theorem isNormal_any (a b c : Int) (w : World) (ha : 0 < a) (ha2 : a ≤ 2000000000000000000) :
    Calls Tryz.prog 113 #[.agg #[.int .i64 a, .int .i64 b, .int .i64 c]] w fun e w' => e = .returned (.bool (isNorm a b)) ∧ Below w.heap.size w w' := by
  have hn := isNorm_iff a b
  by_cases h1 : -a < b
  · by_cases h2 : b ≤ a
    · rw [hn.2 ⟨h1, h2⟩]; clear hn
      go_enter Tryz.func113, Tryz.ntmps113
      go_wp2
      go_ret
      exact ⟨rfl, (by repeat (first | with_reducible exact Below.refl _ _ | with_reducible assumption | with_reducible apply Below.drew | with_reducible apply below_drewN | (with_reducible apply below_setp; (first | omega | (simp <;> omega))) | (with_reducible apply below_allocp; (first | omega | (simp <;> omega))) | (with_reducible refine below_viap (by assumption) ?_ ?_; (first | omega | (simp <;> omega)))))⟩
    · rw [(isNorm_false a b).2 (fun h => h2 h.2)]; clear hn
      go_enter Tryz.func113, Tryz.ntmps113
      go_wp2
      go_ret
      exact ⟨rfl, (by repeat (first | with_reducible exact Below.refl _ _ | with_reducible assumption | with_reducible apply Below.drew | with_reducible apply below_drewN | (with_reducible apply below_setp; (first | omega | (simp <;> omega))) | (with_reducible apply below_allocp; (first | omega | (simp <;> omega))) | (with_reducible refine below_viap (by assumption) ?_ ?_; (first | omega | (simp <;> omega)))))⟩
  · rw [(isNorm_false a b).2 (fun h => h1 h.1)]; clear hn
    go_enter Tryz.func113, Tryz.ntmps113
    go_wp2
    go_ret
    exact ⟨rfl, (by repeat (first | with_reducible exact Below.refl _ _ | with_reducible assumption | with_reducible apply Below.drew | with_reducible apply below_drewN | (with_reducible apply below_setp; (first | omega | (simp <;> omega))) | (with_reducible apply below_allocp; (first | omega | (simp <;> omega))) | (with_reducible refine below_viap (by assumption) ?_ ?_; (first | omega | (simp <;> omega)))))⟩
end

section
open Go.RowKit

theorem isRed_norm {a b c : Int} (h : isNorm a b = false) : isRed a b c = false := by simp [isRed, h]

set_option maxHeartbeats 800000 in
theorem isReduced_any (a b c : Int) (w : World) (ha : 0 < a) (ha2 : a ≤ 2000000000000000000) :
    Calls Tryz.prog 83 #[.agg #[.int .i64 a, .int .i64 b, .int .i64 c]] w fun e w' => e = .returned (.bool (isRed a b c)) ∧ Below w.heap.size w w' := by
  cases hn : isNorm a b with
  | false =>
    rw [isRed_norm hn]
    go_enter Tryz.func83, Tryz.ntmps83
    go_wp2_with (go_at_call 113; refine (isNormal_any a b c _ ha ha2).mono ?_; rw [hn]; rintro e w1 ⟨rfl, hb⟩; have hcc := (calm_cells hb).1)
    go_ret
    exact ⟨ret_bool (by first | (simp; done) | (simp; omega) | (rw [Bool.eq_iff_iff]; simp; omega) | (simp_all; done) | (simp_all; omega)), (by repeat (first | with_reducible exact Below.refl _ _ | with_reducible assumption | with_reducible apply Below.drew | with_reducible apply below_drewN | (with_reducible apply below_setp; (first | omega | (simp <;> omega))) | (with_reducible apply below_allocp; (first | omega | (simp <;> omega))) | (with_reducible refine below_viap (by assumption) ?_ ?_; (first | omega | (simp <;> omega)))))⟩
  | true =>
    by_cases h1 : a < c
    · have e : isRed a b c = true := by simp [isRed, hn, h1]
      rw [e]; clear e
      go_enter Tryz.func83, Tryz.ntmps83
      go_wp2_with (go_at_call 113; refine (isNormal_any a b c _ ha ha2).mono ?_; rw [hn]; rintro e w1 ⟨rfl, hb⟩; have hcc := (calm_cells hb).1)
      go_ret
      exact ⟨ret_bool (by first | (simp; done) | (simp; omega) | (rw [Bool.eq_iff_iff]; simp; omega) | (simp_all; done) | (simp_all; omega)), (by repeat (first | with_reducible exact Below.refl _ _ | with_reducible assumption | with_reducible apply Below.drew | with_reducible apply below_drewN | (with_reducible apply below_setp; (first | omega | (simp <;> omega))) | (with_reducible apply below_allocp; (first | omega | (simp <;> omega))) | (with_reducible refine below_viap (by assumption) ?_ ?_; (first | omega | (simp <;> omega)))))⟩
    · by_cases h2 : a = c
      · have h2' : (a == c) = true := by simp [h2]
        by_cases h3 : 0 ≤ b
        · have e : isRed a b c = true := by simp only [isRed, hn]; simp; omega
          rw [e]; clear e h2
          go_enter Tryz.func83, Tryz.ntmps83
          go_wp2_with (go_at_call 113; refine (isNormal_any a b c _ ha ha2).mono ?_; rw [hn]; rintro e w1 ⟨rfl, hb⟩; have hcc := (calm_cells hb).1)
          go_ret
          exact ⟨ret_bool (by first | (simp; done) | (simp; omega) | (rw [Bool.eq_iff_iff]; simp; omega) | (simp_all; done) | (simp_all; omega)), (by repeat (first | with_reducible exact Below.refl _ _ | with_reducible assumption | with_reducible apply Below.drew | with_reducible apply below_drewN | (with_reducible apply below_setp; (first | omega | (simp <;> omega))) | (with_reducible apply below_allocp; (first | omega | (simp <;> omega))) | (with_reducible refine below_viap (by assumption) ?_ ?_; (first | omega | (simp <;> omega)))))⟩
        · have e : isRed a b c = false := by simp [isRed, hn, h1, h3]
          rw [e]; clear e h2
          go_enter Tryz.func83, Tryz.ntmps83
          go_wp2_with (go_at_call 113; refine (isNormal_any a b c _ ha ha2).mono ?_; rw [hn]; rintro e w1 ⟨rfl, hb⟩; have hcc := (calm_cells hb).1)
          go_ret
          exact ⟨ret_bool (by first | (simp; done) | (simp; omega) | (rw [Bool.eq_iff_iff]; simp; omega) | (simp_all; done) | (simp_all; omega)), (by repeat (first | with_reducible exact Below.refl _ _ | with_reducible assumption | with_reducible apply Below.drew | with_reducible apply below_drewN | (with_reducible apply below_setp; (first | omega | (simp <;> omega))) | (with_reducible apply below_allocp; (first | omega | (simp <;> omega))) | (with_reducible refine below_viap (by assumption) ?_ ?_; (first | omega | (simp <;> omega)))))⟩
      · have h2' : (a == c) = false := by simp [h2]
        have e : isRed a b c = false := by simp [isRed, hn, h1, h2]
        rw [e]; clear e h2
        go_enter Tryz.func83, Tryz.ntmps83
        go_wp2_with (go_at_call 113; refine (isNormal_any a b c _ ha ha2).mono ?_; rw [hn]; rintro e w1 ⟨rfl, hb⟩; have hcc := (calm_cells hb).1)
        go_ret
        exact ⟨ret_bool (by first | (simp; done) | (simp; omega) | (rw [Bool.eq_iff_iff]; simp; omega) | (simp_all; done) | (simp_all; omega)), (by repeat (first | with_reducible exact Below.refl _ _ | with_reducible assumption | with_reducible apply Below.drew | with_reducible apply below_drewN | (with_reducible apply below_setp; (first | omega | (simp <;> omega))) | (with_reducible apply below_allocp; (first | omega | (simp <;> omega))) | (with_reducible refine below_viap (by assumption) ?_ ?_; (first | omega | (simp <;> omega)))))⟩

set_option maxHeartbeats 800000 in
theorem reIs_any (a b c : Int) (w : World) (ha : 0 < a) (ha2 : a ≤ 2000000000000000000) :
    Calls Tryz.prog 111 #[.agg #[.int .i64 a, .int .i64 b, .int .i64 c]] w fun e w' => e = .returned (.bool (isRed a b c)) ∧ Below w.heap.size w w' := by
  by_cases k1 : -a < b
  · by_cases k2 : b ≤ a
    · by_cases h1 : a < c
      · have e : isRed a b c = true := by rw [isRed_iff]; omega
        rw [e]; clear e
        go_enter Tryz.func111, Tryz.ntmps111
        go_wp2
        go_ret
        exact ⟨ret_bool (by first | (simp; done) | (simp; omega) | (rw [Bool.eq_iff_iff]; simp; omega) | (simp_all; done) | (simp_all; omega)), (by repeat (first | with_reducible exact Below.refl _ _ | with_reducible assumption | with_reducible apply Below.drew | with_reducible apply below_drewN | (with_reducible apply below_setp; (first | omega | (simp <;> omega))) | (with_reducible apply below_allocp; (first | omega | (simp <;> omega))) | (with_reducible refine below_viap (by assumption) ?_ ?_; (first | omega | (simp <;> omega)))))⟩
      · by_cases h2 : a = c
        · have h2' : (a == c) = true := by simp [h2]
          by_cases h3 : 0 ≤ b
          · have e : isRed a b c = true := by rw [isRed_iff]; omega
            rw [e]; clear e h2
            go_enter Tryz.func111, Tryz.ntmps111
            go_wp2
            go_ret
            exact ⟨ret_bool (by first | (simp; done) | (simp; omega) | (rw [Bool.eq_iff_iff]; simp; omega) | (simp_all; done) | (simp_all; omega)), (by repeat (first | with_reducible exact Below.refl _ _ | with_reducible assumption | with_reducible apply Below.drew | with_reducible apply below_drewN | (with_reducible apply below_setp; (first | omega | (simp <;> omega))) | (with_reducible apply below_allocp; (first | omega | (simp <;> omega))) | (with_reducible refine below_viap (by assumption) ?_ ?_; (first | omega | (simp <;> omega)))))⟩
          · have e : isRed a b c = false := by rw [← Bool.not_eq_true, isRed_iff]; omega
            rw [e]; clear e h2
            go_enter Tryz.func111, Tryz.ntmps111
            go_wp2
            go_ret
            exact ⟨ret_bool (by first | (simp; done) | (simp; omega) | (rw [Bool.eq_iff_iff]; simp; omega) | (simp_all; done) | (simp_all; omega)), (by repeat (first | with_reducible exact Below.refl _ _ | with_reducible assumption | with_reducible apply Below.drew | with_reducible apply below_drewN | (with_reducible apply below_setp; (first | omega | (simp <;> omega))) | (with_reducible apply below_allocp; (first | omega | (simp <;> omega))) | (with_reducible refine below_viap (by assumption) ?_ ?_; (first | omega | (simp <;> omega)))))⟩
        · have h2' : (a == c) = false := by simp [h2]
          have e : isRed a b c = false := by rw [← Bool.not_eq_true, isRed_iff]; omega
          rw [e]; clear e h2
          go_enter Tryz.func111, Tryz.ntmps111
          go_wp2
          go_ret
          exact ⟨ret_bool (by first | (simp; done) | (simp; omega) | (rw [Bool.eq_iff_iff]; simp; omega) | (simp_all; done) | (simp_all; omega)), (by repeat (first | with_reducible exact Below.refl _ _ | with_reducible assumption | with_reducible apply Below.drew | with_reducible apply below_drewN | (with_reducible apply below_setp; (first | omega | (simp <;> omega))) | (with_reducible apply below_allocp; (first | omega | (simp <;> omega))) | (with_reducible refine below_viap (by assumption) ?_ ?_; (first | omega | (simp <;> omega)))))⟩
    · have e : isRed a b c = false := by rw [← Bool.not_eq_true, isRed_iff]; omega
      rw [e]; clear e
      go_enter Tryz.func111, Tryz.ntmps111
      go_wp2
      go_ret
      exact ⟨ret_bool (by first | (simp; done) | (simp; omega) | (rw [Bool.eq_iff_iff]; simp; omega) | (simp_all; done) | (simp_all; omega)), (by repeat (first | with_reducible exact Below.refl _ _ | with_reducible assumption | with_reducible apply Below.drew | with_reducible apply below_drewN | (with_reducible apply below_setp; (first | omega | (simp <;> omega))) | (with_reducible apply below_allocp; (first | omega | (simp <;> omega))) | (with_reducible refine below_viap (by assumption) ?_ ?_; (first | omega | (simp <;> omega)))))⟩
  · have e : isRed a b c = false := by rw [← Bool.not_eq_true, isRed_iff]; omega
    rw [e]; clear e
    go_enter Tryz.func111, Tryz.ntmps111
    go_wp2
    go_ret
    exact ⟨ret_bool (by first | (simp; done) | (simp; omega) | (rw [Bool.eq_iff_iff]; simp; omega) | (simp_all; done) | (simp_all; omega)), (by repeat (first | with_reducible exact Below.refl _ _ | with_reducible assumption | with_reducible apply Below.drew | with_reducible apply below_drewN | (with_reducible apply below_setp; (first | omega | (simp <;> omega))) | (with_reducible apply below_allocp; (first | omega | (simp <;> omega))) | (with_reducible refine below_viap (by assumption) ?_ ?_; (first | omega | (simp <;> omega)))))⟩

set_option maxHeartbeats 800000 in
theorem reNormal_any (a b c : Int) (w : World) (ha : 0 < a) (ha2 : a ≤ 1000000000000000000) (hb1 : -1000000000000000000 ≤ b) (hb2 : b ≤ 1000000000000000000) :
    Calls Tryz.prog 138 #[.agg #[.int .i64 a, .int .i64 b, .int .i64 c]] w fun e w' => e = .returned (.int .i64 (tr a b)) ∧ Below w.heap.size w w' := by
  have h1 := Int.emod_nonneg (a - b) (show 2 * a ≠ 0 by omega)
  have h2 := Int.emod_lt_of_pos (a - b) (show 0 < 2 * a by omega)
  have h3 := Lib.hid (floor_tdiv (a := a - b) (show 0 < 2 * a by omega))
  have h4 : (2 * a == 0) = false := by rw [beq_eq_false_iff_ne]; omega
  have h5 : ¬ 2 * a = 0 := by omega
  have w1 : IntKind.i64.wrap (a - b) = a - b := IntWalk.i64_in _ (by omega)
  have w2 : IntKind.i64.wrap (2 * a) = 2 * a := IntWalk.i64_in _ (by omega)
  have w3 : IntKind.i64.wrap (a - b - (a - b) % (2 * a)) = a - b - (a - b) % (2 * a) := IntWalk.i64_in _ (by omega)
  have w4 : IntKind.i64.wrap ((a - b - (a - b) % (2 * a)).tdiv (2 * a)) = (a - b - (a - b) % (2 * a)).tdiv (2 * a) := IntWalk.i64_in _ (by
    have := tdiv_bd (a := a - b - (a - b) % (2 * a)) (m := 2 * a) (K := 8000000000000000000) (by omega) (by omega)
    omega)
  go_enter Tryz.func138, Tryz.ntmps138
  go_wp2
  refine wp_region_calm 20 (Below (w.heap.size + 1) _) (by kernel_rfl) (by kernel_rfl) ((Below.refl _ _).drew) ?_
  simp only [List.take_succ_cons, List.take_zero, List.drop_succ_cons, List.drop_zero]
  repeat (first | (apply wpCalm_go; go_simp; (intro w' hw' hcc hff; go_simp; first | exact rfl | (refine (nuMod_any _ _ _ (by omega) (by omega)).mono ?_; rintro e w1 ⟨rfl, hb⟩; exact ⟨rfl, calm_call_same hw' hb⟩)); (intro K hK; go_simp; refine hK _ ?_; clear hK K)) | (apply wpCalm_skip; go_simp; (try (focus (simp [undef]; done))); (intro K hK; go_simp; refine hK _ ?_; clear hK K)))
  refine wpCalm_nil ?_
  intro w1 hw1
  have hcc := (calm_cells hw1).1
  have hff := (calm_cells hw1).2
  have hss := calm_size hw1
  have hsz := hw1.size
  (try simp at hsz)
  go_wp2
  go_ret
  exact ⟨ret_int h3.out, (by repeat (first | with_reducible exact Below.refl _ _ | with_reducible assumption | with_reducible apply Below.drew | with_reducible apply below_drewN | (with_reducible apply below_setp; (first | omega | (simp <;> omega))) | (with_reducible apply below_allocp; (first | omega | (simp <;> omega))) | (with_reducible refine below_viap (by assumption) ?_ ?_; (first | omega | (simp <;> omega)))))⟩

set_option maxHeartbeats 800000 in
/-- The step of a form that is not reduced. -/
theorem step_any (a b c : Int) (w : World) (ha : 0 < a) (ha2 : a ≤ 1000000000000000000) (hb1 : -1000000000000000000 ≤ b) (hb2 : b ≤ 1000000000000000000) (hr : isRed a b c = false) :
    Calls Tryz.prog 84 #[.agg #[.int .i64 a, .int .i64 b, .int .i64 c]] w fun e w' =>
      e = .returned (.agg #[.int .i64 (if isNorm a b then 0 else 1), .int .i64 (if isNorm a b then -1 else tr a b), .int .i64 (if isNorm a b then 1 else 0), .int .i64 (if isNorm a b then 0 else 1)]) ∧ Below w.heap.size w w' := by
  cases hn : isNorm a b with
  | true =>
    simp only [if_true]
    go_enter Tryz.func84, Tryz.ntmps84
    go_wp2_with (first | (go_at_call 113; (with_reducible refine (isNormal_any a b c _ ha (by omega)).mono ?_); rw [hn]; rintro e v2 ⟨rfl, hB2⟩; have hZ2 := hB2.size; (try simp at hZ2); (try have zl2 : w.heap.size < v2.heap.size := by omega); (try have ze2 : w.heap.size ≤ v2.heap.size := by omega); (try have zn2 : ¬ w.heap.size = v2.heap.size := by omega); (try have zm2 : ¬ v2.heap.size = w.heap.size := by omega); have hC2_0 := fun o => (calm_cells hB2).1 (w.heap.size) o (by first | omega | (simp <;> omega)); have hF2_0 := fun o => (calm_cells hB2).2 (w.heap.size) o (by first | omega | (simp <;> omega)); (try have hl2_0 : w.heap.size < v2.heap.size := by omega); (try have hm2_0 : ¬ w.heap.size = v2.heap.size := by omega); (try have hn2_0 : ¬ v2.heap.size = w.heap.size := by omega); have hC2_1 := fun o => (calm_cells hB2).1 (w.heap.size + 1) o (by first | omega | (simp <;> omega)); have hF2_1 := fun o => (calm_cells hB2).2 (w.heap.size + 1) o (by first | omega | (simp <;> omega)); (try have hl2_1 : w.heap.size + 1 < v2.heap.size := by omega); (try have hm2_1 : ¬ w.heap.size + 1 = v2.heap.size := by omega); (try have hn2_1 : ¬ v2.heap.size = w.heap.size + 1 := by omega)) | (go_at_call 83; (with_reducible refine (isReduced_any a b c _ ha (by omega)).mono ?_); rw [hr]; rintro e v1 ⟨rfl, hB1⟩; have hZ1 := hB1.size; (try simp at hZ1); (try have zl1 : w.heap.size < v1.heap.size := by omega); (try have ze1 : w.heap.size ≤ v1.heap.size := by omega); (try have zn1 : ¬ w.heap.size = v1.heap.size := by omega); (try have zm1 : ¬ v1.heap.size = w.heap.size := by omega); have hC1_0 := fun o => (calm_cells hB1).1 (w.heap.size) o (by first | omega | (simp <;> omega)); have hF1_0 := fun o => (calm_cells hB1).2 (w.heap.size) o (by first | omega | (simp <;> omega)); (try have hl1_0 : w.heap.size < v1.heap.size := by omega); (try have hm1_0 : ¬ w.heap.size = v1.heap.size := by omega); (try have hn1_0 : ¬ v1.heap.size = w.heap.size := by omega); have hC1_1 := fun o => (calm_cells hB1).1 (w.heap.size + 1) o (by first | omega | (simp <;> omega)); have hF1_1 := fun o => (calm_cells hB1).2 (w.heap.size + 1) o (by first | omega | (simp <;> omega)); (try have hl1_1 : w.heap.size + 1 < v1.heap.size := by omega); (try have hm1_1 : ¬ w.heap.size + 1 = v1.heap.size := by omega); (try have hn1_1 : ¬ v1.heap.size = w.heap.size + 1 := by omega)))
    exact bodyPost_ret (v := .agg #[.int .i64 0, .int .i64 (-1), .int .i64 1, .int .i64 0]) (by simp [results, Tryz.results84, go_sem, *]) rfl ⟨rfl, (by repeat (first | with_reducible exact Below.refl _ _ | with_reducible assumption | with_reducible apply Below.drew | with_reducible apply below_drewN | (with_reducible apply below_setp; (first | omega | (simp <;> omega))) | (with_reducible apply below_allocp; (first | omega | (simp <;> omega))) | (with_reducible refine below_viap (by assumption) ?_ ?_; (first | omega | (simp <;> omega)))))⟩
  | false =>
    simp only [Bool.false_eq_true, if_false]
    go_enter Tryz.func84, Tryz.ntmps84
    go_wp2_with (first | (go_at_call 113; (with_reducible refine (isNormal_any a b c _ ha (by omega)).mono ?_); rw [hn]; rintro e v2 ⟨rfl, hB2⟩; have hZ2 := hB2.size; (try simp at hZ2); (try have zl2 : w.heap.size < v2.heap.size := by omega); (try have ze2 : w.heap.size ≤ v2.heap.size := by omega); (try have zn2 : ¬ w.heap.size = v2.heap.size := by omega); (try have zm2 : ¬ v2.heap.size = w.heap.size := by omega); have hC2_0 := fun o => (calm_cells hB2).1 (w.heap.size) o (by first | omega | (simp <;> omega)); have hF2_0 := fun o => (calm_cells hB2).2 (w.heap.size) o (by first | omega | (simp <;> omega)); (try have hl2_0 : w.heap.size < v2.heap.size := by omega); (try have hm2_0 : ¬ w.heap.size = v2.heap.size := by omega); (try have hn2_0 : ¬ v2.heap.size = w.heap.size := by omega); have hC2_1 := fun o => (calm_cells hB2).1 (w.heap.size + 1) o (by first | omega | (simp <;> omega)); have hF2_1 := fun o => (calm_cells hB2).2 (w.heap.size + 1) o (by first | omega | (simp <;> omega)); (try have hl2_1 : w.heap.size + 1 < v2.heap.size := by omega); (try have hm2_1 : ¬ w.heap.size + 1 = v2.heap.size := by omega); (try have hn2_1 : ¬ v2.heap.size = w.heap.size + 1 := by omega)) | (go_at_call 83; (with_reducible refine (isReduced_any a b c _ ha (by omega)).mono ?_); rw [hr]; rintro e v1 ⟨rfl, hB1⟩; have hZ1 := hB1.size; (try simp at hZ1); (try have zl1 : w.heap.size < v1.heap.size := by omega); (try have ze1 : w.heap.size ≤ v1.heap.size := by omega); (try have zn1 : ¬ w.heap.size = v1.heap.size := by omega); (try have zm1 : ¬ v1.heap.size = w.heap.size := by omega); have hC1_0 := fun o => (calm_cells hB1).1 (w.heap.size) o (by first | omega | (simp <;> omega)); have hF1_0 := fun o => (calm_cells hB1).2 (w.heap.size) o (by first | omega | (simp <;> omega)); (try have hl1_0 : w.heap.size < v1.heap.size := by omega); (try have hm1_0 : ¬ w.heap.size = v1.heap.size := by omega); (try have hn1_0 : ¬ v1.heap.size = w.heap.size := by omega); have hC1_1 := fun o => (calm_cells hB1).1 (w.heap.size + 1) o (by first | omega | (simp <;> omega)); have hF1_1 := fun o => (calm_cells hB1).2 (w.heap.size + 1) o (by first | omega | (simp <;> omega)); (try have hl1_1 : w.heap.size + 1 < v1.heap.size := by omega); (try have hm1_1 : ¬ w.heap.size + 1 = v1.heap.size := by omega); (try have hn1_1 : ¬ v1.heap.size = w.heap.size + 1 := by omega)) | (go_at_call 114; (with_reducible refine (floorDiv_any (a - b) (2 * a) _ (by omega) (by omega) (by omega) (by omega)).mono ?_); rintro e v ⟨rfl, rfl⟩))
    exact bodyPost_ret (v := .agg #[.int .i64 1, .int .i64 (tr a b), .int .i64 0, .int .i64 1]) (by simp [results, Tryz.results84, go_sem, tr, *]) rfl ⟨rfl, (by repeat (first | with_reducible exact Below.refl _ _ | with_reducible assumption | with_reducible apply Below.drew | with_reducible apply below_drewN | (with_reducible apply below_setp; (first | omega | (simp <;> omega))) | (with_reducible apply below_allocp; (first | omega | (simp <;> omega))) | (with_reducible refine below_viap (by assumption) ?_ ?_; (first | omega | (simp <;> omega)))))⟩
end

section
open Go Go.RowKit

/-- Block g is just the cells cs of element type t, none frozen. -/
def Blk (w : World) (g : Nat) (t : TypeId) (cs : Array Value) : Prop := w.heap[g]? = some (.cells cs t (0, 0))

section
variable {w w' : World} {g : Nat} {t : TypeId} {cs : Array Value}
theorem Blk.lt (h : Blk w g t cs) : g < w.heap.size := by
  rcases Nat.lt_or_ge g w.heap.size with hlt | hge
  · exact hlt
  · unfold Blk at h; rw [Array.getElem?_eq_none hge] at h; cases h
theorem Blk.cell (h : Blk w g t cs) (i : Nat) : w.cell? ⟨g, i, none⟩ = cs[i]? := cell_of_row w g i cs t (0, 0) h
theorem Blk.frozen (h : Blk w g t cs) (i : Nat) : w.frozen? ⟨g, i, none⟩ = false := by
  unfold Blk at h
  simp [World.frozen?, h]
theorem Blk.all5 (h : Blk w g t cs) : (∀ i, w.cell? ⟨g, i, none⟩ = cs[i]?) ∧ (∀ i, w.frozen? ⟨g, i, none⟩ = false) ∧ g < w.heap.size ∧ w.heap.size ≠ g ∧ g ≠ w.heap.size := ⟨h.cell, h.frozen, h.lt, Nat.ne_of_gt h.lt, Nat.ne_of_lt h.lt⟩
theorem Blk.new (w : World) (t : TypeId) (cs : Array Value) : Blk (w.alloc (.cells cs t)) w.heap.size t cs := heap_alloc_new w _
theorem Blk.new_at (hg : g = w.heap.size) : Blk (w.alloc (.cells cs t)) g t cs := by subst hg; exact Blk.new w t cs
theorem Blk.drew (h : Blk w g t cs) : Blk w.drew g t cs := h
theorem Blk.drewN (h : Blk w g t cs) (n : Nat) : Blk (w.drewN n) g t cs := h
theorem Blk.alloc (h : Blk w g t cs) (o : Obj) : Blk (w.alloc o) g t cs := (Below.heap_alloc w o g h.lt).trans h
theorem Blk.set_ (h : Blk w g t cs) (i : Nat) (u : Value) : Blk (w.setCell ⟨g, i, none⟩ u) g t (cs.setIfInBounds i u) := by
  unfold Blk at h ⊢
  simp [World.setCell, Array.getElem?_modify, h]
theorem Blk.far (h : Blk w g t cs) {p : Addr} (hp : g ≠ p.block) (u : Value) : Blk (w.setCell p u) g t cs := (Below.heap_setCell w p u g hp).trans h
theorem Blk.farp {p : Addr} {u : Value} (hp : g ≠ p.block) (h : Blk w g t cs) : Blk (w.setCell p u) g t cs := h.far hp u
theorem Blk.allocp {o : Obj} (h : Blk w g t cs) : Blk (w.alloc o) g t cs := h.alloc o
theorem Blk.below {B : Nat} (h : Blk w g t cs) (hb : Below B w w') (hg : g < B) : Blk w' g t cs := (hb.block g hg).trans h
theorem Blk.call (h : Blk w g t cs) (hb : Below w.heap.size w w') : Blk w' g t cs := h.below hb h.lt
theorem Blk.grown {row : Option Nat} (h : Blk w g t cs) (hb : w.grownBy w' row) (hg : some g ≠ row) : Blk w' g t cs := (hb.block g h.lt hg).trans h
theorem Blk.store3 {x y z a b c : Value} (h : Blk w g t #[x, y, z]) : Blk (((w.setCell ⟨g, 0, none⟩ a).setCell ⟨g, 1, none⟩ b).setCell ⟨g, 2, none⟩ c) g t #[a, b, c] := ((h.set_ 0 a).set_ 1 b).set_ 2 c
theorem Blk.store4 {x y z u a b c d : Value} (h : Blk w g t #[x, y, z, u]) : Blk ((((w.setCell ⟨g, 0, none⟩ a).setCell ⟨g, 1, none⟩ b).setCell ⟨g, 2, none⟩ c).setCell ⟨g, 3, none⟩ d) g t #[a, b, c, d] := (((h.set_ 0 a).set_ 1 b).set_ 2 c).set_ 3 d
end
end

section
open Go.RowKit

set_option maxHeartbeats 800000 in
/-- The step of a form that is not reduced. -/
theorem reMove_any (a b c : Int) (w : World) (ha : 0 < a) (ha2 : a ≤ 1000000000000000000) (hb1 : -1000000000000000000 ≤ b) (hb2 : b ≤ 1000000000000000000) (hr : isRed a b c = false) :
    Calls Tryz.prog 112 #[.agg #[.int .i64 a, .int .i64 b, .int .i64 c]] w fun e w' =>
      e = .returned (.agg #[.int .i64 (if isNorm a b then 0 else 1), .int .i64 (if isNorm a b then -1 else tr a b), .int .i64 (if isNorm a b then 1 else 0), .int .i64 (if isNorm a b then 0 else 1)]) ∧ Below w.heap.size w w' := by
  cases hn : isNorm a b with
  | true =>
    simp only [if_true]
    have h0 := (tr_zero ha).2 hn
    have k := reNormal_any a b c
    rw [h0] at k
    have K := Lib.hid k; clear k h0
    go_enter Tryz.func112, Tryz.ntmps112
    go_wp2_with (first | (go_at_call 138; (with_reducible refine (K.out _ ha (by omega) (by omega) (by omega)).mono ?_); rintro e v1 ⟨rfl, hB1⟩; have hZ1 := hB1.size; (try simp at hZ1); (try have zl1 : w.heap.size < v1.heap.size := by omega); (try have ze1 : w.heap.size ≤ v1.heap.size := by omega); (try have zn1 : ¬ w.heap.size = v1.heap.size := by omega); (try have zm1 : ¬ v1.heap.size = w.heap.size := by omega); have hC1_0 := fun o => (calm_cells hB1).1 (w.heap.size) o (by first | omega | (simp <;> omega)); have hF1_0 := fun o => (calm_cells hB1).2 (w.heap.size) o (by first | omega | (simp <;> omega)); (try have hl1_0 : w.heap.size < v1.heap.size := by omega); (try have hm1_0 : ¬ w.heap.size = v1.heap.size := by omega); (try have hn1_0 : ¬ v1.heap.size = w.heap.size := by omega); have hC1_1 := fun o => (calm_cells hB1).1 (w.heap.size + 1) o (by first | omega | (simp <;> omega)); have hF1_1 := fun o => (calm_cells hB1).2 (w.heap.size + 1) o (by first | omega | (simp <;> omega)); (try have hl1_1 : w.heap.size + 1 < v1.heap.size := by omega); (try have hm1_1 : ¬ w.heap.size + 1 = v1.heap.size := by omega); (try have hn1_1 : ¬ v1.heap.size = w.heap.size + 1 := by omega)) | (go_at_call 111; (with_reducible refine (reIs_any a b c _ ha (by omega)).mono ?_); rw [hr]; rintro e v2 ⟨rfl, hB2⟩; have hZ2 := hB2.size; (try simp at hZ2); (try have zl2 : w.heap.size < v2.heap.size := by omega); (try have ze2 : w.heap.size ≤ v2.heap.size := by omega); (try have zn2 : ¬ w.heap.size = v2.heap.size := by omega); (try have zm2 : ¬ v2.heap.size = w.heap.size := by omega); have hC2_0 := fun o => (calm_cells hB2).1 (w.heap.size) o (by first | omega | (simp <;> omega)); have hF2_0 := fun o => (calm_cells hB2).2 (w.heap.size) o (by first | omega | (simp <;> omega)); (try have hl2_0 : w.heap.size < v2.heap.size := by omega); (try have hm2_0 : ¬ w.heap.size = v2.heap.size := by omega); (try have hn2_0 : ¬ v2.heap.size = w.heap.size := by omega); have hC2_1 := fun o => (calm_cells hB2).1 (w.heap.size + 1) o (by first | omega | (simp <;> omega)); have hF2_1 := fun o => (calm_cells hB2).2 (w.heap.size + 1) o (by first | omega | (simp <;> omega)); (try have hl2_1 : w.heap.size + 1 < v2.heap.size := by omega); (try have hm2_1 : ¬ w.heap.size + 1 = v2.heap.size := by omega); (try have hn2_1 : ¬ v2.heap.size = w.heap.size + 1 := by omega)))
    exact bodyPost_ret (v := .agg #[.int .i64 0, .int .i64 (-1), .int .i64 1, .int .i64 0]) (by simp [results, Tryz.results112, go_sem, *]) rfl ⟨rfl, (by repeat (first | with_reducible exact Below.refl _ _ | with_reducible assumption | with_reducible apply Below.drew | with_reducible apply below_drewN | (with_reducible apply below_setp; (first | omega | (simp <;> omega))) | (with_reducible apply below_allocp; (first | omega | (simp <;> omega))) | (with_reducible refine below_viap (by assumption) ?_ ?_; (first | omega | (simp <;> omega)))))⟩
  | false =>
    simp only [Bool.false_eq_true, if_false]
    have h0 : (tr a b != 0) = true := by
      rw [bne_iff_ne]; intro h; rw [(tr_zero ha).1 h] at hn; cases hn
    go_enter Tryz.func112, Tryz.ntmps112
    go_wp2_with (first | (go_at_call 138; (with_reducible refine (reNormal_any a b c _ ha (by omega) (by omega) (by omega)).mono ?_); rintro e v1 ⟨rfl, hB1⟩; have hZ1 := hB1.size; (try simp at hZ1); (try have zl1 : w.heap.size < v1.heap.size := by omega); (try have ze1 : w.heap.size ≤ v1.heap.size := by omega); (try have zn1 : ¬ w.heap.size = v1.heap.size := by omega); (try have zm1 : ¬ v1.heap.size = w.heap.size := by omega); have hC1_0 := fun o => (calm_cells hB1).1 (w.heap.size) o (by first | omega | (simp <;> omega)); have hF1_0 := fun o => (calm_cells hB1).2 (w.heap.size) o (by first | omega | (simp <;> omega)); (try have hl1_0 : w.heap.size < v1.heap.size := by omega); (try have hm1_0 : ¬ w.heap.size = v1.heap.size := by omega); (try have hn1_0 : ¬ v1.heap.size = w.heap.size := by omega); have hC1_1 := fun o => (calm_cells hB1).1 (w.heap.size + 1) o (by first | omega | (simp <;> omega)); have hF1_1 := fun o => (calm_cells hB1).2 (w.heap.size + 1) o (by first | omega | (simp <;> omega)); (try have hl1_1 : w.heap.size + 1 < v1.heap.size := by omega); (try have hm1_1 : ¬ w.heap.size + 1 = v1.heap.size := by omega); (try have hn1_1 : ¬ v1.heap.size = w.heap.size + 1 := by omega)))
    exact bodyPost_ret (v := .agg #[.int .i64 1, .int .i64 (tr a b), .int .i64 0, .int .i64 1]) (by simp [results, Tryz.results112, go_sem, *]) rfl ⟨rfl, (by repeat (first | with_reducible exact Below.refl _ _ | with_reducible assumption | with_reducible apply Below.drew | with_reducible apply below_drewN | (with_reducible apply below_setp; (first | omega | (simp <;> omega))) | (with_reducible apply below_allocp; (first | omega | (simp <;> omega))) | (with_reducible refine below_viap (by assumption) ?_ ?_; (first | omega | (simp <;> omega)))))⟩

/-! ### The matrices of a step are harmless -/
theorem at_S1 {a b c : Int} (ha : Far a) (hb : Far b) (hc : Far c) : AtOK a b c 0 1 := by
  obtain ⟨_, _⟩ := ha; obtain ⟨_, _⟩ := hb; obtain ⟨_, _⟩ := hc
  constructor <;> constructor <;> first | omega | (simp; done) | (simp; omega)
theorem at_S2 {a b c : Int} (ha : Far a) (hb : Far b) (hc : Far c) : AtOK a b c (-1) 0 := by
  obtain ⟨_, _⟩ := ha; obtain ⟨_, _⟩ := hb; obtain ⟨_, _⟩ := hc
  constructor <;> constructor <;> first | omega | (simp; done) | (simp; omega)
theorem pol_S {a b c : Int} (ha : Far (2 * a)) (hb : Far b) (hc : Far (2 * c)) : PolOK a b c 0 1 (-1) 0 := by
  obtain ⟨_, _⟩ := ha; obtain ⟨_, _⟩ := hb; obtain ⟨_, _⟩ := hc
  constructor <;> constructor <;> first | omega | (simp; done) | (simp; omega)
theorem at_T1 {a b c : Int} (ha : Far a) (hb : Far b) : AtOK a b c 1 0 := by
  obtain ⟨_, _⟩ := ha; obtain ⟨_, _⟩ := hb
  constructor <;> constructor <;> first | omega | (simp; done) | (simp; omega)
theorem at_T2 {a b c t : Int} (h1 : Far (a * t)) (h2 : Far (a * t * t)) (h3 : Far (b * t)) (hc : Far c) : AtOK a b c t 1 := by
  obtain ⟨_, _⟩ := h1; obtain ⟨_, _⟩ := h2; obtain ⟨_, _⟩ := h3; obtain ⟨_, _⟩ := hc
  constructor <;> constructor <;> first | omega | (simp; done) | (simp; omega)
theorem pol_T {a b c t : Int} (h1 : Far (2 * a)) (h2 : Far (2 * a * t)) (hb : Far b) (hc : Far (2 * c)) : PolOK a b c 1 0 t 1 := by
  obtain ⟨_, _⟩ := h1; obtain ⟨_, _⟩ := h2; obtain ⟨_, _⟩ := hb; obtain ⟨_, _⟩ := hc
  constructor <;> constructor <;> first | omega | (simp; done) | (simp; omega)

/-- How large a form may be. -/
def M0 : Int := 500000000
theorem tr_prods {f : Fm} (h : Def M0 f) : Far (f.a * tr f.a f.b) ∧ Far (2 * f.a * tr f.a f.b) ∧ Far (f.a * tr f.a f.b * tr f.a f.b) ∧ Far (f.b * tr f.a f.b) := by
  have hB := h.bB
  have ha := h.a0
  have hM := h.aM
  have ht := tr_bd ha hM hB
  have hs := tr_spec (b := f.b) ha
  unfold M0 at hB hM ht
  have h1 : -1500000000 ≤ 2 * f.a * tr f.a f.b ∧ 2 * f.a * tr f.a f.b ≤ 1500000000 := by omega
  have e : 2 * f.a * tr f.a f.b = 2 * (f.a * tr f.a f.b) := Int.mul_assoc _ _ _
  have h2 : -750000000 ≤ f.a * tr f.a f.b ∧ f.a * tr f.a f.b ≤ 750000000 := by omega
  have h3 := mul_bd (A := 750000000) (X := 1000000000) (x := tr f.a f.b) h2.1 h2.2 (by omega) (by omega)
  have h4 := mul_bd (A := 1000000000) (X := 1000000000) (a := f.b) (x := tr f.a f.b) (by omega) (by omega) (by omega) (by omega)
  exact ⟨⟨by omega, by omega⟩, ⟨by omega, by omega⟩, ⟨by omega, by omega⟩, ⟨by omega, by omega⟩⟩

theorem isNorm_eq (f : Fm) (h : isNorm f.a f.b = true) : stepF f = ⟨atF f.a f.b f.c 0 1, polF f.a f.b f.c 0 1 (-1) 0, atF f.a f.b f.c (-1) 0⟩ := by
  simp [stepF, h, atF, polF]
theorem notNorm_eq (f : Fm) (h : isNorm f.a f.b = false) : stepF f = ⟨atF f.a f.b f.c 1 0, polF f.a f.b f.c 1 0 (tr f.a f.b) 1, atF f.a f.b f.c (tr f.a f.b) 1⟩ := by
  simp [stepF, h, atF, polF]
  omega

theorem def_far {f : Fm} (h : Def M0 f) : Far f.a ∧ Far f.b ∧ Far f.c ∧ Far (2 * f.a) ∧ Far (2 * f.c) := by
  have hB := h.bB
  have h1 := h.a0; have h2 := h.aM; have h3 := h.c0; have h4 := h.cM
  unfold M0 at hB h2 h4
  exact ⟨⟨by omega, by omega⟩, ⟨by omega, by omega⟩, ⟨by omega, by omega⟩, ⟨by omega, by omega⟩, ⟨by omega, by omega⟩⟩

/-- The round of a reduction: what the step's matrix makes of the form. -/
theorem step_sub {f : Fm} (h : Def M0 f) : AtOK f.a f.b f.c (if isNorm f.a f.b then 0 else 1) (if isNorm f.a f.b then 1 else 0) ∧
    PolOK f.a f.b f.c (if isNorm f.a f.b then 0 else 1) (if isNorm f.a f.b then 1 else 0) (if isNorm f.a f.b then -1 else tr f.a f.b) (if isNorm f.a f.b then 0 else 1) ∧
    AtOK f.a f.b f.c (if isNorm f.a f.b then -1 else tr f.a f.b) (if isNorm f.a f.b then 0 else 1) ∧
    stepF f = ⟨atF f.a f.b f.c (if isNorm f.a f.b then 0 else 1) (if isNorm f.a f.b then 1 else 0),
      polF f.a f.b f.c (if isNorm f.a f.b then 0 else 1) (if isNorm f.a f.b then 1 else 0) (if isNorm f.a f.b then -1 else tr f.a f.b) (if isNorm f.a f.b then 0 else 1),
      atF f.a f.b f.c (if isNorm f.a f.b then -1 else tr f.a f.b) (if isNorm f.a f.b then 0 else 1)⟩ := by
  obtain ⟨fa, fb, fc, fa2, fc2⟩ := def_far h
  obtain ⟨k1, k2, k3, k4⟩ := tr_prods h
  cases hn : isNorm f.a f.b with
  | true =>
    simp only [if_true]
    exact ⟨at_S1 fa fb fc, pol_S fa2 fb fc2, at_S2 fa fb fc, isNorm_eq f hn⟩
  | false =>
    simp only [Bool.false_eq_true, if_false]
    exact ⟨at_T1 fa fb, pol_T fa2 k2 fb fc2, at_T2 k1 k3 k4 fc, notNorm_eq f hn⟩
end

section
open Go.RowKit

def RetRed (g : Fm) (w : World) (e : Ending) (w' : World) : Prop :=
  ∃ p q r s : Int, e = .returned (.tuple #[.agg #[.int .i64 g.a, .int .i64 g.b, .int .i64 g.c], .agg #[.int .i64 p, .int .i64 q, .int .i64 r, .int .i64 s]]) ∧ Below w.heap.size w w'

theorem retRed_mk {f g : Fm} (h : f = g) {w w' : World} (p q r s : Int) (hb : Below w.heap.size w w') :
    RetRed g w (.returned (.tuple #[.agg #[.int .i64 f.a, .int .i64 f.b, .int .i64 f.c], .agg #[.int .i64 p, .int .i64 q, .int .i64 r, .int .i64 s]])) w' := by
  subst h; exact ⟨p, q, r, s, rfl, hb⟩

/-- What holds at the head of the loop: b4 is the block of the matrix. -/
def RedSt (f0 : Fm) (w : World) (b4 : Nat) (k : Nat) (wr : World) : Prop :=
  ∃ (f : Fm) (p q r s : Int), Def M0 f ∧ Hid (red f = red f0) ∧ mu f ≤ k ∧ Blk wr w.heap.size 33 #[.int .i64 f.a, .int .i64 f.b, .int .i64 f.c] ∧ Blk wr (w.heap.size + 1) 33 #[.int .i64 0, .int .i64 0, .int .i64 0] ∧
    Blk wr (w.heap.size + 1 + 1) 27 #[.int .i64 0, .int .i64 0, .int .i64 0, .int .i64 0] ∧ Blk wr b4 27 #[.int .i64 p, .int .i64 q, .int .i64 r, .int .i64 s] ∧ Below w.heap.size w wr

set_option maxHeartbeats 400000 in
theorem reduce_any (f0 : Fm) (w : World) (h0 : Def M0 f0) :
    Calls Tryz.prog 43 #[.agg #[.int .i64 f0.a, .int .i64 f0.b, .int .i64 f0.c]] w (RetRed (red f0) w) := by
  go_enter Tryz.func43, Tryz.ntmps43
  go_wp2_with (go_at_call 82; (with_reducible refine (one_any _).mono ?_); rintro e v1 ⟨rfl, hB1⟩; have hZ1 := hB1.size; (try simp at hZ1); (try have zl1 : w.heap.size < v1.heap.size := by omega); (try have ze1 : w.heap.size ≤ v1.heap.size := by omega); (try have zn1 : ¬ w.heap.size = v1.heap.size := by omega); (try have zm1 : ¬ v1.heap.size = w.heap.size := by omega); have hA1 : Blk v1 (w.heap.size) 33 #[.int .i64 f0.a, .int .i64 f0.b, .int .i64 f0.c] := Blk.call (by (repeat (first | with_reducible assumption | (with_reducible apply Blk.new_at; (first | rfl | (simp; done))) | with_reducible apply Blk.store3 | with_reducible apply Blk.store4 | (with_reducible apply Blk.farp; (first | omega | (simp <;> omega))) | with_reducible apply Blk.allocp | with_reducible apply Blk.drew | with_reducible apply Blk.drewN))) hB1; have cA1 := hA1.cell; have fA1 := hA1.frozen; have lA1 := hA1.lt; have mA1 := Nat.ne_of_gt lA1; have nA1 := Nat.ne_of_lt lA1; have hR1 : Blk v1 (w.heap.size + 1) 33 #[.int .i64 0, .int .i64 0, .int .i64 0] := Blk.call (by (repeat (first | with_reducible assumption | (with_reducible apply Blk.new_at; (first | rfl | (simp; done))) | with_reducible apply Blk.store3 | with_reducible apply Blk.store4 | (with_reducible apply Blk.farp; (first | omega | (simp <;> omega))) | with_reducible apply Blk.allocp | with_reducible apply Blk.drew | with_reducible apply Blk.drewN))) hB1; have cR1 := hR1.cell; have fR1 := hR1.frozen; have lR1 := hR1.lt; have mR1 := Nat.ne_of_gt lR1; have nR1 := Nat.ne_of_lt lR1; have hS1 : Blk v1 (w.heap.size + 1 + 1) 27 #[.int .i64 0, .int .i64 0, .int .i64 0, .int .i64 0] := Blk.call (by (repeat (first | with_reducible assumption | (with_reducible apply Blk.new_at; (first | rfl | (simp; done))) | with_reducible apply Blk.store3 | with_reducible apply Blk.store4 | (with_reducible apply Blk.farp; (first | omega | (simp <;> omega))) | with_reducible apply Blk.allocp | with_reducible apply Blk.drew | with_reducible apply Blk.drewN))) hB1; have cS1 := hS1.cell; have fS1 := hS1.frozen; have lS1 := hS1.lt; have mS1 := Nat.ne_of_gt lS1; have nS1 := Nat.ne_of_lt lS1)
  go_loopg [] (mu f0) (fun k wr => RedSt f0 w v1.heap.size k wr)
  case atStart =>
    refine ⟨f0, 1, 0, 0, 1, h0, Lib.hid rfl, Nat.le_refl _, ?_, ?_, ?_, ?_, (by repeat (first | with_reducible exact Below.refl _ _ | with_reducible assumption | with_reducible apply Below.drew | with_reducible apply below_drewN | (with_reducible apply below_setp; (first | omega | (simp <;> omega))) | (with_reducible apply below_allocp; (first | omega | (simp <;> omega))) | (with_reducible refine below_viap (by assumption) ?_ ?_; (first | omega | (simp <;> omega)))))⟩
    · (repeat (first | with_reducible assumption | (with_reducible apply Blk.new_at; (first | rfl | (simp; done))) | with_reducible apply Blk.store3 | with_reducible apply Blk.store4 | (with_reducible apply Blk.farp; (first | omega | (simp <;> omega))) | with_reducible apply Blk.allocp | with_reducible apply Blk.drew | with_reducible apply Blk.drewN))
    · (repeat (first | with_reducible assumption | (with_reducible apply Blk.new_at; (first | rfl | (simp; done))) | with_reducible apply Blk.store3 | with_reducible apply Blk.store4 | (with_reducible apply Blk.farp; (first | omega | (simp <;> omega))) | with_reducible apply Blk.allocp | with_reducible apply Blk.drew | with_reducible apply Blk.drewN))
    · (repeat (first | with_reducible assumption | (with_reducible apply Blk.new_at; (first | rfl | (simp; done))) | with_reducible apply Blk.store3 | with_reducible apply Blk.store4 | (with_reducible apply Blk.farp; (first | omega | (simp <;> omega))) | with_reducible apply Blk.allocp | with_reducible apply Blk.drew | with_reducible apply Blk.drewN))
    · (repeat (first | with_reducible assumption | (with_reducible apply Blk.new_at; (first | rfl | (simp; done))) | with_reducible apply Blk.store3 | with_reducible apply Blk.store4 | (with_reducible apply Blk.farp; (first | omega | (simp <;> omega))) | with_reducible apply Blk.allocp | with_reducible apply Blk.drew | with_reducible apply Blk.drewN))
  case round =>
    obtain ⟨f, p, q, r, s, hd, hr, hk, hA, hR, hS, hM, hbel⟩ := hrel
    have ha := hd.a0
    have hfar := hd.bB
    have ha2 := hd.aM
    unfold M0 at hfar ha2
    have hz := hbel.size
    have cA := hA.cell; have fA := hA.frozen
    have cR := hR.cell; have fR := hR.frozen
    have cS := hS.cell; have fS := hS.frozen
    have cM := hM.cell; have fM := hM.frozen
    cases hred : isRed f.a f.b f.c with
    | true =>
      have hx := Lib.hid ((red_of hred).symm.trans hr.out)
      go_wp2_with (first | (go_at_call 83; (with_reducible refine (isReduced_any f.a f.b f.c _ ha (by omega)).mono ?_); rw [hred]; rintro e v2 ⟨rfl, hB2⟩; have hZ2 := hB2.size; (try simp at hZ2); (try have zl2 : w.heap.size < v2.heap.size := by omega); (try have ze2 : w.heap.size ≤ v2.heap.size := by omega); (try have zn2 : ¬ w.heap.size = v2.heap.size := by omega); (try have zm2 : ¬ v2.heap.size = w.heap.size := by omega); have hA2 : Blk v2 (w.heap.size) 33 #[.int .i64 f.a, .int .i64 f.b, .int .i64 f.c] := Blk.call (by (repeat (first | with_reducible assumption | (with_reducible apply Blk.new_at; (first | rfl | (simp; done))) | with_reducible apply Blk.store3 | with_reducible apply Blk.store4 | (with_reducible apply Blk.farp; (first | omega | (simp <;> omega))) | with_reducible apply Blk.allocp | with_reducible apply Blk.drew | with_reducible apply Blk.drewN))) hB2; have cA2 := hA2.cell; have fA2 := hA2.frozen; have lA2 := hA2.lt; have mA2 := Nat.ne_of_gt lA2; have nA2 := Nat.ne_of_lt lA2; have hR2 : Blk v2 (w.heap.size + 1) 33 #[.int .i64 0, .int .i64 0, .int .i64 0] := Blk.call (by (repeat (first | with_reducible assumption | (with_reducible apply Blk.new_at; (first | rfl | (simp; done))) | with_reducible apply Blk.store3 | with_reducible apply Blk.store4 | (with_reducible apply Blk.farp; (first | omega | (simp <;> omega))) | with_reducible apply Blk.allocp | with_reducible apply Blk.drew | with_reducible apply Blk.drewN))) hB2; have cR2 := hR2.cell; have fR2 := hR2.frozen; have lR2 := hR2.lt; have mR2 := Nat.ne_of_gt lR2; have nR2 := Nat.ne_of_lt lR2; have hS2 : Blk v2 (w.heap.size + 1 + 1) 27 #[.int .i64 0, .int .i64 0, .int .i64 0, .int .i64 0] := Blk.call (by (repeat (first | with_reducible assumption | (with_reducible apply Blk.new_at; (first | rfl | (simp; done))) | with_reducible apply Blk.store3 | with_reducible apply Blk.store4 | (with_reducible apply Blk.farp; (first | omega | (simp <;> omega))) | with_reducible apply Blk.allocp | with_reducible apply Blk.drew | with_reducible apply Blk.drewN))) hB2; have cS2 := hS2.cell; have fS2 := hS2.frozen; have lS2 := hS2.lt; have mS2 := Nat.ne_of_gt lS2; have nS2 := Nat.ne_of_lt lS2; have hM2 : Blk v2 (v1.heap.size) 27 #[.int .i64 p, .int .i64 q, .int .i64 r, .int .i64 s] := Blk.call (by (repeat (first | with_reducible assumption | (with_reducible apply Blk.new_at; (first | rfl | (simp; done))) | with_reducible apply Blk.store3 | with_reducible apply Blk.store4 | (with_reducible apply Blk.farp; (first | omega | (simp <;> omega))) | with_reducible apply Blk.allocp | with_reducible apply Blk.drew | with_reducible apply Blk.drewN))) hB2; have cM2 := hM2.cell; have fM2 := hM2.frozen; have lM2 := hM2.lt; have mM2 := Nat.ne_of_gt lM2; have nM2 := Nat.ne_of_lt lM2))
      go_region
      go_wp2
      exact bodyPost_ret (v := .tuple #[.agg #[.int .i64 f.a, .int .i64 f.b, .int .i64 f.c], .agg #[.int .i64 p, .int .i64 q, .int .i64 r, .int .i64 s]]) (by simp [results, Tryz.results43, go_sem, *]) rfl (retRed_mk hx.out p q r s (by repeat (first | with_reducible exact Below.refl _ _ | with_reducible assumption | with_reducible apply Below.drew | with_reducible apply below_drewN | (with_reducible apply below_setp; (first | omega | (simp <;> omega))) | (with_reducible apply below_allocp; (first | omega | (simp <;> omega))) | (with_reducible refine below_viap (by assumption) ?_ ?_; (first | omega | (simp <;> omega))))))
    | false =>
      obtain ⟨k1, k2, k3, hst⟩ := step_sub hd
      have hds := def_step hd
      have hmu := mu_step hd hred
      have hrs := Lib.hid ((red_step hd hred).trans hr.out)
      have hsx := step_any f.a f.b f.c
      rw [hst] at hds hmu hrs
      clear hst
      generalize (if isNorm f.a f.b = true then (0 : Int) else 1) = mp at *
      generalize (if isNorm f.a f.b = true then (1 : Int) else 0) = mr at *
      generalize (if isNorm f.a f.b = true then (-1 : Int) else tr f.a f.b) = mq at *
      have Hsx := Lib.hid hsx
      clear hsx
      go_wp2_with (first
        | (go_at_call 83; (with_reducible refine (isReduced_any f.a f.b f.c _ ha (by omega)).mono ?_); rw [hred]; rintro e v2 ⟨rfl, hB2⟩; have hZ2 := hB2.size; (try simp at hZ2); (try have zl2 : w.heap.size < v2.heap.size := by omega); (try have ze2 : w.heap.size ≤ v2.heap.size := by omega); (try have zn2 : ¬ w.heap.size = v2.heap.size := by omega); (try have zm2 : ¬ v2.heap.size = w.heap.size := by omega); have hA2 : Blk v2 (w.heap.size) 33 #[.int .i64 f.a, .int .i64 f.b, .int .i64 f.c] := Blk.call (by (repeat (first | with_reducible assumption | (with_reducible apply Blk.new_at; (first | rfl | (simp; done))) | with_reducible apply Blk.store3 | with_reducible apply Blk.store4 | (with_reducible apply Blk.farp; (first | omega | (simp <;> omega))) | with_reducible apply Blk.allocp | with_reducible apply Blk.drew | with_reducible apply Blk.drewN))) hB2; have cA2 := hA2.cell; have fA2 := hA2.frozen; have lA2 := hA2.lt; have mA2 := Nat.ne_of_gt lA2; have nA2 := Nat.ne_of_lt lA2; have hR2 : Blk v2 (w.heap.size + 1) 33 #[.int .i64 0, .int .i64 0, .int .i64 0] := Blk.call (by (repeat (first | with_reducible assumption | (with_reducible apply Blk.new_at; (first | rfl | (simp; done))) | with_reducible apply Blk.store3 | with_reducible apply Blk.store4 | (with_reducible apply Blk.farp; (first | omega | (simp <;> omega))) | with_reducible apply Blk.allocp | with_reducible apply Blk.drew | with_reducible apply Blk.drewN))) hB2; have cR2 := hR2.cell; have fR2 := hR2.frozen; have lR2 := hR2.lt; have mR2 := Nat.ne_of_gt lR2; have nR2 := Nat.ne_of_lt lR2; have hS2 : Blk v2 (w.heap.size + 1 + 1) 27 #[.int .i64 0, .int .i64 0, .int .i64 0, .int .i64 0] := Blk.call (by (repeat (first | with_reducible assumption | (with_reducible apply Blk.new_at; (first | rfl | (simp; done))) | with_reducible apply Blk.store3 | with_reducible apply Blk.store4 | (with_reducible apply Blk.farp; (first | omega | (simp <;> omega))) | with_reducible apply Blk.allocp | with_reducible apply Blk.drew | with_reducible apply Blk.drewN))) hB2; have cS2 := hS2.cell; have fS2 := hS2.frozen; have lS2 := hS2.lt; have mS2 := Nat.ne_of_gt lS2; have nS2 := Nat.ne_of_lt lS2; have hM2 : Blk v2 (v1.heap.size) 27 #[.int .i64 p, .int .i64 q, .int .i64 r, .int .i64 s] := Blk.call (by (repeat (first | with_reducible assumption | (with_reducible apply Blk.new_at; (first | rfl | (simp; done))) | with_reducible apply Blk.store3 | with_reducible apply Blk.store4 | (with_reducible apply Blk.farp; (first | omega | (simp <;> omega))) | with_reducible apply Blk.allocp | with_reducible apply Blk.drew | with_reducible apply Blk.drewN))) hB2; have cM2 := hM2.cell; have fM2 := hM2.frozen; have lM2 := hM2.lt; have mM2 := Nat.ne_of_gt lM2; have nM2 := Nat.ne_of_lt lM2)
        | (go_at_call 84; (with_reducible refine (Hsx.out _ ha (by omega) (by omega) (by omega) hred).mono ?_); rintro e v3 ⟨rfl, hB3⟩; have hZ3 := hB3.size; (try simp at hZ3); (try have zl3 : w.heap.size < v3.heap.size := by omega); (try have ze3 : w.heap.size ≤ v3.heap.size := by omega); (try have zn3 : ¬ w.heap.size = v3.heap.size := by omega); (try have zm3 : ¬ v3.heap.size = w.heap.size := by omega); have hA3 : Blk v3 (w.heap.size) 33 #[.int .i64 f.a, .int .i64 f.b, .int .i64 f.c] := Blk.call (by (repeat (first | with_reducible assumption | (with_reducible apply Blk.new_at; (first | rfl | (simp; done))) | with_reducible apply Blk.store3 | with_reducible apply Blk.store4 | (with_reducible apply Blk.farp; (first | omega | (simp <;> omega))) | with_reducible apply Blk.allocp | with_reducible apply Blk.drew | with_reducible apply Blk.drewN))) hB3; have cA3 := hA3.cell; have fA3 := hA3.frozen; have lA3 := hA3.lt; have mA3 := Nat.ne_of_gt lA3; have nA3 := Nat.ne_of_lt lA3; have hR3 : Blk v3 (w.heap.size + 1) 33 #[.int .i64 0, .int .i64 0, .int .i64 0] := Blk.call (by (repeat (first | with_reducible assumption | (with_reducible apply Blk.new_at; (first | rfl | (simp; done))) | with_reducible apply Blk.store3 | with_reducible apply Blk.store4 | (with_reducible apply Blk.farp; (first | omega | (simp <;> omega))) | with_reducible apply Blk.allocp | with_reducible apply Blk.drew | with_reducible apply Blk.drewN))) hB3; have cR3 := hR3.cell; have fR3 := hR3.frozen; have lR3 := hR3.lt; have mR3 := Nat.ne_of_gt lR3; have nR3 := Nat.ne_of_lt lR3; have hS3 : Blk v3 (w.heap.size + 1 + 1) 27 #[.int .i64 0, .int .i64 0, .int .i64 0, .int .i64 0] := Blk.call (by (repeat (first | with_reducible assumption | (with_reducible apply Blk.new_at; (first | rfl | (simp; done))) | with_reducible apply Blk.store3 | with_reducible apply Blk.store4 | (with_reducible apply Blk.farp; (first | omega | (simp <;> omega))) | with_reducible apply Blk.allocp | with_reducible apply Blk.drew | with_reducible apply Blk.drewN))) hB3; have cS3 := hS3.cell; have fS3 := hS3.frozen; have lS3 := hS3.lt; have mS3 := Nat.ne_of_gt lS3; have nS3 := Nat.ne_of_lt lS3; have hM3 : Blk v3 (v1.heap.size) 27 #[.int .i64 p, .int .i64 q, .int .i64 r, .int .i64 s] := Blk.call (by (repeat (first | with_reducible assumption | (with_reducible apply Blk.new_at; (first | rfl | (simp; done))) | with_reducible apply Blk.store3 | with_reducible apply Blk.store4 | (with_reducible apply Blk.farp; (first | omega | (simp <;> omega))) | with_reducible apply Blk.allocp | with_reducible apply Blk.drew | with_reducible apply Blk.drewN))) hB3; have cM3 := hM3.cell; have fM3 := hM3.frozen; have lM3 := hM3.lt; have mM3 := Nat.ne_of_gt lM3; have nM3 := Nat.ne_of_lt lM3)
        | (go_at_call 36; (with_reducible refine (substitute_any f.a f.b f.c mp mq mr mp _ k1 k2 k3).mono ?_); rintro e v4 ⟨rfl, hB4⟩; have hZ4 := hB4.size; (try simp at hZ4); (try have zl4 : w.heap.size < v4.heap.size := by omega); (try have ze4 : w.heap.size ≤ v4.heap.size := by omega); (try have zn4 : ¬ w.heap.size = v4.heap.size := by omega); (try have zm4 : ¬ v4.heap.size = w.heap.size := by omega); have hA4 : Blk v4 (w.heap.size) 33 #[.int .i64 f.a, .int .i64 f.b, .int .i64 f.c] := Blk.call (by (repeat (first | with_reducible assumption | (with_reducible apply Blk.new_at; (first | rfl | (simp; done))) | with_reducible apply Blk.store3 | with_reducible apply Blk.store4 | (with_reducible apply Blk.farp; (first | omega | (simp <;> omega))) | with_reducible apply Blk.allocp | with_reducible apply Blk.drew | with_reducible apply Blk.drewN))) hB4; have cA4 := hA4.cell; have fA4 := hA4.frozen; have lA4 := hA4.lt; have mA4 := Nat.ne_of_gt lA4; have nA4 := Nat.ne_of_lt lA4; have hR4 : Blk v4 (w.heap.size + 1) 33 #[.int .i64 0, .int .i64 0, .int .i64 0] := Blk.call (by (repeat (first | with_reducible assumption | (with_reducible apply Blk.new_at; (first | rfl | (simp; done))) | with_reducible apply Blk.store3 | with_reducible apply Blk.store4 | (with_reducible apply Blk.farp; (first | omega | (simp <;> omega))) | with_reducible apply Blk.allocp | with_reducible apply Blk.drew | with_reducible apply Blk.drewN))) hB4; have cR4 := hR4.cell; have fR4 := hR4.frozen; have lR4 := hR4.lt; have mR4 := Nat.ne_of_gt lR4; have nR4 := Nat.ne_of_lt lR4; have hS4 : Blk v4 (w.heap.size + 1 + 1) 27 #[.int .i64 0, .int .i64 0, .int .i64 0, .int .i64 0] := Blk.call (by (repeat (first | with_reducible assumption | (with_reducible apply Blk.new_at; (first | rfl | (simp; done))) | with_reducible apply Blk.store3 | with_reducible apply Blk.store4 | (with_reducible apply Blk.farp; (first | omega | (simp <;> omega))) | with_reducible apply Blk.allocp | with_reducible apply Blk.drew | with_reducible apply Blk.drewN))) hB4; have cS4 := hS4.cell; have fS4 := hS4.frozen; have lS4 := hS4.lt; have mS4 := Nat.ne_of_gt lS4; have nS4 := Nat.ne_of_lt lS4; have hM4 : Blk v4 (v1.heap.size) 27 #[.int .i64 p, .int .i64 q, .int .i64 r, .int .i64 s] := Blk.call (by (repeat (first | with_reducible assumption | (with_reducible apply Blk.new_at; (first | rfl | (simp; done))) | with_reducible apply Blk.store3 | with_reducible apply Blk.store4 | (with_reducible apply Blk.farp; (first | omega | (simp <;> omega))) | with_reducible apply Blk.allocp | with_reducible apply Blk.drew | with_reducible apply Blk.drewN))) hB4; have cM4 := hM4.cell; have fM4 := hM4.frozen; have lM4 := hM4.lt; have mM4 := Nat.ne_of_gt lM4; have nM4 := Nat.ne_of_lt lM4; have hN4 : Blk v4 (v3.heap.size) 27 #[.int .i64 mp, .int .i64 mq, .int .i64 mr, .int .i64 mp] := Blk.call (by (repeat (first | with_reducible assumption | (with_reducible apply Blk.new_at; (first | rfl | (simp; done))) | with_reducible apply Blk.store3 | with_reducible apply Blk.store4 | (with_reducible apply Blk.farp; (first | omega | (simp <;> omega))) | with_reducible apply Blk.allocp | with_reducible apply Blk.drew | with_reducible apply Blk.drewN))) hB4; have cN4 := hN4.cell; have fN4 := hN4.frozen; have lN4 := hN4.lt; have mN4 := Nat.ne_of_gt lN4; have nN4 := Nat.ne_of_lt lN4)
        | (go_at_call 47; (with_reducible refine (times_any p q r s mp mq mr mp _).mono ?_); rintro e v5 ⟨rfl, hB5⟩; have hZ5 := hB5.size; (try simp at hZ5); (try have zl5 : w.heap.size < v5.heap.size := by omega); (try have ze5 : w.heap.size ≤ v5.heap.size := by omega); (try have zn5 : ¬ w.heap.size = v5.heap.size := by omega); (try have zm5 : ¬ v5.heap.size = w.heap.size := by omega); have hA5 : Blk v5 (w.heap.size) 33 #[.int .i64 (atF f.a f.b f.c mp mr), .int .i64 (polF f.a f.b f.c mp mr mq mp), .int .i64 (atF f.a f.b f.c mq mp)] := Blk.call (by (repeat (first | with_reducible assumption | (with_reducible apply Blk.new_at; (first | rfl | (simp; done))) | with_reducible apply Blk.store3 | with_reducible apply Blk.store4 | (with_reducible apply Blk.farp; (first | omega | (simp <;> omega))) | with_reducible apply Blk.allocp | with_reducible apply Blk.drew | with_reducible apply Blk.drewN))) hB5; have cA5 := hA5.cell; have fA5 := hA5.frozen; have lA5 := hA5.lt; have mA5 := Nat.ne_of_gt lA5; have nA5 := Nat.ne_of_lt lA5; have hR5 : Blk v5 (w.heap.size + 1) 33 #[.int .i64 0, .int .i64 0, .int .i64 0] := Blk.call (by (repeat (first | with_reducible assumption | (with_reducible apply Blk.new_at; (first | rfl | (simp; done))) | with_reducible apply Blk.store3 | with_reducible apply Blk.store4 | (with_reducible apply Blk.farp; (first | omega | (simp <;> omega))) | with_reducible apply Blk.allocp | with_reducible apply Blk.drew | with_reducible apply Blk.drewN))) hB5; have cR5 := hR5.cell; have fR5 := hR5.frozen; have lR5 := hR5.lt; have mR5 := Nat.ne_of_gt lR5; have nR5 := Nat.ne_of_lt lR5; have hS5 : Blk v5 (w.heap.size + 1 + 1) 27 #[.int .i64 0, .int .i64 0, .int .i64 0, .int .i64 0] := Blk.call (by (repeat (first | with_reducible assumption | (with_reducible apply Blk.new_at; (first | rfl | (simp; done))) | with_reducible apply Blk.store3 | with_reducible apply Blk.store4 | (with_reducible apply Blk.farp; (first | omega | (simp <;> omega))) | with_reducible apply Blk.allocp | with_reducible apply Blk.drew | with_reducible apply Blk.drewN))) hB5; have cS5 := hS5.cell; have fS5 := hS5.frozen; have lS5 := hS5.lt; have mS5 := Nat.ne_of_gt lS5; have nS5 := Nat.ne_of_lt lS5; have hM5 : Blk v5 (v1.heap.size) 27 #[.int .i64 p, .int .i64 q, .int .i64 r, .int .i64 s] := Blk.call (by (repeat (first | with_reducible assumption | (with_reducible apply Blk.new_at; (first | rfl | (simp; done))) | with_reducible apply Blk.store3 | with_reducible apply Blk.store4 | (with_reducible apply Blk.farp; (first | omega | (simp <;> omega))) | with_reducible apply Blk.allocp | with_reducible apply Blk.drew | with_reducible apply Blk.drewN))) hB5; have cM5 := hM5.cell; have fM5 := hM5.frozen; have lM5 := hM5.lt; have mM5 := Nat.ne_of_gt lM5; have nM5 := Nat.ne_of_lt lM5))
      go_roundg (mu ⟨atF f.a f.b f.c mp mr, polF f.a f.b f.c mp mr mq mp, atF f.a f.b f.c mq mp⟩)
      case measure => omega
      case rel =>
        refine ⟨⟨atF f.a f.b f.c mp mr, polF f.a f.b f.c mp mr mq mp, atF f.a f.b f.c mq mp⟩, mm p mp q mr, mm p mq q mp, mm r mp s mr, mm r mq s mp, hds, hrs, Nat.le_refl _, ?_, ?_, ?_, ?_, (by repeat (first | with_reducible exact Below.refl _ _ | with_reducible assumption | with_reducible apply Below.drew | with_reducible apply below_drewN | (with_reducible apply below_setp; (first | omega | (simp <;> omega))) | (with_reducible apply below_allocp; (first | omega | (simp <;> omega))) | (with_reducible refine below_viap (by assumption) ?_ ?_; (first | omega | (simp <;> omega)))))⟩
        · (repeat (first | with_reducible assumption | (with_reducible apply Blk.new_at; (first | rfl | (simp; done))) | with_reducible apply Blk.store3 | with_reducible apply Blk.store4 | (with_reducible apply Blk.farp; (first | omega | (simp <;> omega))) | with_reducible apply Blk.allocp | with_reducible apply Blk.drew | with_reducible apply Blk.drewN))
        · (repeat (first | with_reducible assumption | (with_reducible apply Blk.new_at; (first | rfl | (simp; done))) | with_reducible apply Blk.store3 | with_reducible apply Blk.store4 | (with_reducible apply Blk.farp; (first | omega | (simp <;> omega))) | with_reducible apply Blk.allocp | with_reducible apply Blk.drew | with_reducible apply Blk.drewN))
        · (repeat (first | with_reducible assumption | (with_reducible apply Blk.new_at; (first | rfl | (simp; done))) | with_reducible apply Blk.store3 | with_reducible apply Blk.store4 | (with_reducible apply Blk.farp; (first | omega | (simp <;> omega))) | with_reducible apply Blk.allocp | with_reducible apply Blk.drew | with_reducible apply Blk.drewN))
        · (repeat (first | with_reducible assumption | (with_reducible apply Blk.new_at; (first | rfl | (simp; done))) | with_reducible apply Blk.store3 | with_reducible apply Blk.store4 | (with_reducible apply Blk.farp; (first | omega | (simp <;> omega))) | with_reducible apply Blk.allocp | with_reducible apply Blk.drew | with_reducible apply Blk.drewN))
end

section
open Go.RowKit

set_option maxHeartbeats 400000 in
theorem reReduce_any (f0 : Fm) (w : World) (h0 : Def M0 f0) :
    Calls Tryz.prog 80 #[.agg #[.int .i64 f0.a, .int .i64 f0.b, .int .i64 f0.c]] w (RetRed (red f0) w) := by
  go_enter Tryz.func80, Tryz.ntmps80
  go_wp2
  go_loopg [] (mu f0) (fun k wr => RedSt f0 w (w.heap.size + 1 + 1 + 1) k wr)
  case atStart =>
    refine ⟨f0, 1, 0, 0, 1, h0, Lib.hid rfl, Nat.le_refl _, ?_, ?_, ?_, ?_, (by repeat (first | with_reducible exact Below.refl _ _ | with_reducible assumption | with_reducible apply Below.drew | with_reducible apply below_drewN | (with_reducible apply below_setp; (first | omega | (simp <;> omega))) | (with_reducible apply below_allocp; (first | omega | (simp <;> omega))) | (with_reducible refine below_viap (by assumption) ?_ ?_; (first | omega | (simp <;> omega)))))⟩
    · (repeat (first | with_reducible assumption | (with_reducible apply Blk.new_at; (first | rfl | (simp; done))) | with_reducible apply Blk.store3 | with_reducible apply Blk.store4 | (with_reducible apply Blk.farp; (first | omega | (simp <;> omega))) | with_reducible apply Blk.allocp | with_reducible apply Blk.drew | with_reducible apply Blk.drewN))
    · (repeat (first | with_reducible assumption | (with_reducible apply Blk.new_at; (first | rfl | (simp; done))) | with_reducible apply Blk.store3 | with_reducible apply Blk.store4 | (with_reducible apply Blk.farp; (first | omega | (simp <;> omega))) | with_reducible apply Blk.allocp | with_reducible apply Blk.drew | with_reducible apply Blk.drewN))
    · (repeat (first | with_reducible assumption | (with_reducible apply Blk.new_at; (first | rfl | (simp; done))) | with_reducible apply Blk.store3 | with_reducible apply Blk.store4 | (with_reducible apply Blk.farp; (first | omega | (simp <;> omega))) | with_reducible apply Blk.allocp | with_reducible apply Blk.drew | with_reducible apply Blk.drewN))
    · (repeat (first | with_reducible assumption | (with_reducible apply Blk.new_at; (first | rfl | (simp; done))) | with_reducible apply Blk.store3 | with_reducible apply Blk.store4 | (with_reducible apply Blk.farp; (first | omega | (simp <;> omega))) | with_reducible apply Blk.allocp | with_reducible apply Blk.drew | with_reducible apply Blk.drewN))
  case round =>
    obtain ⟨f, p, q, r, s, hd, hr, hk, hA, hR, hS, hM, hbel⟩ := hrel
    have ha := hd.a0
    have hfar := hd.bB
    have ha2 := hd.aM
    unfold M0 at hfar ha2
    have hz := hbel.size
    have cA := hA.cell; have fA := hA.frozen
    have cR := hR.cell; have fR := hR.frozen
    have cS := hS.cell; have fS := hS.frozen
    have cM := hM.cell; have fM := hM.frozen
    cases hred : isRed f.a f.b f.c with
    | true =>
      have hx := Lib.hid ((red_of hred).symm.trans hr.out)
      go_wp2_with (first | (go_at_call 111; (with_reducible refine (reIs_any f.a f.b f.c _ ha (by omega)).mono ?_); rw [hred]; rintro e v2 ⟨rfl, hB2⟩; have hZ2 := hB2.size; (try simp at hZ2); (try have zl2 : w.heap.size < v2.heap.size := by omega); (try have ze2 : w.heap.size ≤ v2.heap.size := by omega); (try have zn2 : ¬ w.heap.size = v2.heap.size := by omega); (try have zm2 : ¬ v2.heap.size = w.heap.size := by omega); have hA2 : Blk v2 (w.heap.size) 33 #[.int .i64 f.a, .int .i64 f.b, .int .i64 f.c] := Blk.call (by (repeat (first | with_reducible assumption | (with_reducible apply Blk.new_at; (first | rfl | (simp; done))) | with_reducible apply Blk.store3 | with_reducible apply Blk.store4 | (with_reducible apply Blk.farp; (first | omega | (simp <;> omega))) | with_reducible apply Blk.allocp | with_reducible apply Blk.drew | with_reducible apply Blk.drewN))) hB2; have cA2 := hA2.cell; have fA2 := hA2.frozen; have lA2 := hA2.lt; have mA2 := Nat.ne_of_gt lA2; have nA2 := Nat.ne_of_lt lA2; have hR2 : Blk v2 (w.heap.size + 1) 33 #[.int .i64 0, .int .i64 0, .int .i64 0] := Blk.call (by (repeat (first | with_reducible assumption | (with_reducible apply Blk.new_at; (first | rfl | (simp; done))) | with_reducible apply Blk.store3 | with_reducible apply Blk.store4 | (with_reducible apply Blk.farp; (first | omega | (simp <;> omega))) | with_reducible apply Blk.allocp | with_reducible apply Blk.drew | with_reducible apply Blk.drewN))) hB2; have cR2 := hR2.cell; have fR2 := hR2.frozen; have lR2 := hR2.lt; have mR2 := Nat.ne_of_gt lR2; have nR2 := Nat.ne_of_lt lR2; have hS2 : Blk v2 (w.heap.size + 1 + 1) 27 #[.int .i64 0, .int .i64 0, .int .i64 0, .int .i64 0] := Blk.call (by (repeat (first | with_reducible assumption | (with_reducible apply Blk.new_at; (first | rfl | (simp; done))) | with_reducible apply Blk.store3 | with_reducible apply Blk.store4 | (with_reducible apply Blk.farp; (first | omega | (simp <;> omega))) | with_reducible apply Blk.allocp | with_reducible apply Blk.drew | with_reducible apply Blk.drewN))) hB2; have cS2 := hS2.cell; have fS2 := hS2.frozen; have lS2 := hS2.lt; have mS2 := Nat.ne_of_gt lS2; have nS2 := Nat.ne_of_lt lS2; have hM2 : Blk v2 (w.heap.size + 1 + 1 + 1) 27 #[.int .i64 p, .int .i64 q, .int .i64 r, .int .i64 s] := Blk.call (by (repeat (first | with_reducible assumption | (with_reducible apply Blk.new_at; (first | rfl | (simp; done))) | with_reducible apply Blk.store3 | with_reducible apply Blk.store4 | (with_reducible apply Blk.farp; (first | omega | (simp <;> omega))) | with_reducible apply Blk.allocp | with_reducible apply Blk.drew | with_reducible apply Blk.drewN))) hB2; have cM2 := hM2.cell; have fM2 := hM2.frozen; have lM2 := hM2.lt; have mM2 := Nat.ne_of_gt lM2; have nM2 := Nat.ne_of_lt lM2))
      go_region
      go_wp2
      exact bodyPost_ret (v := .tuple #[.agg #[.int .i64 f.a, .int .i64 f.b, .int .i64 f.c], .agg #[.int .i64 p, .int .i64 q, .int .i64 r, .int .i64 s]]) (by simp [results, Tryz.results80, go_sem, *]) rfl (retRed_mk hx.out p q r s (by repeat (first | with_reducible exact Below.refl _ _ | with_reducible assumption | with_reducible apply Below.drew | with_reducible apply below_drewN | (with_reducible apply below_setp; (first | omega | (simp <;> omega))) | (with_reducible apply below_allocp; (first | omega | (simp <;> omega))) | (with_reducible refine below_viap (by assumption) ?_ ?_; (first | omega | (simp <;> omega))))))
    | false =>
      obtain ⟨k1, k2, k3, hst⟩ := step_sub hd
      have hds := def_step hd
      have hmu := mu_step hd hred
      have hrs := Lib.hid ((red_step hd hred).trans hr.out)
      have hsx := reMove_any f.a f.b f.c
      rw [hst] at hds hmu hrs
      clear hst
      generalize (if isNorm f.a f.b = true then (0 : Int) else 1) = mp at *
      generalize (if isNorm f.a f.b = true then (1 : Int) else 0) = mr at *
      generalize (if isNorm f.a f.b = true then (-1 : Int) else tr f.a f.b) = mq at *
      have Hsx := Lib.hid hsx
      clear hsx
      go_wp2_with (first
        | (go_at_call 111; (with_reducible refine (reIs_any f.a f.b f.c _ ha (by omega)).mono ?_); rw [hred]; rintro e v2 ⟨rfl, hB2⟩; have hZ2 := hB2.size; (try simp at hZ2); (try have zl2 : w.heap.size < v2.heap.size := by omega); (try have ze2 : w.heap.size ≤ v2.heap.size := by omega); (try have zn2 : ¬ w.heap.size = v2.heap.size := by omega); (try have zm2 : ¬ v2.heap.size = w.heap.size := by omega); have hA2 : Blk v2 (w.heap.size) 33 #[.int .i64 f.a, .int .i64 f.b, .int .i64 f.c] := Blk.call (by (repeat (first | with_reducible assumption | (with_reducible apply Blk.new_at; (first | rfl | (simp; done))) | with_reducible apply Blk.store3 | with_reducible apply Blk.store4 | (with_reducible apply Blk.farp; (first | omega | (simp <;> omega))) | with_reducible apply Blk.allocp | with_reducible apply Blk.drew | with_reducible apply Blk.drewN))) hB2; have cA2 := hA2.cell; have fA2 := hA2.frozen; have lA2 := hA2.lt; have mA2 := Nat.ne_of_gt lA2; have nA2 := Nat.ne_of_lt lA2; have hR2 : Blk v2 (w.heap.size + 1) 33 #[.int .i64 0, .int .i64 0, .int .i64 0] := Blk.call (by (repeat (first | with_reducible assumption | (with_reducible apply Blk.new_at; (first | rfl | (simp; done))) | with_reducible apply Blk.store3 | with_reducible apply Blk.store4 | (with_reducible apply Blk.farp; (first | omega | (simp <;> omega))) | with_reducible apply Blk.allocp | with_reducible apply Blk.drew | with_reducible apply Blk.drewN))) hB2; have cR2 := hR2.cell; have fR2 := hR2.frozen; have lR2 := hR2.lt; have mR2 := Nat.ne_of_gt lR2; have nR2 := Nat.ne_of_lt lR2; have hS2 : Blk v2 (w.heap.size + 1 + 1) 27 #[.int .i64 0, .int .i64 0, .int .i64 0, .int .i64 0] := Blk.call (by (repeat (first | with_reducible assumption | (with_reducible apply Blk.new_at; (first | rfl | (simp; done))) | with_reducible apply Blk.store3 | with_reducible apply Blk.store4 | (with_reducible apply Blk.farp; (first | omega | (simp <;> omega))) | with_reducible apply Blk.allocp | with_reducible apply Blk.drew | with_reducible apply Blk.drewN))) hB2; have cS2 := hS2.cell; have fS2 := hS2.frozen; have lS2 := hS2.lt; have mS2 := Nat.ne_of_gt lS2; have nS2 := Nat.ne_of_lt lS2; have hM2 : Blk v2 (w.heap.size + 1 + 1 + 1) 27 #[.int .i64 p, .int .i64 q, .int .i64 r, .int .i64 s] := Blk.call (by (repeat (first | with_reducible assumption | (with_reducible apply Blk.new_at; (first | rfl | (simp; done))) | with_reducible apply Blk.store3 | with_reducible apply Blk.store4 | (with_reducible apply Blk.farp; (first | omega | (simp <;> omega))) | with_reducible apply Blk.allocp | with_reducible apply Blk.drew | with_reducible apply Blk.drewN))) hB2; have cM2 := hM2.cell; have fM2 := hM2.frozen; have lM2 := hM2.lt; have mM2 := Nat.ne_of_gt lM2; have nM2 := Nat.ne_of_lt lM2)
        | (go_at_call 112; (with_reducible refine (Hsx.out _ ha (by omega) (by omega) (by omega) hred).mono ?_); rintro e v3 ⟨rfl, hB3⟩; have hZ3 := hB3.size; (try simp at hZ3); (try have zl3 : w.heap.size < v3.heap.size := by omega); (try have ze3 : w.heap.size ≤ v3.heap.size := by omega); (try have zn3 : ¬ w.heap.size = v3.heap.size := by omega); (try have zm3 : ¬ v3.heap.size = w.heap.size := by omega); have hA3 : Blk v3 (w.heap.size) 33 #[.int .i64 f.a, .int .i64 f.b, .int .i64 f.c] := Blk.call (by (repeat (first | with_reducible assumption | (with_reducible apply Blk.new_at; (first | rfl | (simp; done))) | with_reducible apply Blk.store3 | with_reducible apply Blk.store4 | (with_reducible apply Blk.farp; (first | omega | (simp <;> omega))) | with_reducible apply Blk.allocp | with_reducible apply Blk.drew | with_reducible apply Blk.drewN))) hB3; have cA3 := hA3.cell; have fA3 := hA3.frozen; have lA3 := hA3.lt; have mA3 := Nat.ne_of_gt lA3; have nA3 := Nat.ne_of_lt lA3; have hR3 : Blk v3 (w.heap.size + 1) 33 #[.int .i64 0, .int .i64 0, .int .i64 0] := Blk.call (by (repeat (first | with_reducible assumption | (with_reducible apply Blk.new_at; (first | rfl | (simp; done))) | with_reducible apply Blk.store3 | with_reducible apply Blk.store4 | (with_reducible apply Blk.farp; (first | omega | (simp <;> omega))) | with_reducible apply Blk.allocp | with_reducible apply Blk.drew | with_reducible apply Blk.drewN))) hB3; have cR3 := hR3.cell; have fR3 := hR3.frozen; have lR3 := hR3.lt; have mR3 := Nat.ne_of_gt lR3; have nR3 := Nat.ne_of_lt lR3; have hS3 : Blk v3 (w.heap.size + 1 + 1) 27 #[.int .i64 0, .int .i64 0, .int .i64 0, .int .i64 0] := Blk.call (by (repeat (first | with_reducible assumption | (with_reducible apply Blk.new_at; (first | rfl | (simp; done))) | with_reducible apply Blk.store3 | with_reducible apply Blk.store4 | (with_reducible apply Blk.farp; (first | omega | (simp <;> omega))) | with_reducible apply Blk.allocp | with_reducible apply Blk.drew | with_reducible apply Blk.drewN))) hB3; have cS3 := hS3.cell; have fS3 := hS3.frozen; have lS3 := hS3.lt; have mS3 := Nat.ne_of_gt lS3; have nS3 := Nat.ne_of_lt lS3; have hM3 : Blk v3 (w.heap.size + 1 + 1 + 1) 27 #[.int .i64 p, .int .i64 q, .int .i64 r, .int .i64 s] := Blk.call (by (repeat (first | with_reducible assumption | (with_reducible apply Blk.new_at; (first | rfl | (simp; done))) | with_reducible apply Blk.store3 | with_reducible apply Blk.store4 | (with_reducible apply Blk.farp; (first | omega | (simp <;> omega))) | with_reducible apply Blk.allocp | with_reducible apply Blk.drew | with_reducible apply Blk.drewN))) hB3; have cM3 := hM3.cell; have fM3 := hM3.frozen; have lM3 := hM3.lt; have mM3 := Nat.ne_of_gt lM3; have nM3 := Nat.ne_of_lt lM3))
      refine wp_region_calm 6 (Below (v3.heap.size + 1) _) (by kernel_rfl) (by kernel_rfl) ((Below.refl _ _).drew) ?_
      simp only [List.take_succ_cons, List.take_zero, List.drop_succ_cons, List.drop_zero]
      repeat (first | (apply wpCalm_go; go_simp; (intro w' hw' hcc hff; go_simp; first | exact rfl | (refine (foAct_any f.a f.b f.c mp mq mr mp _ k1 k2 k3).mono ?_; rintro e w1 ⟨rfl, hb⟩; exact ⟨rfl, calm_call (by simp <;> omega) hw' hb⟩) | (refine (foMul_any p q r s mp mq mr mp _).mono ?_; rintro e w1 ⟨rfl, hb⟩; exact ⟨rfl, calm_call (by simp <;> omega) hw' hb⟩)); (intro K hK; go_simp; refine hK _ ?_; clear hK K)) | (apply wpCalm_skip; go_simp; (try (focus (simp [undef]; done))); (intro K hK; go_simp; refine hK _ ?_; clear hK K)))
      refine wpCalm_nil ?_
      intro w1 hw1
      have hcc := (calm_cells hw1).1
      have hff := (calm_cells hw1).2
      have hss := calm_size hw1
      have hsz := hw1.size
      (try simp at hsz)
      clear hcc hff
      have hA5 : Blk w1 (w.heap.size) 33 #[.int .i64 f.a, .int .i64 f.b, .int .i64 f.c] := Blk.below (by (repeat (first | with_reducible assumption | (with_reducible apply Blk.new_at; (first | rfl | (simp; done))) | with_reducible apply Blk.store3 | with_reducible apply Blk.store4 | (with_reducible apply Blk.farp; (first | omega | (simp <;> omega))) | with_reducible apply Blk.allocp | with_reducible apply Blk.drew | with_reducible apply Blk.drewN))) hw1 (by first | omega | (simp <;> omega))
      have cA5 := hA5.cell; have fA5 := hA5.frozen; have lA5 := hA5.lt; have mA5 := Nat.ne_of_gt lA5; have nA5 := Nat.ne_of_lt lA5
      have hR5 : Blk w1 (w.heap.size + 1) 33 #[.int .i64 0, .int .i64 0, .int .i64 0] := Blk.below (by (repeat (first | with_reducible assumption | (with_reducible apply Blk.new_at; (first | rfl | (simp; done))) | with_reducible apply Blk.store3 | with_reducible apply Blk.store4 | (with_reducible apply Blk.farp; (first | omega | (simp <;> omega))) | with_reducible apply Blk.allocp | with_reducible apply Blk.drew | with_reducible apply Blk.drewN))) hw1 (by first | omega | (simp <;> omega))
      have cR5 := hR5.cell; have fR5 := hR5.frozen; have lR5 := hR5.lt; have mR5 := Nat.ne_of_gt lR5; have nR5 := Nat.ne_of_lt lR5
      have hS5 : Blk w1 (w.heap.size + 1 + 1) 27 #[.int .i64 0, .int .i64 0, .int .i64 0, .int .i64 0] := Blk.below (by (repeat (first | with_reducible assumption | (with_reducible apply Blk.new_at; (first | rfl | (simp; done))) | with_reducible apply Blk.store3 | with_reducible apply Blk.store4 | (with_reducible apply Blk.farp; (first | omega | (simp <;> omega))) | with_reducible apply Blk.allocp | with_reducible apply Blk.drew | with_reducible apply Blk.drewN))) hw1 (by first | omega | (simp <;> omega))
      have cS5 := hS5.cell; have fS5 := hS5.frozen; have lS5 := hS5.lt; have mS5 := Nat.ne_of_gt lS5; have nS5 := Nat.ne_of_lt lS5
      have hM5 : Blk w1 (w.heap.size + 1 + 1 + 1) 27 #[.int .i64 p, .int .i64 q, .int .i64 r, .int .i64 s] := Blk.below (by (repeat (first | with_reducible assumption | (with_reducible apply Blk.new_at; (first | rfl | (simp; done))) | with_reducible apply Blk.store3 | with_reducible apply Blk.store4 | (with_reducible apply Blk.farp; (first | omega | (simp <;> omega))) | with_reducible apply Blk.allocp | with_reducible apply Blk.drew | with_reducible apply Blk.drewN))) hw1 (by first | omega | (simp <;> omega))
      have cM5 := hM5.cell; have fM5 := hM5.frozen; have lM5 := hM5.lt; have mM5 := Nat.ne_of_gt lM5; have nM5 := Nat.ne_of_lt lM5
      go_wp2
      go_roundg (mu ⟨atF f.a f.b f.c mp mr, polF f.a f.b f.c mp mr mq mp, atF f.a f.b f.c mq mp⟩)
      case measure => omega
      case rel =>
        refine ⟨⟨atF f.a f.b f.c mp mr, polF f.a f.b f.c mp mr mq mp, atF f.a f.b f.c mq mp⟩, mm p mp q mr, mm p mq q mp, mm r mp s mr, mm r mq s mp, hds, hrs, Nat.le_refl _, ?_, ?_, ?_, ?_, (by repeat (first | with_reducible exact Below.refl _ _ | with_reducible assumption | with_reducible apply Below.drew | with_reducible apply below_drewN | (with_reducible apply below_setp; (first | omega | (simp <;> omega))) | (with_reducible apply below_allocp; (first | omega | (simp <;> omega))) | (with_reducible refine below_viap (by assumption) ?_ ?_; (first | omega | (simp <;> omega)))))⟩
        · (repeat (first | with_reducible assumption | (with_reducible apply Blk.new_at; (first | rfl | (simp; done))) | with_reducible apply Blk.store3 | with_reducible apply Blk.store4 | (with_reducible apply Blk.farp; (first | omega | (simp <;> omega))) | with_reducible apply Blk.allocp | with_reducible apply Blk.drew | with_reducible apply Blk.drewN))
        · (repeat (first | with_reducible assumption | (with_reducible apply Blk.new_at; (first | rfl | (simp; done))) | with_reducible apply Blk.store3 | with_reducible apply Blk.store4 | (with_reducible apply Blk.farp; (first | omega | (simp <;> omega))) | with_reducible apply Blk.allocp | with_reducible apply Blk.drew | with_reducible apply Blk.drewN))
        · (repeat (first | with_reducible assumption | (with_reducible apply Blk.new_at; (first | rfl | (simp; done))) | with_reducible apply Blk.store3 | with_reducible apply Blk.store4 | (with_reducible apply Blk.farp; (first | omega | (simp <;> omega))) | with_reducible apply Blk.allocp | with_reducible apply Blk.drew | with_reducible apply Blk.drewN))
        · (repeat (first | with_reducible assumption | (with_reducible apply Blk.new_at; (first | rfl | (simp; done))) | with_reducible apply Blk.store3 | with_reducible apply Blk.store4 | (with_reducible apply Blk.farp; (first | omega | (simp <;> omega))) | with_reducible apply Blk.allocp | with_reducible apply Blk.drew | with_reducible apply Blk.drewN))
end

section
open Go.RowKit

set_option maxHeartbeats 400000 in
theorem reduced_any (a b c x y z : Int) (w : World) (h0 : Def M0 ⟨a, b, c⟩) (hr : red ⟨a, b, c⟩ = ⟨x, y, z⟩) :
    Calls Tryz.prog 52 #[.agg #[.int .i64 a, .int .i64 b, .int .i64 c]] w fun e w' => e = .returned (.agg #[.int .i64 x, .int .i64 y, .int .i64 z]) ∧ Below w.heap.size w w' := by
  have k := reduce_any ⟨a, b, c⟩
  rw [hr] at k
  have K := Lib.hid k; clear k hr
  go_enter Tryz.func52, Tryz.ntmps52
  go_wp2_with (go_at_call 43; refine (K.out _ h0).mono ?_; rintro e v1 ⟨p, q, r, s, rfl, hB1⟩; have hZ1 := hB1.size; (try simp at hZ1); have zl1 : w.heap.size < v1.heap.size := (by omega); have hR1 : Blk v1 (w.heap.size + 1) 33 #[.int .i64 0, .int .i64 0, .int .i64 0] := Blk.call (by (repeat (first | with_reducible assumption | (with_reducible apply Blk.new_at; (first | rfl | (simp; done))) | with_reducible apply Blk.store3 | with_reducible apply Blk.store4 | (with_reducible apply Blk.farp; (first | omega | (simp <;> omega))) | with_reducible apply Blk.allocp | with_reducible apply Blk.drew | with_reducible apply Blk.drewN))) hB1; have cR1 := hR1.cell; have fR1 := hR1.frozen; have lR1 := hR1.lt; have mR1 := Nat.ne_of_gt lR1; have nR1 := Nat.ne_of_lt lR1)
  exact bodyPost_ret (v := .agg #[.int .i64 x, .int .i64 y, .int .i64 z]) (by simp [results, Tryz.results52, go_sem, *]) rfl ⟨rfl, (by repeat (first | with_reducible exact Below.refl _ _ | with_reducible assumption | with_reducible apply Below.drew | with_reducible apply below_drewN | (with_reducible apply below_setp; (first | omega | (simp <;> omega))) | (with_reducible apply below_allocp; (first | omega | (simp <;> omega))) | (with_reducible refine below_viap (by assumption) ?_ ?_; (first | omega | (simp <;> omega)))))⟩

set_option maxHeartbeats 400000 in
theorem reClass_any (a b c x y z : Int) (w : World) (h0 : Def M0 ⟨a, b, c⟩) (hr : red ⟨a, b, c⟩ = ⟨x, y, z⟩) :
    Calls Tryz.prog 41 #[.agg #[.int .i64 a, .int .i64 b, .int .i64 c]] w fun e w' => e = .returned (.agg #[.int .i64 x, .int .i64 y, .int .i64 z]) ∧ Below w.heap.size w w' := by
  have k := reReduce_any ⟨a, b, c⟩
  rw [hr] at k
  have K := Lib.hid k; clear k hr
  go_enter Tryz.func41, Tryz.ntmps41
  go_wp2_with (go_at_call 80; refine (K.out _ h0).mono ?_; rintro e v1 ⟨p, q, r, s, rfl, hB1⟩; have hZ1 := hB1.size; (try simp at hZ1); have zl1 : w.heap.size < v1.heap.size := (by omega); have hR1 : Blk v1 (w.heap.size + 1) 33 #[.int .i64 0, .int .i64 0, .int .i64 0] := Blk.call (by (repeat (first | with_reducible assumption | (with_reducible apply Blk.new_at; (first | rfl | (simp; done))) | with_reducible apply Blk.store3 | with_reducible apply Blk.store4 | (with_reducible apply Blk.farp; (first | omega | (simp <;> omega))) | with_reducible apply Blk.allocp | with_reducible apply Blk.drew | with_reducible apply Blk.drewN))) hB1; have cR1 := hR1.cell; have fR1 := hR1.frozen; have lR1 := hR1.lt; have mR1 := Nat.ne_of_gt lR1; have nR1 := Nat.ne_of_lt lR1)
  exact bodyPost_ret (v := .agg #[.int .i64 x, .int .i64 y, .int .i64 z]) (by simp [results, Tryz.results41, go_sem, *]) rfl ⟨rfl, (by repeat (first | with_reducible exact Below.refl _ _ | with_reducible assumption | with_reducible apply Below.drew | with_reducible apply below_drewN | (with_reducible apply below_setp; (first | omega | (simp <;> omega))) | (with_reducible apply below_allocp; (first | omega | (simp <;> omega))) | (with_reducible refine below_viap (by assumption) ?_ ?_; (first | omega | (simp <;> omega)))))⟩

set_option maxHeartbeats 400000 in
theorem content_any (a b c : Int) (w : World) (ha : Far a) (hb : Far b) (hc : Far c) :
    Calls Tryz.prog 93 #[.agg #[.int .i64 a, .int .i64 b, .int .i64 c]] w fun e w' => e = .returned (.int .i64 (Int.gcd a (Int.gcd b c))) ∧ Below w.heap.size w w' := by
  obtain ⟨a1, a2⟩ := ha; obtain ⟨b1, b2⟩ := hb; obtain ⟨c1, c2⟩ := hc
  have hg : (Int.gcd b c : Int) ≤ 4000000000000000000 := by
    rcases Int.natAbs_eq b with h | h
    all_goals
      by_cases h0 : b = 0
      · subst h0; simp; omega
      · have := Int.gcd_le_natAbs_left (b := c) h0; omega
  have hg0 : (0 : Int) ≤ Int.gcd b c := by omega
  go_enter Tryz.func93, Tryz.ntmps93
  go_wp2
  refine wp_region_calm 9 (Below (w.heap.size + 1) _) (by kernel_rfl) (by kernel_rfl) ((Below.refl _ _).drew) ?_
  simp only [List.take_succ_cons, List.take_zero, List.drop_succ_cons, List.drop_zero]
  repeat (first | (apply wpCalm_go; go_simp; (intro w' hw' hcc hff; go_simp; first | exact rfl | (refine (gcd_any _ _ _ (by omega) (by omega) (by omega) (by omega)).mono ?_; rintro e w1 ⟨rfl, hb⟩; exact ⟨rfl, calm_call_draws hw' hb⟩)); (intro K hK; go_simp; refine hK _ ?_; clear hK K)) | (apply wpCalm_skip; go_simp; (try (focus (simp [undef]; done))); (intro K hK; go_simp; refine hK _ ?_; clear hK K)))
  refine wpCalm_nil ?_
  intro w1 hw1
  have hcc := (calm_cells hw1).1
  have hff := (calm_cells hw1).2
  have hss := calm_size hw1
  have hsz := hw1.size
  (try simp at hsz)
  go_wp2
  go_ret
  exact ⟨rfl, (by repeat (first | with_reducible exact Below.refl _ _ | with_reducible assumption | with_reducible apply Below.drew | with_reducible apply below_drewN | (with_reducible apply below_setp; (first | omega | (simp <;> omega))) | (with_reducible apply below_allocp; (first | omega | (simp <;> omega))) | (with_reducible refine below_viap (by assumption) ?_ ?_; (first | omega | (simp <;> omega)))))⟩

set_option maxHeartbeats 400000 in
theorem foContent_any (a b c : Int) (w : World) (ha : Far a) (hb : Far b) (hc : Far c) :
    Calls Tryz.prog 108 #[.agg #[.int .i64 a, .int .i64 b, .int .i64 c]] w fun e w' => e = .returned (.int .i64 (Int.gcd a (Int.gcd b c))) ∧ Below w.heap.size w w' := by
  obtain ⟨a1, a2⟩ := ha; obtain ⟨b1, b2⟩ := hb; obtain ⟨c1, c2⟩ := hc
  have hg : (Int.gcd a b : Int) ≤ 4000000000000000000 := by
    by_cases h0 : a = 0
    · subst h0; simp; omega
    · have := Int.gcd_le_natAbs_left (b := b) h0; omega
  have hg0 : (0 : Int) ≤ Int.gcd a b := by omega
  have e0 := Lib.hid (show (Int.gcd (Int.gcd a b) c : Int) = Int.gcd a (Int.gcd b c) by rw [Int.gcd_assoc])
  go_enter Tryz.func108, Tryz.ntmps108
  go_wp2
  refine wp_region_calm 9 (Below (w.heap.size + 1) _) (by kernel_rfl) (by kernel_rfl) ((Below.refl _ _).drew) ?_
  simp only [List.take_succ_cons, List.take_zero, List.drop_succ_cons, List.drop_zero]
  repeat (first | (apply wpCalm_go; go_simp; (intro w' hw' hcc hff; go_simp; first | exact rfl | (refine (nuGcd_any _ _ _ (by omega) (by omega) (by omega) (by omega)).mono ?_; rintro e w1 ⟨rfl, hb⟩; exact ⟨rfl, calm_call_draws hw' hb⟩)); (intro K hK; go_simp; refine hK _ ?_; clear hK K)) | (apply wpCalm_skip; go_simp; (try (focus (simp [undef]; done))); (intro K hK; go_simp; refine hK _ ?_; clear hK K)))
  refine wpCalm_nil ?_
  intro w1 hw1
  have hcc := (calm_cells hw1).1
  have hff := (calm_cells hw1).2
  have hss := calm_size hw1
  have hsz := hw1.size
  (try simp at hsz)
  go_wp2
  go_ret
  exact ⟨ret_int e0.out, (by repeat (first | with_reducible exact Below.refl _ _ | with_reducible assumption | with_reducible apply Below.drew | with_reducible apply below_drewN | (with_reducible apply below_setp; (first | omega | (simp <;> omega))) | (with_reducible apply below_allocp; (first | omega | (simp <;> omega))) | (with_reducible refine below_viap (by assumption) ?_ ?_; (first | omega | (simp <;> omega)))))⟩

end

section
open Go.RowKit

def isNum (x : Int) : Bool := decide (-1000000 ≤ x) && decide (x ≤ 1000000)
theorem isNum_iff (x : Int) : isNum x = true ↔ -1000000 ≤ x ∧ x ≤ 1000000 := by simp [isNum]
theorem isNum_no (x : Int) : isNum x = false ↔ ¬ (-1000000 ≤ x ∧ x ≤ 1000000) := by rw [← isNum_iff]; simp

set_option maxHeartbeats 400000 in
theorem nuGood_any (x : Int) (w : World) : Calls Tryz.prog 64 #[.int .i64 x] w fun e w' => e = .returned (.bool (isNum x)) ∧ w = w' := by
  by_cases h1 : -1000000 ≤ x
  · by_cases h2 : x ≤ 1000000
    · rw [(isNum_iff x).2 ⟨h1, h2⟩]
      go_enter Tryz.func64, Tryz.ntmps64
      go_wp2
      go_ret
      exact ⟨rfl, rfl⟩
    · rw [(isNum_no x).2 (by omega)]
      go_enter Tryz.func64, Tryz.ntmps64
      go_wp2
      go_ret
      exact ⟨rfl, rfl⟩
  · rw [(isNum_no x).2 (by omega)]
    go_enter Tryz.func64, Tryz.ntmps64
    go_wp2
    go_ret
    exact ⟨rfl, rfl⟩

set_option maxHeartbeats 800000 in
theorem areNumbers_any (b n cap : Nat) (xs : List Int) (w : World) (hn : xs.length = n) (hs : n ≤ 1000000000) (hc : ∀ j, j < n → w.cell? ⟨b, j, none⟩ = some (.int .i64 (xs.getD j 0))) :
    Calls Tryz.prog 68 #[.slice (some ⟨b, 0, none⟩) n cap] w fun e w' => e = .returned (.bool (xs.all isNum)) ∧ w = w' := by
  have Hn := Lib.hid hn; clear hn
  have Hc := Lib.hid hc; clear hc
  go_enter Tryz.func68, Tryz.ntmps68
  go_wp2
  go_loop [7] (fun i => ∃ k : Nat, k ≤ n ∧ i = .int .i64 k ∧ Hid ((xs.take k).all isNum = true)) (fun i => n - (intOf i).toNat)
  case atStart => exact ⟨0, Nat.zero_le _, rfl, Lib.hid (by simp)⟩
  case round =>
    obtain ⟨k, hk, rfl, ht⟩ := hrel
    by_cases hlt : k < n
    · have hcell := Hc.out k hlt
      have hstep := Lib.hid (show (xs.take (k + 1)).all isNum = ((xs.take k).all isNum && isNum (xs.getD k 0)) by
        have hl : k < xs.length := by rw [Hn.out]; exact hlt
        rw [List.take_succ_eq_append_getElem hl, List.all_append, List.getD_eq_getElem?_getD, List.getElem?_eq_getElem hl]; simp)
      have hfull := Lib.hid (show isNum (xs.getD k 0) = false → xs.all isNum = false by
        intro h0
        have hl : k < xs.length := by rw [Hn.out]; exact hlt
        rw [← Bool.not_eq_true, List.all_eq_true]
        intro h1
        have := h1 xs[k] (List.getElem_mem hl)
        rw [List.getD_eq_getElem?_getD, List.getElem?_eq_getElem hl] at h0
        simp only [Option.getD_some] at h0
        rw [h0] at this; cases this)
      generalize xs.getD k 0 = x at *
      by_cases h1 : -1000000 ≤ x
      · by_cases h2 : x ≤ 1000000
        · have hx := (isNum_iff x).2 ⟨h1, h2⟩
          have hok := Lib.hid (show (xs.take (k + 1)).all isNum = true by rw [hstep.out, ht.out, hx]; rfl)
          clear hstep hfull hx
          go_wp2
          go_round
          case rel => exact ⟨k + 1, hlt, by go_num, hok⟩
          case measure => simp [intOf]; omega
        · have hno := Lib.hid (hfull.out ((isNum_no x).2 (by omega)))
          clear hstep hfull
          go_wp2
          go_ret
          exact ⟨ret_bool hno.out.symm, rfl⟩
      · have hno := Lib.hid (hfull.out ((isNum_no x).2 (by omega)))
        clear hstep hfull
        go_wp2
        go_ret
        exact ⟨ret_bool hno.out.symm, rfl⟩
    · have hkn : k = n := by omega
      have hall := Lib.hid (show xs.all isNum = true by
        have := ht.out
        rw [hkn, ← Hn.out, List.take_length] at this; exact this)
      clear hkn
      go_wp2
      go_ret
      exact ⟨ret_bool hall.out.symm, rfl⟩
end

section
open Go.RowKit

def isFm (a b c : Int) : Bool := isNum a && (isNum b && isNum c)
def isDefB (a b c : Int) : Bool := isFm a b c && (decide (disc ⟨a, b, c⟩ < 0) && decide (0 < a))
def isShown (a b c : Int) : Bool := isDefB a b c && decide (-2000 ≤ disc ⟨a, b, c⟩)
def isCls (a b c : Int) : Bool := isShown a b c && decide (Int.gcd a (Int.gcd b c) = 1)

theorem isFm_bd {a b c : Int} (h : isFm a b c = true) : (-1000000 ≤ a ∧ a ≤ 1000000) ∧ (-1000000 ≤ b ∧ b ≤ 1000000) ∧ (-1000000 ≤ c ∧ c ≤ 1000000) := by
  simp only [isFm, Bool.and_eq_true, isNum_iff] at h; exact h
theorem fm_prods {a b c : Int} (h : isFm a b c = true) : Far (b * b) ∧ Far (4 * a) ∧ Far (4 * a * c) := by
  obtain ⟨⟨a1, a2⟩, ⟨b1, b2⟩, ⟨c1, c2⟩⟩ := isFm_bd h
  have h1 := mul_bd b1 b2 b1 b2
  have h2 := mul_bd (A := 4000000) (a := 4 * a) (by omega) (by omega) c1 c2
  exact ⟨⟨by omega, by omega⟩, ⟨by omega, by omega⟩, ⟨by omega, by omega⟩⟩
theorem disc_eq (a b c : Int) : b * b - 4 * a * c = disc ⟨a, b, c⟩ := rfl
theorem disc_bd {a b c : Int} (h : isFm a b c = true) : -5000000000000 ≤ disc ⟨a, b, c⟩ ∧ disc ⟨a, b, c⟩ ≤ 5000000000000 := by
  obtain ⟨⟨a1, a2⟩, ⟨b1, b2⟩, ⟨c1, c2⟩⟩ := isFm_bd h
  have h1 := mul_bd b1 b2 b1 b2
  have h2 := mul_bd (A := 4000000) (a := 4 * a) (by omega) (by omega) c1 c2
  rw [← disc_eq]; omega

set_option maxHeartbeats 400000 in
theorem IsForm_any (a b c : Int) (w : World) :
    Calls Tryz.prog 34 #[.agg #[.int .i64 a, .int .i64 b, .int .i64 c]] w fun e w' => e = .returned (.bool (isFm a b c)) ∧ Below w.heap.size w w' := by
  have hc : ∀ j, j < 3 → ((w.alloc (.cells #[.int .i64 a, .int .i64 b, .int .i64 c] 33)).alloc (.cells #[.int .i64 a, .int .i64 b, .int .i64 c] 3)).cell? ⟨w.heap.size + 1, j, none⟩ = some (.int .i64 ([a, b, c].getD j 0)) := by
    intro j hj
    match j, hj with
    | 0, _ => simp [go_sem]
    | 1, _ => simp [go_sem]
    | 2, _ => simp [go_sem]
  have Hc := Lib.hid hc; clear hc
  go_enter Tryz.func34, Tryz.ntmps34
  go_wp2_with (go_at_call 68; refine (areNumbers_any (w.heap.size + 1) 3 3 [a, b, c] _ rfl (by omega) Hc.out).mono ?_; rintro e v ⟨rfl, rfl⟩)
  go_ret
  exact ⟨ret_bool (by simp [isFm]), (by repeat (first | with_reducible exact Below.refl _ _ | with_reducible assumption | with_reducible apply Below.drew | with_reducible apply below_drewN | (with_reducible apply below_setp; (first | omega | (simp <;> omega))) | (with_reducible apply below_allocp; (first | omega | (simp <;> omega))) | (with_reducible refine below_viap (by assumption) ?_ ?_; (first | omega | (simp <;> omega)))))⟩

set_option maxHeartbeats 800000 in
theorem foGood_any (a b c : Int) (w : World) :
    Calls Tryz.prog 110 #[.agg #[.int .i64 a, .int .i64 b, .int .i64 c]] w fun e w' => e = .returned (.bool (isFm a b c)) ∧ Below w.heap.size w w' := by
  unfold isFm
  cases ha : isNum a with
  | false =>
    go_enter Tryz.func110, Tryz.ntmps110
    go_wp2_with (go_at_call 64; (with_reducible refine (nuGood_any _ _).mono ?_); rintro e v ⟨rfl, rfl⟩)
    go_ret
    exact ⟨rfl, (by repeat (first | with_reducible exact Below.refl _ _ | with_reducible assumption | with_reducible apply Below.drew | with_reducible apply below_drewN | (with_reducible apply below_setp; (first | omega | (simp <;> omega))) | (with_reducible apply below_allocp; (first | omega | (simp <;> omega))) | (with_reducible refine below_viap (by assumption) ?_ ?_; (first | omega | (simp <;> omega)))))⟩
  | true =>
    cases hb : isNum b with
    | false =>
      go_enter Tryz.func110, Tryz.ntmps110
      go_wp2_with (go_at_call 64; (with_reducible refine (nuGood_any _ _).mono ?_); rintro e v ⟨rfl, rfl⟩)
      go_ret
      exact ⟨rfl, (by repeat (first | with_reducible exact Below.refl _ _ | with_reducible assumption | with_reducible apply Below.drew | with_reducible apply below_drewN | (with_reducible apply below_setp; (first | omega | (simp <;> omega))) | (with_reducible apply below_allocp; (first | omega | (simp <;> omega))) | (with_reducible refine below_viap (by assumption) ?_ ?_; (first | omega | (simp <;> omega)))))⟩
    | true =>
      go_enter Tryz.func110, Tryz.ntmps110
      go_wp2_with (go_at_call 64; (with_reducible refine (nuGood_any _ _).mono ?_); rintro e v ⟨rfl, rfl⟩)
      go_ret
      exact ⟨rfl, (by repeat (first | with_reducible exact Below.refl _ _ | with_reducible assumption | with_reducible apply Below.drew | with_reducible apply below_drewN | (with_reducible apply below_setp; (first | omega | (simp <;> omega))) | (with_reducible apply below_allocp; (first | omega | (simp <;> omega))) | (with_reducible refine below_viap (by assumption) ?_ ?_; (first | omega | (simp <;> omega)))))⟩

set_option maxHeartbeats 400000 in
theorem idisc_any (a b c : Int) (w : World) (h1 : Far (b * b)) (h2 : Far (4 * a)) (h3 : Far (4 * a * c)) :
    Calls Tryz.prog 81 #[.agg #[.int .i64 a, .int .i64 b, .int .i64 c]] w fun e w' => e = .returned (.int .i64 (disc ⟨a, b, c⟩)) ∧ Below w.heap.size w w' := by
  obtain ⟨h1, k1⟩ := h1; obtain ⟨h2, k2⟩ := h2; obtain ⟨h3, k3⟩ := h3
  go_enter Tryz.func81, Tryz.ntmps81
  go_wp2
  go_ret
  exact ⟨ret_int rfl, (by repeat (first | with_reducible exact Below.refl _ _ | with_reducible assumption | with_reducible apply Below.drew | with_reducible apply below_drewN | (with_reducible apply below_setp; (first | omega | (simp <;> omega))) | (with_reducible apply below_allocp; (first | omega | (simp <;> omega))) | (with_reducible refine below_viap (by assumption) ?_ ?_; (first | omega | (simp <;> omega)))))⟩

set_option maxHeartbeats 800000 in
theorem iisDef_any (a b c : Int) (w : World) :
    Calls Tryz.prog 122 #[.agg #[.int .i64 a, .int .i64 b, .int .i64 c]] w fun e w' => e = .returned (.bool (isDefB a b c)) ∧ Below w.heap.size w w' := by
  unfold isDefB
  cases hf : isFm a b c with
  | false =>
    go_enter Tryz.func122, Tryz.ntmps122
    go_wp2_with (go_at_call 34; (with_reducible refine (IsForm_any a b c _).mono ?_); rintro e v1 ⟨rfl, hB1⟩; have hZ1 := hB1.size; (try simp at hZ1); (try have zl1 : w.heap.size < v1.heap.size := by omega); (try have ze1 : w.heap.size ≤ v1.heap.size := by omega); (try have zn1 : ¬ w.heap.size = v1.heap.size := by omega); (try have zm1 : ¬ v1.heap.size = w.heap.size := by omega); have hC1_0 := fun o => (calm_cells hB1).1 (w.heap.size) o (by first | omega | (simp <;> omega)); have hF1_0 := fun o => (calm_cells hB1).2 (w.heap.size) o (by first | omega | (simp <;> omega)); (try have hl1_0 : w.heap.size < v1.heap.size := by omega); (try have hm1_0 : ¬ w.heap.size = v1.heap.size := by omega); (try have hn1_0 : ¬ v1.heap.size = w.heap.size := by omega))
    go_ret
    exact ⟨rfl, (by repeat (first | with_reducible exact Below.refl _ _ | with_reducible assumption | with_reducible apply Below.drew | with_reducible apply below_drewN | (with_reducible apply below_setp; (first | omega | (simp <;> omega))) | (with_reducible apply below_allocp; (first | omega | (simp <;> omega))) | (with_reducible refine below_viap (by assumption) ?_ ?_; (first | omega | (simp <;> omega)))))⟩
  | true =>
    obtain ⟨f1, f2, f3⟩ := fm_prods hf
    obtain ⟨d1, d2⟩ := disc_bd hf
    by_cases h1 : disc ⟨a, b, c⟩ < 0
    · by_cases h2 : 0 < a
      · go_enter Tryz.func122, Tryz.ntmps122
        go_wp2_with (first | (go_at_call 34; (with_reducible refine (IsForm_any a b c _).mono ?_); rintro e v1 ⟨rfl, hB1⟩; have hZ1 := hB1.size; (try simp at hZ1); (try have zl1 : w.heap.size < v1.heap.size := by omega); (try have ze1 : w.heap.size ≤ v1.heap.size := by omega); (try have zn1 : ¬ w.heap.size = v1.heap.size := by omega); (try have zm1 : ¬ v1.heap.size = w.heap.size := by omega); have hC1_0 := fun o => (calm_cells hB1).1 (w.heap.size) o (by first | omega | (simp <;> omega)); have hF1_0 := fun o => (calm_cells hB1).2 (w.heap.size) o (by first | omega | (simp <;> omega)); (try have hl1_0 : w.heap.size < v1.heap.size := by omega); (try have hm1_0 : ¬ w.heap.size = v1.heap.size := by omega); (try have hn1_0 : ¬ v1.heap.size = w.heap.size := by omega)) | (go_at_call 81; (with_reducible refine (idisc_any a b c _ f1 f2 f3).mono ?_); rintro e v2 ⟨rfl, hB2⟩; have hZ2 := hB2.size; (try simp at hZ2); (try have zl2 : w.heap.size < v2.heap.size := by omega); (try have ze2 : w.heap.size ≤ v2.heap.size := by omega); (try have zn2 : ¬ w.heap.size = v2.heap.size := by omega); (try have zm2 : ¬ v2.heap.size = w.heap.size := by omega); have hC2_0 := fun o => (calm_cells hB2).1 (w.heap.size) o (by first | omega | (simp <;> omega)); have hF2_0 := fun o => (calm_cells hB2).2 (w.heap.size) o (by first | omega | (simp <;> omega)); (try have hl2_0 : w.heap.size < v2.heap.size := by omega); (try have hm2_0 : ¬ w.heap.size = v2.heap.size := by omega); (try have hn2_0 : ¬ v2.heap.size = w.heap.size := by omega)))
        go_ret
        exact ⟨ret_bool (by first | (simp; done) | (simp; omega) | (rw [Bool.eq_iff_iff]; simp; omega) | (simp_all; done) | (simp_all; omega)), (by repeat (first | with_reducible exact Below.refl _ _ | with_reducible assumption | with_reducible apply Below.drew | with_reducible apply below_drewN | (with_reducible apply below_setp; (first | omega | (simp <;> omega))) | (with_reducible apply below_allocp; (first | omega | (simp <;> omega))) | (with_reducible refine below_viap (by assumption) ?_ ?_; (first | omega | (simp <;> omega)))))⟩
      · go_enter Tryz.func122, Tryz.ntmps122
        go_wp2_with (first | (go_at_call 34; (with_reducible refine (IsForm_any a b c _).mono ?_); rintro e v1 ⟨rfl, hB1⟩; have hZ1 := hB1.size; (try simp at hZ1); (try have zl1 : w.heap.size < v1.heap.size := by omega); (try have ze1 : w.heap.size ≤ v1.heap.size := by omega); (try have zn1 : ¬ w.heap.size = v1.heap.size := by omega); (try have zm1 : ¬ v1.heap.size = w.heap.size := by omega); have hC1_0 := fun o => (calm_cells hB1).1 (w.heap.size) o (by first | omega | (simp <;> omega)); have hF1_0 := fun o => (calm_cells hB1).2 (w.heap.size) o (by first | omega | (simp <;> omega)); (try have hl1_0 : w.heap.size < v1.heap.size := by omega); (try have hm1_0 : ¬ w.heap.size = v1.heap.size := by omega); (try have hn1_0 : ¬ v1.heap.size = w.heap.size := by omega)) | (go_at_call 81; (with_reducible refine (idisc_any a b c _ f1 f2 f3).mono ?_); rintro e v2 ⟨rfl, hB2⟩; have hZ2 := hB2.size; (try simp at hZ2); (try have zl2 : w.heap.size < v2.heap.size := by omega); (try have ze2 : w.heap.size ≤ v2.heap.size := by omega); (try have zn2 : ¬ w.heap.size = v2.heap.size := by omega); (try have zm2 : ¬ v2.heap.size = w.heap.size := by omega); have hC2_0 := fun o => (calm_cells hB2).1 (w.heap.size) o (by first | omega | (simp <;> omega)); have hF2_0 := fun o => (calm_cells hB2).2 (w.heap.size) o (by first | omega | (simp <;> omega)); (try have hl2_0 : w.heap.size < v2.heap.size := by omega); (try have hm2_0 : ¬ w.heap.size = v2.heap.size := by omega); (try have hn2_0 : ¬ v2.heap.size = w.heap.size := by omega)))
        go_ret
        exact ⟨ret_bool (by first | (simp; done) | (simp; omega) | (rw [Bool.eq_iff_iff]; simp; omega) | (simp_all; done) | (simp_all; omega)), (by repeat (first | with_reducible exact Below.refl _ _ | with_reducible assumption | with_reducible apply Below.drew | with_reducible apply below_drewN | (with_reducible apply below_setp; (first | omega | (simp <;> omega))) | (with_reducible apply below_allocp; (first | omega | (simp <;> omega))) | (with_reducible refine below_viap (by assumption) ?_ ?_; (first | omega | (simp <;> omega)))))⟩
    · go_enter Tryz.func122, Tryz.ntmps122
      go_wp2_with (first | (go_at_call 34; (with_reducible refine (IsForm_any a b c _).mono ?_); rintro e v1 ⟨rfl, hB1⟩; have hZ1 := hB1.size; (try simp at hZ1); (try have zl1 : w.heap.size < v1.heap.size := by omega); (try have ze1 : w.heap.size ≤ v1.heap.size := by omega); (try have zn1 : ¬ w.heap.size = v1.heap.size := by omega); (try have zm1 : ¬ v1.heap.size = w.heap.size := by omega); have hC1_0 := fun o => (calm_cells hB1).1 (w.heap.size) o (by first | omega | (simp <;> omega)); have hF1_0 := fun o => (calm_cells hB1).2 (w.heap.size) o (by first | omega | (simp <;> omega)); (try have hl1_0 : w.heap.size < v1.heap.size := by omega); (try have hm1_0 : ¬ w.heap.size = v1.heap.size := by omega); (try have hn1_0 : ¬ v1.heap.size = w.heap.size := by omega)) | (go_at_call 81; (with_reducible refine (idisc_any a b c _ f1 f2 f3).mono ?_); rintro e v2 ⟨rfl, hB2⟩; have hZ2 := hB2.size; (try simp at hZ2); (try have zl2 : w.heap.size < v2.heap.size := by omega); (try have ze2 : w.heap.size ≤ v2.heap.size := by omega); (try have zn2 : ¬ w.heap.size = v2.heap.size := by omega); (try have zm2 : ¬ v2.heap.size = w.heap.size := by omega); have hC2_0 := fun o => (calm_cells hB2).1 (w.heap.size) o (by first | omega | (simp <;> omega)); have hF2_0 := fun o => (calm_cells hB2).2 (w.heap.size) o (by first | omega | (simp <;> omega)); (try have hl2_0 : w.heap.size < v2.heap.size := by omega); (try have hm2_0 : ¬ w.heap.size = v2.heap.size := by omega); (try have hn2_0 : ¬ v2.heap.size = w.heap.size := by omega)))
      go_ret
      exact ⟨ret_bool (by first | (simp; done) | (simp; omega) | (rw [Bool.eq_iff_iff]; simp; omega) | (simp_all; done) | (simp_all; omega)), (by repeat (first | with_reducible exact Below.refl _ _ | with_reducible assumption | with_reducible apply Below.drew | with_reducible apply below_drewN | (with_reducible apply below_setp; (first | omega | (simp <;> omega))) | (with_reducible apply below_allocp; (first | omega | (simp <;> omega))) | (with_reducible refine below_viap (by assumption) ?_ ?_; (first | omega | (simp <;> omega)))))⟩

theorem idef_form {a b c : Int} (h : isDefB a b c = true) : isFm a b c = true := by
  unfold isDefB at h; simp only [Bool.and_eq_true] at h; exact h.1

set_option maxHeartbeats 800000 in
theorem ishown_any (a b c : Int) (w : World) :
    Calls Tryz.prog 92 #[.agg #[.int .i64 a, .int .i64 b, .int .i64 c]] w fun e w' => e = .returned (.bool (isShown a b c)) ∧ Below w.heap.size w w' := by
  unfold isShown
  cases hf : isDefB a b c with
  | false =>
    go_enter Tryz.func92, Tryz.ntmps92
    go_wp2_with (go_at_call 122; (with_reducible refine (iisDef_any a b c _).mono ?_); rintro e v1 ⟨rfl, hB1⟩; have hZ1 := hB1.size; (try simp at hZ1); (try have zl1 : w.heap.size < v1.heap.size := by omega); (try have ze1 : w.heap.size ≤ v1.heap.size := by omega); (try have zn1 : ¬ w.heap.size = v1.heap.size := by omega); (try have zm1 : ¬ v1.heap.size = w.heap.size := by omega); have hC1_0 := fun o => (calm_cells hB1).1 (w.heap.size) o (by first | omega | (simp <;> omega)); have hF1_0 := fun o => (calm_cells hB1).2 (w.heap.size) o (by first | omega | (simp <;> omega)); (try have hl1_0 : w.heap.size < v1.heap.size := by omega); (try have hm1_0 : ¬ w.heap.size = v1.heap.size := by omega); (try have hn1_0 : ¬ v1.heap.size = w.heap.size := by omega))
    go_ret
    exact ⟨rfl, (by repeat (first | with_reducible exact Below.refl _ _ | with_reducible assumption | with_reducible apply Below.drew | with_reducible apply below_drewN | (with_reducible apply below_setp; (first | omega | (simp <;> omega))) | (with_reducible apply below_allocp; (first | omega | (simp <;> omega))) | (with_reducible refine below_viap (by assumption) ?_ ?_; (first | omega | (simp <;> omega)))))⟩
  | true =>
    obtain ⟨f1, f2, f3⟩ := fm_prods (idef_form hf)
    obtain ⟨d1, d2⟩ := disc_bd (idef_form hf)
    go_enter Tryz.func92, Tryz.ntmps92
    go_wp2_with (first | (go_at_call 122; (with_reducible refine (iisDef_any a b c _).mono ?_); rintro e v1 ⟨rfl, hB1⟩; have hZ1 := hB1.size; (try simp at hZ1); (try have zl1 : w.heap.size < v1.heap.size := by omega); (try have ze1 : w.heap.size ≤ v1.heap.size := by omega); (try have zn1 : ¬ w.heap.size = v1.heap.size := by omega); (try have zm1 : ¬ v1.heap.size = w.heap.size := by omega); have hC1_0 := fun o => (calm_cells hB1).1 (w.heap.size) o (by first | omega | (simp <;> omega)); have hF1_0 := fun o => (calm_cells hB1).2 (w.heap.size) o (by first | omega | (simp <;> omega)); (try have hl1_0 : w.heap.size < v1.heap.size := by omega); (try have hm1_0 : ¬ w.heap.size = v1.heap.size := by omega); (try have hn1_0 : ¬ v1.heap.size = w.heap.size := by omega)) | (go_at_call 81; (with_reducible refine (idisc_any a b c _ f1 f2 f3).mono ?_); rintro e v2 ⟨rfl, hB2⟩; have hZ2 := hB2.size; (try simp at hZ2); (try have zl2 : w.heap.size < v2.heap.size := by omega); (try have ze2 : w.heap.size ≤ v2.heap.size := by omega); (try have zn2 : ¬ w.heap.size = v2.heap.size := by omega); (try have zm2 : ¬ v2.heap.size = w.heap.size := by omega); have hC2_0 := fun o => (calm_cells hB2).1 (w.heap.size) o (by first | omega | (simp <;> omega)); have hF2_0 := fun o => (calm_cells hB2).2 (w.heap.size) o (by first | omega | (simp <;> omega)); (try have hl2_0 : w.heap.size < v2.heap.size := by omega); (try have hm2_0 : ¬ w.heap.size = v2.heap.size := by omega); (try have hn2_0 : ¬ v2.heap.size = w.heap.size := by omega)))
    go_ret
    exact ⟨ret_bool (by first | (simp; done) | (simp; omega) | (rw [Bool.eq_iff_iff]; simp; omega) | (simp_all; done) | (simp_all; omega)), (by repeat (first | with_reducible exact Below.refl _ _ | with_reducible assumption | with_reducible apply Below.drew | with_reducible apply below_drewN | (with_reducible apply below_setp; (first | omega | (simp <;> omega))) | (with_reducible apply below_allocp; (first | omega | (simp <;> omega))) | (with_reducible refine below_viap (by assumption) ?_ ?_; (first | omega | (simp <;> omega)))))⟩

theorem ishown_form {a b c : Int} (h : isShown a b c = true) : isFm a b c = true := by
  unfold isShown at h; simp only [Bool.and_eq_true] at h; exact idef_form h.1

set_option maxHeartbeats 800000 in
theorem icls_any (a b c : Int) (w : World) :
    Calls Tryz.prog 51 #[.agg #[.int .i64 a, .int .i64 b, .int .i64 c]] w fun e w' => e = .returned (.bool (isCls a b c)) ∧ Below w.heap.size w w' := by
  unfold isCls
  cases hf : isShown a b c with
  | false =>
    go_enter Tryz.func51, Tryz.ntmps51
    go_wp2_with (go_at_call 92; (with_reducible refine (ishown_any a b c _).mono ?_); rintro e v1 ⟨rfl, hB1⟩; have hZ1 := hB1.size; (try simp at hZ1); (try have zl1 : w.heap.size < v1.heap.size := by omega); (try have ze1 : w.heap.size ≤ v1.heap.size := by omega); (try have zn1 : ¬ w.heap.size = v1.heap.size := by omega); (try have zm1 : ¬ v1.heap.size = w.heap.size := by omega); have hC1_0 := fun o => (calm_cells hB1).1 (w.heap.size) o (by first | omega | (simp <;> omega)); have hF1_0 := fun o => (calm_cells hB1).2 (w.heap.size) o (by first | omega | (simp <;> omega)); (try have hl1_0 : w.heap.size < v1.heap.size := by omega); (try have hm1_0 : ¬ w.heap.size = v1.heap.size := by omega); (try have hn1_0 : ¬ v1.heap.size = w.heap.size := by omega))
    go_ret
    exact ⟨rfl, (by repeat (first | with_reducible exact Below.refl _ _ | with_reducible assumption | with_reducible apply Below.drew | with_reducible apply below_drewN | (with_reducible apply below_setp; (first | omega | (simp <;> omega))) | (with_reducible apply below_allocp; (first | omega | (simp <;> omega))) | (with_reducible refine below_viap (by assumption) ?_ ?_; (first | omega | (simp <;> omega)))))⟩
  | true =>
    obtain ⟨⟨a1, a2⟩, ⟨b1, b2⟩, ⟨c1, c2⟩⟩ := isFm_bd (ishown_form hf)
    have fa : Far a := ⟨by omega, by omega⟩
    have fb : Far b := ⟨by omega, by omega⟩
    have fc : Far c := ⟨by omega, by omega⟩
    go_enter Tryz.func51, Tryz.ntmps51
    go_wp2_with (first | (go_at_call 92; (with_reducible refine (ishown_any a b c _).mono ?_); rintro e v1 ⟨rfl, hB1⟩; have hZ1 := hB1.size; (try simp at hZ1); (try have zl1 : w.heap.size < v1.heap.size := by omega); (try have ze1 : w.heap.size ≤ v1.heap.size := by omega); (try have zn1 : ¬ w.heap.size = v1.heap.size := by omega); (try have zm1 : ¬ v1.heap.size = w.heap.size := by omega); have hC1_0 := fun o => (calm_cells hB1).1 (w.heap.size) o (by first | omega | (simp <;> omega)); have hF1_0 := fun o => (calm_cells hB1).2 (w.heap.size) o (by first | omega | (simp <;> omega)); (try have hl1_0 : w.heap.size < v1.heap.size := by omega); (try have hm1_0 : ¬ w.heap.size = v1.heap.size := by omega); (try have hn1_0 : ¬ v1.heap.size = w.heap.size := by omega)) | (go_at_call 93; (with_reducible refine (content_any a b c _ fa fb fc).mono ?_); rintro e v2 ⟨rfl, hB2⟩; have hZ2 := hB2.size; (try simp at hZ2); (try have zl2 : w.heap.size < v2.heap.size := by omega); (try have ze2 : w.heap.size ≤ v2.heap.size := by omega); (try have zn2 : ¬ w.heap.size = v2.heap.size := by omega); (try have zm2 : ¬ v2.heap.size = w.heap.size := by omega); have hC2_0 := fun o => (calm_cells hB2).1 (w.heap.size) o (by first | omega | (simp <;> omega)); have hF2_0 := fun o => (calm_cells hB2).2 (w.heap.size) o (by first | omega | (simp <;> omega)); (try have hl2_0 : w.heap.size < v2.heap.size := by omega); (try have hm2_0 : ¬ w.heap.size = v2.heap.size := by omega); (try have hn2_0 : ¬ v2.heap.size = w.heap.size := by omega)))
    go_ret
    exact ⟨ret_bool (by first | (simp; done) | (simp; omega) | (rw [Bool.eq_iff_iff]; simp; omega) | (simp_all; done) | (simp_all; omega)), (by repeat (first | with_reducible exact Below.refl _ _ | with_reducible assumption | with_reducible apply Below.drew | with_reducible apply below_drewN | (with_reducible apply below_setp; (first | omega | (simp <;> omega))) | (with_reducible apply below_allocp; (first | omega | (simp <;> omega))) | (with_reducible refine below_viap (by assumption) ?_ ?_; (first | omega | (simp <;> omega)))))⟩

set_option maxHeartbeats 400000 in
theorem sdisc_any (a b c : Int) (w : World) (h1 : Far (b * b)) (h2 : Far (4 * a)) (h3 : Far (4 * a * c)) :
    Calls Tryz.prog 78 #[.agg #[.int .i64 a, .int .i64 b, .int .i64 c]] w fun e w' => e = .returned (.int .i64 (disc ⟨a, b, c⟩)) ∧ Below w.heap.size w w' := by
  obtain ⟨h1, k1⟩ := h1; obtain ⟨h2, k2⟩ := h2; obtain ⟨h3, k3⟩ := h3
  go_enter Tryz.func78, Tryz.ntmps78
  go_wp2
  go_ret
  exact ⟨ret_int rfl, (by repeat (first | with_reducible exact Below.refl _ _ | with_reducible assumption | with_reducible apply Below.drew | with_reducible apply below_drewN | (with_reducible apply below_setp; (first | omega | (simp <;> omega))) | (with_reducible apply below_allocp; (first | omega | (simp <;> omega))) | (with_reducible refine below_viap (by assumption) ?_ ?_; (first | omega | (simp <;> omega)))))⟩

set_option maxHeartbeats 800000 in
theorem sisDef_any (a b c : Int) (w : World) :
    Calls Tryz.prog 134 #[.agg #[.int .i64 a, .int .i64 b, .int .i64 c]] w fun e w' => e = .returned (.bool (isDefB a b c)) ∧ Below w.heap.size w w' := by
  unfold isDefB
  cases hf : isFm a b c with
  | false =>
    go_enter Tryz.func134, Tryz.ntmps134
    go_wp2_with (go_at_call 110; (with_reducible refine (foGood_any a b c _).mono ?_); rintro e v1 ⟨rfl, hB1⟩; have hZ1 := hB1.size; (try simp at hZ1); (try have zl1 : w.heap.size < v1.heap.size := by omega); (try have ze1 : w.heap.size ≤ v1.heap.size := by omega); (try have zn1 : ¬ w.heap.size = v1.heap.size := by omega); (try have zm1 : ¬ v1.heap.size = w.heap.size := by omega); have hC1_0 := fun o => (calm_cells hB1).1 (w.heap.size) o (by first | omega | (simp <;> omega)); have hF1_0 := fun o => (calm_cells hB1).2 (w.heap.size) o (by first | omega | (simp <;> omega)); (try have hl1_0 : w.heap.size < v1.heap.size := by omega); (try have hm1_0 : ¬ w.heap.size = v1.heap.size := by omega); (try have hn1_0 : ¬ v1.heap.size = w.heap.size := by omega))
    go_ret
    exact ⟨rfl, (by repeat (first | with_reducible exact Below.refl _ _ | with_reducible assumption | with_reducible apply Below.drew | with_reducible apply below_drewN | (with_reducible apply below_setp; (first | omega | (simp <;> omega))) | (with_reducible apply below_allocp; (first | omega | (simp <;> omega))) | (with_reducible refine below_viap (by assumption) ?_ ?_; (first | omega | (simp <;> omega)))))⟩
  | true =>
    obtain ⟨f1, f2, f3⟩ := fm_prods hf
    obtain ⟨d1, d2⟩ := disc_bd hf
    by_cases h1 : disc ⟨a, b, c⟩ < 0
    · by_cases h2 : 0 < a
      · go_enter Tryz.func134, Tryz.ntmps134
        go_wp2_with (first | (go_at_call 110; (with_reducible refine (foGood_any a b c _).mono ?_); rintro e v1 ⟨rfl, hB1⟩; have hZ1 := hB1.size; (try simp at hZ1); (try have zl1 : w.heap.size < v1.heap.size := by omega); (try have ze1 : w.heap.size ≤ v1.heap.size := by omega); (try have zn1 : ¬ w.heap.size = v1.heap.size := by omega); (try have zm1 : ¬ v1.heap.size = w.heap.size := by omega); have hC1_0 := fun o => (calm_cells hB1).1 (w.heap.size) o (by first | omega | (simp <;> omega)); have hF1_0 := fun o => (calm_cells hB1).2 (w.heap.size) o (by first | omega | (simp <;> omega)); (try have hl1_0 : w.heap.size < v1.heap.size := by omega); (try have hm1_0 : ¬ w.heap.size = v1.heap.size := by omega); (try have hn1_0 : ¬ v1.heap.size = w.heap.size := by omega)) | (go_at_call 78; (with_reducible refine (sdisc_any a b c _ f1 f2 f3).mono ?_); rintro e v2 ⟨rfl, hB2⟩; have hZ2 := hB2.size; (try simp at hZ2); (try have zl2 : w.heap.size < v2.heap.size := by omega); (try have ze2 : w.heap.size ≤ v2.heap.size := by omega); (try have zn2 : ¬ w.heap.size = v2.heap.size := by omega); (try have zm2 : ¬ v2.heap.size = w.heap.size := by omega); have hC2_0 := fun o => (calm_cells hB2).1 (w.heap.size) o (by first | omega | (simp <;> omega)); have hF2_0 := fun o => (calm_cells hB2).2 (w.heap.size) o (by first | omega | (simp <;> omega)); (try have hl2_0 : w.heap.size < v2.heap.size := by omega); (try have hm2_0 : ¬ w.heap.size = v2.heap.size := by omega); (try have hn2_0 : ¬ v2.heap.size = w.heap.size := by omega)))
        go_ret
        exact ⟨ret_bool (by first | (simp; done) | (simp; omega) | (rw [Bool.eq_iff_iff]; simp; omega) | (simp_all; done) | (simp_all; omega)), (by repeat (first | with_reducible exact Below.refl _ _ | with_reducible assumption | with_reducible apply Below.drew | with_reducible apply below_drewN | (with_reducible apply below_setp; (first | omega | (simp <;> omega))) | (with_reducible apply below_allocp; (first | omega | (simp <;> omega))) | (with_reducible refine below_viap (by assumption) ?_ ?_; (first | omega | (simp <;> omega)))))⟩
      · go_enter Tryz.func134, Tryz.ntmps134
        go_wp2_with (first | (go_at_call 110; (with_reducible refine (foGood_any a b c _).mono ?_); rintro e v1 ⟨rfl, hB1⟩; have hZ1 := hB1.size; (try simp at hZ1); (try have zl1 : w.heap.size < v1.heap.size := by omega); (try have ze1 : w.heap.size ≤ v1.heap.size := by omega); (try have zn1 : ¬ w.heap.size = v1.heap.size := by omega); (try have zm1 : ¬ v1.heap.size = w.heap.size := by omega); have hC1_0 := fun o => (calm_cells hB1).1 (w.heap.size) o (by first | omega | (simp <;> omega)); have hF1_0 := fun o => (calm_cells hB1).2 (w.heap.size) o (by first | omega | (simp <;> omega)); (try have hl1_0 : w.heap.size < v1.heap.size := by omega); (try have hm1_0 : ¬ w.heap.size = v1.heap.size := by omega); (try have hn1_0 : ¬ v1.heap.size = w.heap.size := by omega)) | (go_at_call 78; (with_reducible refine (sdisc_any a b c _ f1 f2 f3).mono ?_); rintro e v2 ⟨rfl, hB2⟩; have hZ2 := hB2.size; (try simp at hZ2); (try have zl2 : w.heap.size < v2.heap.size := by omega); (try have ze2 : w.heap.size ≤ v2.heap.size := by omega); (try have zn2 : ¬ w.heap.size = v2.heap.size := by omega); (try have zm2 : ¬ v2.heap.size = w.heap.size := by omega); have hC2_0 := fun o => (calm_cells hB2).1 (w.heap.size) o (by first | omega | (simp <;> omega)); have hF2_0 := fun o => (calm_cells hB2).2 (w.heap.size) o (by first | omega | (simp <;> omega)); (try have hl2_0 : w.heap.size < v2.heap.size := by omega); (try have hm2_0 : ¬ w.heap.size = v2.heap.size := by omega); (try have hn2_0 : ¬ v2.heap.size = w.heap.size := by omega)))
        go_ret
        exact ⟨ret_bool (by first | (simp; done) | (simp; omega) | (rw [Bool.eq_iff_iff]; simp; omega) | (simp_all; done) | (simp_all; omega)), (by repeat (first | with_reducible exact Below.refl _ _ | with_reducible assumption | with_reducible apply Below.drew | with_reducible apply below_drewN | (with_reducible apply below_setp; (first | omega | (simp <;> omega))) | (with_reducible apply below_allocp; (first | omega | (simp <;> omega))) | (with_reducible refine below_viap (by assumption) ?_ ?_; (first | omega | (simp <;> omega)))))⟩
    · go_enter Tryz.func134, Tryz.ntmps134
      go_wp2_with (first | (go_at_call 110; (with_reducible refine (foGood_any a b c _).mono ?_); rintro e v1 ⟨rfl, hB1⟩; have hZ1 := hB1.size; (try simp at hZ1); (try have zl1 : w.heap.size < v1.heap.size := by omega); (try have ze1 : w.heap.size ≤ v1.heap.size := by omega); (try have zn1 : ¬ w.heap.size = v1.heap.size := by omega); (try have zm1 : ¬ v1.heap.size = w.heap.size := by omega); have hC1_0 := fun o => (calm_cells hB1).1 (w.heap.size) o (by first | omega | (simp <;> omega)); have hF1_0 := fun o => (calm_cells hB1).2 (w.heap.size) o (by first | omega | (simp <;> omega)); (try have hl1_0 : w.heap.size < v1.heap.size := by omega); (try have hm1_0 : ¬ w.heap.size = v1.heap.size := by omega); (try have hn1_0 : ¬ v1.heap.size = w.heap.size := by omega)) | (go_at_call 78; (with_reducible refine (sdisc_any a b c _ f1 f2 f3).mono ?_); rintro e v2 ⟨rfl, hB2⟩; have hZ2 := hB2.size; (try simp at hZ2); (try have zl2 : w.heap.size < v2.heap.size := by omega); (try have ze2 : w.heap.size ≤ v2.heap.size := by omega); (try have zn2 : ¬ w.heap.size = v2.heap.size := by omega); (try have zm2 : ¬ v2.heap.size = w.heap.size := by omega); have hC2_0 := fun o => (calm_cells hB2).1 (w.heap.size) o (by first | omega | (simp <;> omega)); have hF2_0 := fun o => (calm_cells hB2).2 (w.heap.size) o (by first | omega | (simp <;> omega)); (try have hl2_0 : w.heap.size < v2.heap.size := by omega); (try have hm2_0 : ¬ w.heap.size = v2.heap.size := by omega); (try have hn2_0 : ¬ v2.heap.size = w.heap.size := by omega)))
      go_ret
      exact ⟨ret_bool (by first | (simp; done) | (simp; omega) | (rw [Bool.eq_iff_iff]; simp; omega) | (simp_all; done) | (simp_all; omega)), (by repeat (first | with_reducible exact Below.refl _ _ | with_reducible assumption | with_reducible apply Below.drew | with_reducible apply below_drewN | (with_reducible apply below_setp; (first | omega | (simp <;> omega))) | (with_reducible apply below_allocp; (first | omega | (simp <;> omega))) | (with_reducible refine below_viap (by assumption) ?_ ?_; (first | omega | (simp <;> omega)))))⟩

theorem sdef_form {a b c : Int} (h : isDefB a b c = true) : isFm a b c = true := by
  unfold isDefB at h; simp only [Bool.and_eq_true] at h; exact h.1

set_option maxHeartbeats 800000 in
theorem sshown_any (a b c : Int) (w : World) :
    Calls Tryz.prog 107 #[.agg #[.int .i64 a, .int .i64 b, .int .i64 c]] w fun e w' => e = .returned (.bool (isShown a b c)) ∧ Below w.heap.size w w' := by
  unfold isShown
  cases hf : isDefB a b c with
  | false =>
    go_enter Tryz.func107, Tryz.ntmps107
    go_wp2_with (go_at_call 134; (with_reducible refine (sisDef_any a b c _).mono ?_); rintro e v1 ⟨rfl, hB1⟩; have hZ1 := hB1.size; (try simp at hZ1); (try have zl1 : w.heap.size < v1.heap.size := by omega); (try have ze1 : w.heap.size ≤ v1.heap.size := by omega); (try have zn1 : ¬ w.heap.size = v1.heap.size := by omega); (try have zm1 : ¬ v1.heap.size = w.heap.size := by omega); have hC1_0 := fun o => (calm_cells hB1).1 (w.heap.size) o (by first | omega | (simp <;> omega)); have hF1_0 := fun o => (calm_cells hB1).2 (w.heap.size) o (by first | omega | (simp <;> omega)); (try have hl1_0 : w.heap.size < v1.heap.size := by omega); (try have hm1_0 : ¬ w.heap.size = v1.heap.size := by omega); (try have hn1_0 : ¬ v1.heap.size = w.heap.size := by omega))
    go_ret
    exact ⟨rfl, (by repeat (first | with_reducible exact Below.refl _ _ | with_reducible assumption | with_reducible apply Below.drew | with_reducible apply below_drewN | (with_reducible apply below_setp; (first | omega | (simp <;> omega))) | (with_reducible apply below_allocp; (first | omega | (simp <;> omega))) | (with_reducible refine below_viap (by assumption) ?_ ?_; (first | omega | (simp <;> omega)))))⟩
  | true =>
    obtain ⟨f1, f2, f3⟩ := fm_prods (sdef_form hf)
    obtain ⟨d1, d2⟩ := disc_bd (sdef_form hf)
    go_enter Tryz.func107, Tryz.ntmps107
    go_wp2_with (first | (go_at_call 134; (with_reducible refine (sisDef_any a b c _).mono ?_); rintro e v1 ⟨rfl, hB1⟩; have hZ1 := hB1.size; (try simp at hZ1); (try have zl1 : w.heap.size < v1.heap.size := by omega); (try have ze1 : w.heap.size ≤ v1.heap.size := by omega); (try have zn1 : ¬ w.heap.size = v1.heap.size := by omega); (try have zm1 : ¬ v1.heap.size = w.heap.size := by omega); have hC1_0 := fun o => (calm_cells hB1).1 (w.heap.size) o (by first | omega | (simp <;> omega)); have hF1_0 := fun o => (calm_cells hB1).2 (w.heap.size) o (by first | omega | (simp <;> omega)); (try have hl1_0 : w.heap.size < v1.heap.size := by omega); (try have hm1_0 : ¬ w.heap.size = v1.heap.size := by omega); (try have hn1_0 : ¬ v1.heap.size = w.heap.size := by omega)) | (go_at_call 78; (with_reducible refine (sdisc_any a b c _ f1 f2 f3).mono ?_); rintro e v2 ⟨rfl, hB2⟩; have hZ2 := hB2.size; (try simp at hZ2); (try have zl2 : w.heap.size < v2.heap.size := by omega); (try have ze2 : w.heap.size ≤ v2.heap.size := by omega); (try have zn2 : ¬ w.heap.size = v2.heap.size := by omega); (try have zm2 : ¬ v2.heap.size = w.heap.size := by omega); have hC2_0 := fun o => (calm_cells hB2).1 (w.heap.size) o (by first | omega | (simp <;> omega)); have hF2_0 := fun o => (calm_cells hB2).2 (w.heap.size) o (by first | omega | (simp <;> omega)); (try have hl2_0 : w.heap.size < v2.heap.size := by omega); (try have hm2_0 : ¬ w.heap.size = v2.heap.size := by omega); (try have hn2_0 : ¬ v2.heap.size = w.heap.size := by omega)))
    go_ret
    exact ⟨ret_bool (by first | (simp; done) | (simp; omega) | (rw [Bool.eq_iff_iff]; simp; omega) | (simp_all; done) | (simp_all; omega)), (by repeat (first | with_reducible exact Below.refl _ _ | with_reducible assumption | with_reducible apply Below.drew | with_reducible apply below_drewN | (with_reducible apply below_setp; (first | omega | (simp <;> omega))) | (with_reducible apply below_allocp; (first | omega | (simp <;> omega))) | (with_reducible refine below_viap (by assumption) ?_ ?_; (first | omega | (simp <;> omega)))))⟩

theorem sshown_form {a b c : Int} (h : isShown a b c = true) : isFm a b c = true := by
  unfold isShown at h; simp only [Bool.and_eq_true] at h; exact sdef_form h.1

set_option maxHeartbeats 800000 in
theorem scls_any (a b c : Int) (w : World) :
    Calls Tryz.prog 77 #[.agg #[.int .i64 a, .int .i64 b, .int .i64 c]] w fun e w' => e = .returned (.bool (isCls a b c)) ∧ Below w.heap.size w w' := by
  unfold isCls
  cases hf : isShown a b c with
  | false =>
    go_enter Tryz.func77, Tryz.ntmps77
    go_wp2_with (go_at_call 107; (with_reducible refine (sshown_any a b c _).mono ?_); rintro e v1 ⟨rfl, hB1⟩; have hZ1 := hB1.size; (try simp at hZ1); (try have zl1 : w.heap.size < v1.heap.size := by omega); (try have ze1 : w.heap.size ≤ v1.heap.size := by omega); (try have zn1 : ¬ w.heap.size = v1.heap.size := by omega); (try have zm1 : ¬ v1.heap.size = w.heap.size := by omega); have hC1_0 := fun o => (calm_cells hB1).1 (w.heap.size) o (by first | omega | (simp <;> omega)); have hF1_0 := fun o => (calm_cells hB1).2 (w.heap.size) o (by first | omega | (simp <;> omega)); (try have hl1_0 : w.heap.size < v1.heap.size := by omega); (try have hm1_0 : ¬ w.heap.size = v1.heap.size := by omega); (try have hn1_0 : ¬ v1.heap.size = w.heap.size := by omega))
    go_ret
    exact ⟨rfl, (by repeat (first | with_reducible exact Below.refl _ _ | with_reducible assumption | with_reducible apply Below.drew | with_reducible apply below_drewN | (with_reducible apply below_setp; (first | omega | (simp <;> omega))) | (with_reducible apply below_allocp; (first | omega | (simp <;> omega))) | (with_reducible refine below_viap (by assumption) ?_ ?_; (first | omega | (simp <;> omega)))))⟩
  | true =>
    obtain ⟨⟨a1, a2⟩, ⟨b1, b2⟩, ⟨c1, c2⟩⟩ := isFm_bd (sshown_form hf)
    have fa : Far a := ⟨by omega, by omega⟩
    have fb : Far b := ⟨by omega, by omega⟩
    have fc : Far c := ⟨by omega, by omega⟩
    go_enter Tryz.func77, Tryz.ntmps77
    go_wp2_with (first | (go_at_call 107; (with_reducible refine (sshown_any a b c _).mono ?_); rintro e v1 ⟨rfl, hB1⟩; have hZ1 := hB1.size; (try simp at hZ1); (try have zl1 : w.heap.size < v1.heap.size := by omega); (try have ze1 : w.heap.size ≤ v1.heap.size := by omega); (try have zn1 : ¬ w.heap.size = v1.heap.size := by omega); (try have zm1 : ¬ v1.heap.size = w.heap.size := by omega); have hC1_0 := fun o => (calm_cells hB1).1 (w.heap.size) o (by first | omega | (simp <;> omega)); have hF1_0 := fun o => (calm_cells hB1).2 (w.heap.size) o (by first | omega | (simp <;> omega)); (try have hl1_0 : w.heap.size < v1.heap.size := by omega); (try have hm1_0 : ¬ w.heap.size = v1.heap.size := by omega); (try have hn1_0 : ¬ v1.heap.size = w.heap.size := by omega)) | (go_at_call 108; (with_reducible refine (foContent_any a b c _ fa fb fc).mono ?_); rintro e v2 ⟨rfl, hB2⟩; have hZ2 := hB2.size; (try simp at hZ2); (try have zl2 : w.heap.size < v2.heap.size := by omega); (try have ze2 : w.heap.size ≤ v2.heap.size := by omega); (try have zn2 : ¬ w.heap.size = v2.heap.size := by omega); (try have zm2 : ¬ v2.heap.size = w.heap.size := by omega); have hC2_0 := fun o => (calm_cells hB2).1 (w.heap.size) o (by first | omega | (simp <;> omega)); have hF2_0 := fun o => (calm_cells hB2).2 (w.heap.size) o (by first | omega | (simp <;> omega)); (try have hl2_0 : w.heap.size < v2.heap.size := by omega); (try have hm2_0 : ¬ w.heap.size = v2.heap.size := by omega); (try have hn2_0 : ¬ v2.heap.size = w.heap.size := by omega)))
    go_ret
    exact ⟨ret_bool (by first | (simp; done) | (simp; omega) | (rw [Bool.eq_iff_iff]; simp; omega) | (simp_all; done) | (simp_all; omega)), (by repeat (first | with_reducible exact Below.refl _ _ | with_reducible assumption | with_reducible apply Below.drew | with_reducible apply below_drewN | (with_reducible apply below_setp; (first | omega | (simp <;> omega))) | (with_reducible apply below_allocp; (first | omega | (simp <;> omega))) | (with_reducible refine below_viap (by assumption) ?_ ?_; (first | omega | (simp <;> omega)))))⟩

/-- A class form is definite within the bounds. -/
theorem cls_def {a b c : Int} (h : isCls a b c = true) : Def M0 ⟨a, b, c⟩ ∧ (-2000 ≤ disc ⟨a, b, c⟩ ∧ disc ⟨a, b, c⟩ < 0) ∧ Int.gcd a (Int.gcd b c) = 1 := by
  unfold isCls isShown isDefB at h
  simp only [Bool.and_eq_true, decide_eq_true_eq] at h
  obtain ⟨⟨⟨hf, h1, h2⟩, h3⟩, h4⟩ := h
  obtain ⟨⟨a1, a2⟩, ⟨b1, b2⟩, ⟨c1, c2⟩⟩ := isFm_bd hf
  have hd : b * b < 4 * (a * c) := by rw [← disc_eq, Int.mul_assoc] at h1; omega
  unfold M0
  exact ⟨⟨h2, by show a ≤ _; omega, c_of_disc h2 hd, by show c ≤ _; omega, hd⟩, ⟨h3, h1⟩, h4⟩
end

section
open Go.RowKit

end

section
open Go Go.RowKit

def cellsF (L : List Fm) : List Value := L.flatMap fun f => [.int .i64 f.a, .int .i64 f.b, .int .i64 f.c]
theorem cellsF_append (L K : List Fm) : cellsF (L ++ K) = cellsF L ++ cellsF K := by simp [cellsF]
theorem cellsF_get : ∀ (L : List Fm) (i : Nat) (h : i < L.length), (cellsF L)[3 * i]? = some (.int .i64 L[i].a) ∧ (cellsF L)[3 * i + 1]? = some (.int .i64 L[i].b) ∧ (cellsF L)[3 * i + 2]? = some (.int .i64 L[i].c)
  | f :: L, 0, _ => by simp [cellsF]
  | f :: L, i + 1, h => by
    have ih := cellsF_get L i (by simpa using h)
    have e : cellsF (f :: L) = .int .i64 f.a :: .int .i64 f.b :: .int .i64 f.c :: cellsF L := by simp [cellsF]
    rw [e, show 3 * (i + 1) = 3 * i + 3 by omega]
    simpa using ih

section
variable {w w' : World} {B : Nat} {e : TypeId} {sz : Nat} {v : Value} {n : Nat} {xs : List Value}
theorem own_call (hb : Below w.heap.size w w') (h : w.ownsRow B e sz v n xs) : w'.ownsRow B e sz v n xs := by
  refine ⟨h.1, ?_⟩
  rcases h.2 with hn | ⟨g, cap, cur, hv, hg, hh, r⟩
  · exact .inl hn
  · exact .inr ⟨g, cap, cur, hv, hg, (hb.block g (Array.getElem?_eq_some_iff.1 hh).1).trans hh, r⟩
theorem own_alloc {o : Obj} (h : w.ownsRow B e sz v n xs) : (w.alloc o).ownsRow B e sz v n xs := h.alloc o
theorem own_drew (h : w.ownsRow B e sz v n xs) : w.drew.ownsRow B e sz v n xs := h
theorem own_drewN {k : Nat} (h : w.ownsRow B e sz v n xs) : (w.drewN k).ownsRow B e sz v n xs := h
theorem own_setp {N : Nat} {p : Addr} {u : Value} (hk : ∀ k, v.ownBlock = some k → k < N) (hp : N ≤ p.block) (h : w.ownsRow B e sz v n xs) : (w.setCell p u).ownsRow B e sz v n xs := by
  refine ⟨h.1, ?_⟩
  rcases h.2 with hn | ⟨g, cap, cur, hv, hg, hh, r⟩
  · exact .inl hn
  · refine .inr ⟨g, cap, cur, hv, hg, ?_, r⟩
    have := hk g (by rw [hv]; rfl)
    rw [Below.heap_setCell _ _ _ _ (by omega)]
    exact hh
theorem own_ge (h : w.ownsRow B e sz v n xs) : ∀ k, v.ownBlock = some k → B ≤ k := fun k hk => (h.lt k hk).1
theorem own_empty (hB : B ≤ w.heap.size) : (w.alloc (.cells #[] e)).ownsRow B e sz (.slice (some ⟨w.heap.size, 0, none⟩) 0 0) 0 [] :=
  World.ownsRow_made w #[] 0 hB (by unfold maxLen; omega) (by simp)
/-- The cells of three values that lie at the beginning of a new block. -/
theorem cells3 {g : Nat} {x y z : Value} {t : TypeId} (h : Blk w g t #[x, y, z]) : ∀ j u, [x, y, z][j]? = some u → w.cell? ((⟨g, 0, none⟩ : Addr).add j) = some u := by
  intro j u hu
  have e : (⟨g, 0, none⟩ : Addr).add j = ⟨g, j, none⟩ := by unfold Addr.add; split <;> simp_all
  rw [e, h.cell j]
  simpa using hu
theorem cells1 {g : Nat} {x : Value} {t : TypeId} (h : Blk w g t #[x]) : ∀ j u, [x][j]? = some u → w.cell? ((⟨g, 0, none⟩ : Addr).add j) = some u := by
  intro j u hu
  have e : (⟨g, 0, none⟩ : Addr).add j = ⟨g, j, none⟩ := by unfold Addr.add; split <;> simp_all
  rw [e, h.cell j]
  simpa using hu
theorem below_grown {a : World} {row : Option Nat} (hr : ∀ k, row = some k → B ≤ k) (hB : B ≤ w.heap.size) (hg : w.grownBy w' row) (h : Below B a w) : Below B a w' := h.grown hg hB hr
end
theorem own_snoc {w : World} {B : Nat} {e : TypeId} {v : Value} {L K : List Fm} {f : Fm} (hx : K = L ++ [f]) (h : w.ownsRow B e 3 v (L.length + 1) (cellsF L ++ [.int .i64 f.a, .int .i64 f.b, .int .i64 f.c])) :
    w.ownsRow B e 3 v K.length (cellsF K) := by
  subst hx
  rw [List.length_append, cellsF_append]
  exact h
theorem one3 (x y z : Int) : ∀ u ∈ ([.int .i64 x, .int .i64 y, .int .i64 z] : List Value), u.oneCell' = true := by
  intro u hu; simp at hu; rcases hu with rfl | rfl | rfl <;> rfl
theorem one1 (x : Int) : ∀ u ∈ ([.int .i64 x] : List Value), u.oneCell' = true := by
  intro u hu; simp at hu; subst hu; rfl
end
end Go.Proofs.YtlcegkafagdcjaaGreatDoor
