/- Contracts: filters over lists that a call has given. (gen_G4.py wrote this.) -/
import Derived.Test.YtifkmjmhhklkjaaG3
import Derived.Test.YtifkmjmhhklkjaaS1
import Derived.Maps.AppendAt
namespace Go.Proofs.Ytifkmjmhhklkjaa
open Go.RowKit

theorem allR_small {d : Int} (hd : -2000 ≤ d) : Small (allR d) := by
  intro f hf
  obtain ⟨h1, h2, _, h4, h5, h6, h7⟩ := mem_allR hd hf
  have h8 := (isRed_iff _ _ _).1 h4
  exact ⟨⟨by omega, by omega⟩, ⟨by omega, by omega⟩, ⟨by omega, by omega⟩⟩
theorem small_filter {L : List Fm} {p : Fm → Bool} (h : Small L) : Small (L.filter p) := fun f hf => h f (List.mem_filter.1 hf).1

section
variable {w w' : World} {B : Nat} {e : TypeId} {sz : Nat} {v vl : Value} {n : Nat} {xs : List Value}
theorem own_shape (h : w.ownsRow B e sz v n xs) : ∃ base cap, v = .slice base n cap := by
  rcases h.2 with ⟨rfl, rfl⟩ | ⟨g, cap, cur, rfl, _⟩
  · exact ⟨_, _, rfl⟩
  · exact ⟨_, _, rfl⟩
def Apart (v vl : Value) : Prop := vl.ownBlock = none ∨ vl.ownBlock ≠ v.ownBlock
theorem apart_nil : Apart (.slice none 0 0) vl := by
  unfold Apart
  cases h : vl.ownBlock with
  | none => exact .inl rfl
  | some b => exact .inr (by simp [Value.ownBlock])
theorem apart_below {g m c : Nat} (h : w.ownsRow B e sz vl n xs) (hg : g < B) : Apart (.slice (some ⟨g, 0, none⟩) m c) vl := by
  unfold Apart
  cases h2 : vl.ownBlock with
  | none => exact .inl rfl
  | some b =>
    have := (h.lt b h2).1
    exact .inr (by simp [Value.ownBlock]; omega)
theorem apart_next {v' : Value} {N : Nat} (ha : Apart v vl) (h : w.ownsRow B e sz vl n xs) (hN : w.heap.size ≤ N) (hloc : v'.ownBlock = v.ownBlock ∨ v'.ownBlock = some N) : Apart v' vl := by
  unfold Apart at *
  rcases ha with ha | ha
  · exact .inl ha
  · rcases hloc with e | e
    · rw [e]; exact .inr ha
    · cases h2 : vl.ownBlock with
      | none => exact .inl rfl
      | some b =>
        have := (h.lt b h2).2
        rw [e]
        exact .inr (by simp; omega)
end
/-- The element k of an owned list of forms. -/
theorem own_elem {w : World} {B : Nat} {e : TypeId} {base : Option Addr} {n cap : Nat} {L : List Fm} (h : w.ownsRow B e 3 (.slice base n cap) L.length (cellsF L)) {k : Nat} (hk : k < L.length) :
    ∃ g, base = some ⟨g, 0, none⟩ ∧ g < w.heap.size ∧ w.cell? ⟨g, k * 3, none⟩ = some (.int .i64 L[k].a) ∧ w.cell? ⟨g, k * 3 + 1, none⟩ = some (.int .i64 L[k].b) ∧ w.cell? ⟨g, k * 3 + 2, none⟩ = some (.int .i64 L[k].c) := by
  rcases own_form h with ⟨hv, h0⟩ | ⟨g, c, hv, h1, h2, h3⟩
  · omega
  · injection hv with e1 e2 e3
    exact ⟨g, e1, h2, own_cells h3 hk⟩

theorem own_base {w : World} {B B' : Nat} {e : TypeId} {sz n : Nat} {v : Value} {xs : List Value} (hB : B' ≤ B) (h : w.ownsRow B e sz v n xs) : w.ownsRow B' e sz v n xs := by
  refine ⟨h.1, ?_⟩
  rcases h.2 with hn | ⟨g, cap, cur, hv, hg, r⟩
  · exact .inl hn
  · exact .inr ⟨g, cap, cur, hv, Nat.le_trans hB hg, r⟩
def ambB (f : Fm) : Bool := isAmb f.a f.b f.c

/-- The state of a loop that filters a list of its own. -/
def FlkSt (p : Fm → Bool) (L : List Fm) (B : Nat) (vl : Value) (w : World) (v vi : Value) (wr : World) : Prop :=
  ∃ k : Nat, vi = .int .i64 k ∧ k ≤ L.length ∧ wr.ownsRow w.heap.size 23 3 v ((L.take k).filter p).length (cellsF ((L.take k).filter p)) ∧ wr.ownsRow B 23 3 vl L.length (cellsF L) ∧ Apart v vl ∧ Below w.heap.size w wr

set_option maxRecDepth 100000 in
set_option maxHeartbeats 1600000 in
theorem reList_any (d : Int) (w : World) (hd1 : -2000 ≤ d) (hd2 : d ≤ -3) :
    Calls Try.prog 78 #[.int .i64 d] w (RetF (clsL d) w) := by
  obtain ⟨i0, hi, hz0, hz1, hz2⟩ := info_parts infoForm
  have hsm := allR_small hd1
  have hl : (allR d).length ≤ 100000 := Nat.le_trans (allR_len d) (by decide)
  have Hs := Lib.hid hsm
  have Hr := reAll_any d
  have hcl : clsL d = (allR d).filter primB := rfl
  rw [hcl]
  clear hsm hcl
  generalize allR d = L at *
  go_enter Try.func78, Try.ntmps78
  go_wp2_with (go_at_call 108; refine (Hr _ hd1 hd2).mono ?_; rintro e w1 ⟨vl, rfl, howl, hb1⟩; obtain ⟨base, cap, rfl⟩ := own_shape howl)
  obtain ⟨B, hB⟩ : ∃ B : Nat, B = w.heap.size := ⟨_, rfl⟩
  rw [← hB] at howl
  have hz1' := hb1.size
  go_loopw [3, 9] (fun v i wr => FlkSt primB L B (.slice base L.length cap) w v i wr) (fun _ i _ => L.length - (intOf i).toNat)
  case atStart => exact ⟨0, rfl, Nat.zero_le _, World.ownsRow_nil _ _ _ _, howl, apart_nil, (by repeat (first | with_reducible exact Below.refl _ _ | with_reducible assumption | with_reducible apply Below.drew | with_reducible apply below_drewN | (with_reducible apply below_setp; (first | omega | (simp <;> omega))) | (with_reducible apply below_allocp; (first | omega | (simp <;> omega))) | (with_reducible refine below_viap (by assumption) ?_ ?_; (first | omega | (simp <;> omega)))))⟩
  case round =>
    clear howl hb1 hz1'
    obtain ⟨k, rfl, hk, hown, howl, hap, hbel⟩ := hrel
    by_cases hlt : k < L.length
    · obtain ⟨g, rfl, hg2, d1, d2, d3⟩ := own_elem howl hlt
      obtain ⟨⟨a1, a2⟩, ⟨b1, b2⟩, ⟨q1, q2⟩⟩ := Hs.out L[k] (List.getElem_mem hlt)
      have hft := filter_take (p := primB) hlt
      generalize L[k] = f at d1 d2 d3 a1 a2 b1 b2 q1 q2 hft
      have Hft := Lib.hid hft
      clear hft
      have fa : Far f.a := ⟨by omega, by omega⟩
      have fb : Far f.b := ⟨by omega, by omega⟩
      have fc : Far f.c := ⟨by omega, by omega⟩
      have hz := hbel.size
      have hlf := filter_len (p := primB) L k hl
      by_cases hp : primB f = true
      · have hx := Lib.hid (Hft.out.trans (by rw [if_pos hp]))
        have hcn : ((Int.gcd f.a (Int.gcd f.b f.c) : Int) == 1) = true := by have := of_decide_eq_true hp; rw [this]; rfl
        go_wp2_with (first
          | (go_at_call 93; (with_reducible refine (foContent_any f.a f.b f.c _ fa fb fc).mono ?_); rintro e v1 ⟨rfl, hB1⟩; have hZ1 := hB1.size; (try simp at hZ1); (try have zl1 : w.heap.size < v1.heap.size := by omega); (try have ze1 : w.heap.size ≤ v1.heap.size := by omega); (try have zn1 : ¬ w.heap.size = v1.heap.size := by omega); (try have zm1 : ¬ v1.heap.size = w.heap.size := by omega); have hC1_0 := fun o => (calm_cells hB1).1 (wr.heap.size) o (by first | omega | (simp <;> omega)); have hF1_0 := fun o => (calm_cells hB1).2 (wr.heap.size) o (by first | omega | (simp <;> omega)); (try have hl1_0 : wr.heap.size < v1.heap.size := by omega); (try have hm1_0 : ¬ wr.heap.size = v1.heap.size := by omega); (try have hn1_0 : ¬ v1.heap.size = wr.heap.size := by omega))
          | (at_builtin; refine wpList_append_own_at _ rfl (.tmp 16) (.tmp 18) 51 rfl w.heap.size 23 i0 _ 3 24 Try.underlying51 hi hz0 hz1 hz2 rfl (by decide) u3 ((L.take k).filter primB).length (cellsF ((L.take k).filter primB)) rfl ?_ ⟨v1.heap.size, 0, none⟩ 1 1 [.int .i64 f.a, .int .i64 f.b, .int .i64 f.c] rfl rfl ?_ (one3 _ _ _) ?_ ?_ ?_ ?_; exact (by repeat (first | with_reducible assumption | with_reducible apply own_alloc | with_reducible apply own_drew | with_reducible apply own_drewN | (with_reducible refine own_setp (by assumption) ?_ ?_; (first | omega | (simp <;> omega))) | (with_reducible refine own_call (by assumption) ?_))); exact cells3 (Blk.new _ _ _); (unfold maxLen; omega); omega; (simp; omega); intro v2 w2 hown2 hg2 _ hloc))
        have hb2 : Below w.heap.size w w2 := below_grown (own_ge hown) (by simp; omega) hg2 (by repeat (first | with_reducible exact Below.refl _ _ | with_reducible assumption | with_reducible apply Below.drew | with_reducible apply below_drewN | (with_reducible apply below_setp; (first | omega | (simp <;> omega))) | (with_reducible apply below_allocp; (first | omega | (simp <;> omega))) | (with_reducible refine below_viap (by assumption) ?_ ?_; (first | omega | (simp <;> omega)))))
        have ho2 := own_snoc hx.out hown2
        have hol1 : (v1.alloc (Obj.cells #[Value.int IntKind.i64 f.a, Value.int IntKind.i64 f.b, Value.int IntKind.i64 f.c] 23)).ownsRow B 23 3 (.slice (some ⟨g, 0, none⟩) L.length cap) L.length (cellsF L) := (by repeat (first | with_reducible assumption | with_reducible apply own_alloc | with_reducible apply own_drew | with_reducible apply own_drewN | (with_reducible refine own_setp (by assumption) ?_ ?_; (first | omega | (simp <;> omega))) | (with_reducible refine own_call (by assumption) ?_)))
        have hol2 := hol1.kept hg2 hap
        have hap2 := apart_next hap hol1 (Nat.le_refl _) hloc
        clear hg2 hown2 hown hbel howl hap hol1 hloc
        go_wp2
        go_roundw
        case rel => exact ⟨k + 1, rfl, hlt, ho2, hol2, hap2, hb2⟩
        case measure => simp [intOf]; omega
      · have hx := Lib.hid (Hft.out.trans (by rw [if_neg hp, List.append_nil]))
        have hcn : ((Int.gcd f.a (Int.gcd f.b f.c) : Int) == 1) = false := by rw [beq_eq_false_iff_ne]; intro h; exact hp (decide_eq_true (by omega))
        go_wp2_with (go_at_call 93; (with_reducible refine (foContent_any f.a f.b f.c _ fa fb fc).mono ?_); rintro e v1 ⟨rfl, hB1⟩; have hZ1 := hB1.size; (try simp at hZ1); (try have zl1 : w.heap.size < v1.heap.size := by omega); (try have ze1 : w.heap.size ≤ v1.heap.size := by omega); (try have zn1 : ¬ w.heap.size = v1.heap.size := by omega); (try have zm1 : ¬ v1.heap.size = w.heap.size := by omega); have hC1_0 := fun o => (calm_cells hB1).1 (wr.heap.size) o (by first | omega | (simp <;> omega)); have hF1_0 := fun o => (calm_cells hB1).2 (wr.heap.size) o (by first | omega | (simp <;> omega)); (try have hl1_0 : wr.heap.size < v1.heap.size := by omega); (try have hm1_0 : ¬ wr.heap.size = v1.heap.size := by omega); (try have hn1_0 : ¬ v1.heap.size = wr.heap.size := by omega))
        go_roundw
        case rel => exact ⟨k + 1, rfl, hlt, by rw [hx.out]; exact (by repeat (first | with_reducible assumption | with_reducible apply own_alloc | with_reducible apply own_drew | with_reducible apply own_drewN | (with_reducible refine own_setp (by assumption) ?_ ?_; (first | omega | (simp <;> omega))) | (with_reducible refine own_call (by assumption) ?_))), (by repeat (first | with_reducible assumption | with_reducible apply own_alloc | with_reducible apply own_drew | with_reducible apply own_drewN | (with_reducible refine own_setp (by assumption) ?_ ?_; (first | omega | (simp <;> omega))) | (with_reducible refine own_call (by assumption) ?_))), hap, (by repeat (first | with_reducible exact Below.refl _ _ | with_reducible assumption | with_reducible apply Below.drew | with_reducible apply below_drewN | (with_reducible apply below_setp; (first | omega | (simp <;> omega))) | (with_reducible apply below_allocp; (first | omega | (simp <;> omega))) | (with_reducible refine below_viap (by assumption) ?_ ?_; (first | omega | (simp <;> omega)))))⟩
        case measure => simp [intOf]; omega
    · have e : k = L.length := by omega
      have hx : (L.take k).filter primB = L.filter primB := by rw [e, List.take_length]
      have Hx := Lib.hid hx
      clear hx
      subst e
      go_wp2
      go_ret
      exact ⟨_, rfl, by rw [← Hx.out]; exact hown, hbel⟩

set_option maxHeartbeats 400000 in
theorem reducedForms_any (d : Int) (w : World) (hd1 : -2000 ≤ d) (hd2 : d ≤ -3) : Calls Try.prog 106 #[.int .i64 d] w (RetF (clsL d) w) := by
  have hsm := allR_small hd1
  have hl : (allR d).length ≤ 100000 := Nat.le_trans (allR_len d) (by decide)
  have Hs := Lib.hid hsm
  have Hr := allReduced_any d
  have hcl : clsL d = (allR d).filter primB := rfl
  rw [hcl]
  clear hsm hcl
  generalize allR d = L at *
  go_enter Try.func106, Try.ntmps106
  go_wp2_with (first
    | (go_at_call 138; refine (Hr _ hd1 hd2).mono ?_; rintro e w1 ⟨vl, rfl, howl, hb1⟩)
    | (go_at_call 137; refine (primitiveOf_any vl _ L w1 Hs.out hl howl).mono ?_; rintro e w2 ⟨v2, rfl, hown2, hb2⟩))
  have hz := hb1.size
  go_ret
  refine ⟨_, rfl, own_base hz hown2, below_via hb1 hb2 hz⟩

set_option maxRecDepth 100000 in
set_option maxHeartbeats 1600000 in
theorem formsAmb_any (d : Int) (w : World) (hd1 : -2000 ≤ d) (hd2 : d ≤ -3) :
    Calls Try.prog 82 #[.int .i64 d, .func (.func 61) #[] #[]] w (RetF ((clsL d).filter ambB) w) := by
  obtain ⟨i0, hi, hz0, hz1, hz2⟩ := info_parts infoForm
  have hsm : Small (clsL d) := small_filter (allR_small hd1)
  have hl : (clsL d).length ≤ 100000 := Nat.le_trans (clsL_len d) (by decide)
  have Hs := Lib.hid hsm
  have Hr := reducedForms_any d
  clear hsm
  generalize clsL d = L at *
  go_enter Try.func82, Try.ntmps82
  go_wp2_with (go_at_call 106; refine (Hr _ hd1 hd2).mono ?_; rintro e w1 ⟨vl, rfl, howl, hb1⟩; obtain ⟨base, cap, rfl⟩ := own_shape howl)
  obtain ⟨B, hB⟩ : ∃ B : Nat, B = (w.alloc (.cells #[] 23)).heap.size := ⟨_, rfl⟩
  rw [← hB] at howl
  have hz1' := hb1.size
  go_loopw [5, 12] (fun v i wr => FlkSt ambB L B (.slice base L.length cap) w v i wr) (fun _ i _ => L.length - (intOf i).toNat)
  case atStart => exact ⟨0, rfl, Nat.zero_le _, own_call hb1 (own_empty (Nat.le_refl _)), howl, apart_below howl (by simp [hB]), (by repeat (first | with_reducible exact Below.refl _ _ | with_reducible assumption | with_reducible apply Below.drew | with_reducible apply below_drewN | (with_reducible apply below_setp; (first | omega | (simp <;> omega))) | (with_reducible apply below_allocp; (first | omega | (simp <;> omega))) | (with_reducible refine below_viap (by assumption) ?_ ?_; (first | omega | (simp <;> omega)))))⟩
  case round =>
    clear howl hb1 hz1'
    obtain ⟨k, rfl, hk, hown, howl, hap, hbel⟩ := hrel
    by_cases hlt : k < L.length
    · obtain ⟨g, rfl, hg2, d1, d2, d3⟩ := own_elem howl hlt
      obtain ⟨⟨a1, a2⟩, ⟨b1, b2⟩, ⟨q1, q2⟩⟩ := Hs.out L[k] (List.getElem_mem hlt)
      have hft := filter_take (p := ambB) hlt
      generalize L[k] = f at d1 d2 d3 a1 a2 b1 b2 q1 q2 hft
      have Hft := Lib.hid hft
      clear hft
      have fa : Far f.a := ⟨by omega, by omega⟩
      have fb : Far f.b := ⟨by omega, by omega⟩
      have fc : Far f.c := ⟨by omega, by omega⟩
      have hz := hbel.size
      have hlf := filter_len (p := ambB) L k hl
      by_cases hp : ambB f = true
      · have hx := Lib.hid (Hft.out.trans (by rw [if_pos hp]))
        have hp2 : isAmb f.a f.b f.c = true := hp
        go_wp2_with (first
          | (go_at_call 61; (with_reducible refine (isAmbiguous_any f.a f.b f.c _).mono ?_); rw [hp2]; rintro e v1 ⟨rfl, hB1⟩; have hZ1 := hB1.size; (try simp at hZ1); (try have zl1 : w.heap.size < v1.heap.size := by omega); (try have ze1 : w.heap.size ≤ v1.heap.size := by omega); (try have zn1 : ¬ w.heap.size = v1.heap.size := by omega); (try have zm1 : ¬ v1.heap.size = w.heap.size := by omega); have hC1_0 := fun o => (calm_cells hB1).1 (wr.heap.size) o (by first | omega | (simp <;> omega)); have hF1_0 := fun o => (calm_cells hB1).2 (wr.heap.size) o (by first | omega | (simp <;> omega)); (try have hl1_0 : wr.heap.size < v1.heap.size := by omega); (try have hm1_0 : ¬ wr.heap.size = v1.heap.size := by omega); (try have hn1_0 : ¬ v1.heap.size = wr.heap.size := by omega))
          | (at_builtin; refine wpList_append_own_at _ rfl (.tmp 19) (.tmp 21) 51 rfl w.heap.size 23 i0 _ 3 24 Try.underlying51 hi hz0 hz1 hz2 rfl (by decide) u5 ((L.take k).filter ambB).length (cellsF ((L.take k).filter ambB)) rfl ?_ ⟨v1.heap.size, 0, none⟩ 1 1 [.int .i64 f.a, .int .i64 f.b, .int .i64 f.c] rfl rfl ?_ (one3 _ _ _) ?_ ?_ ?_ ?_; exact (by repeat (first | with_reducible assumption | with_reducible apply own_alloc | with_reducible apply own_drew | with_reducible apply own_drewN | (with_reducible refine own_setp (by assumption) ?_ ?_; (first | omega | (simp <;> omega))) | (with_reducible refine own_call (by assumption) ?_))); exact cells3 (Blk.new _ _ _); (unfold maxLen; omega); omega; (simp; omega); intro v2 w2 hown2 hg2 _ hloc))
        have hb2 : Below w.heap.size w w2 := below_grown (own_ge hown) (by simp; omega) hg2 (by repeat (first | with_reducible exact Below.refl _ _ | with_reducible assumption | with_reducible apply Below.drew | with_reducible apply below_drewN | (with_reducible apply below_setp; (first | omega | (simp <;> omega))) | (with_reducible apply below_allocp; (first | omega | (simp <;> omega))) | (with_reducible refine below_viap (by assumption) ?_ ?_; (first | omega | (simp <;> omega)))))
        have ho2 := own_snoc hx.out hown2
        have hol1 : (v1.alloc (Obj.cells #[Value.int IntKind.i64 f.a, Value.int IntKind.i64 f.b, Value.int IntKind.i64 f.c] 23)).ownsRow B 23 3 (.slice (some ⟨g, 0, none⟩) L.length cap) L.length (cellsF L) := (by repeat (first | with_reducible assumption | with_reducible apply own_alloc | with_reducible apply own_drew | with_reducible apply own_drewN | (with_reducible refine own_setp (by assumption) ?_ ?_; (first | omega | (simp <;> omega))) | (with_reducible refine own_call (by assumption) ?_)))
        have hol2 := hol1.kept hg2 hap
        have hap2 := apart_next hap hol1 (Nat.le_refl _) hloc
        clear hg2 hown2 hown hbel howl hap hol1 hloc
        go_wp2
        go_roundw
        case rel => exact ⟨k + 1, rfl, hlt, ho2, hol2, hap2, hb2⟩
        case measure => simp [intOf]; omega
      · have hx := Lib.hid (Hft.out.trans (by rw [if_neg hp, List.append_nil]))
        have hp2 : isAmb f.a f.b f.c = false := by simpa [ambB] using hp
        go_wp2_with (go_at_call 61; (with_reducible refine (isAmbiguous_any f.a f.b f.c _).mono ?_); rw [hp2]; rintro e v1 ⟨rfl, hB1⟩; have hZ1 := hB1.size; (try simp at hZ1); (try have zl1 : w.heap.size < v1.heap.size := by omega); (try have ze1 : w.heap.size ≤ v1.heap.size := by omega); (try have zn1 : ¬ w.heap.size = v1.heap.size := by omega); (try have zm1 : ¬ v1.heap.size = w.heap.size := by omega); have hC1_0 := fun o => (calm_cells hB1).1 (wr.heap.size) o (by first | omega | (simp <;> omega)); have hF1_0 := fun o => (calm_cells hB1).2 (wr.heap.size) o (by first | omega | (simp <;> omega)); (try have hl1_0 : wr.heap.size < v1.heap.size := by omega); (try have hm1_0 : ¬ wr.heap.size = v1.heap.size := by omega); (try have hn1_0 : ¬ v1.heap.size = wr.heap.size := by omega))
        go_roundw
        case rel => exact ⟨k + 1, rfl, hlt, by rw [hx.out]; exact (by repeat (first | with_reducible assumption | with_reducible apply own_alloc | with_reducible apply own_drew | with_reducible apply own_drewN | (with_reducible refine own_setp (by assumption) ?_ ?_; (first | omega | (simp <;> omega))) | (with_reducible refine own_call (by assumption) ?_))), (by repeat (first | with_reducible assumption | with_reducible apply own_alloc | with_reducible apply own_drew | with_reducible apply own_drewN | (with_reducible refine own_setp (by assumption) ?_ ?_; (first | omega | (simp <;> omega))) | (with_reducible refine own_call (by assumption) ?_))), hap, (by repeat (first | with_reducible exact Below.refl _ _ | with_reducible assumption | with_reducible apply Below.drew | with_reducible apply below_drewN | (with_reducible apply below_setp; (first | omega | (simp <;> omega))) | (with_reducible apply below_allocp; (first | omega | (simp <;> omega))) | (with_reducible refine below_viap (by assumption) ?_ ?_; (first | omega | (simp <;> omega)))))⟩
        case measure => simp [intOf]; omega
    · have e : k = L.length := by omega
      have hx : (L.take k).filter ambB = L.filter ambB := by rw [e, List.take_length]
      have Hx := Lib.hid hx
      clear hx
      subst e
      go_wp2
      go_ret
      exact ⟨_, rfl, by rw [← Hx.out]; exact hown, hbel⟩

theorem ambiguous_any (d : Int) (w : World) (hd1 : -2000 ≤ d) (hd2 : d ≤ -3) : Calls Try.prog 64 #[.int .i64 d] w (RetF ((clsL d).filter ambB) w) := by
  go_enter Try.func64, Try.ntmps64
  go_wp2_with (go_at_call 82; refine (formsAmb_any d _ hd1 hd2).mono ?_; rintro e w1 ⟨vl, rfl, howl, hb1⟩)
  go_ret
  exact ⟨_, rfl, howl, hb1⟩
end Go.Proofs.Ytifkmjmhhklkjaa
