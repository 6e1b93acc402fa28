/- Contracts of ClassesOfOrder, of the program. -/
import Derived.Test.YtononfokhdmofaaT4
import Derived.Test.YtononfokhdmofaaK7
namespace Go.Proofs.Ytononfokhdmofaa
open Go.RowKit Go.Maps

/-- Whether the order of f is n. -/
noncomputable def ordP (d n : Int) (f : Fm) : Bool := decide ((ordF d f : Int) = n)
/-- What ClassesOfOrder gives. -/
def CoL (d n : Int) (L : List Fm) (ok : Bool) : Prop :=
  (isDisc d = false ∧ L = [] ∧ ok = false) ∨ (isDisc d = true ∧ n < 1 ∧ L = [] ∧ ok = false) ∨ (isDisc d = true ∧ 1 ≤ n ∧ L = (clsL d).filter (ordP d n) ∧ ok = true)
theorem coL_ex (d n : Int) : ∃ L ok, CoL d n L ok ∧ L.length ≤ 100000 := by
  cases hc : isDisc d with
  | false => exact ⟨_, _, .inl ⟨hc, rfl, rfl⟩, by simp⟩
  | true =>
    by_cases hn : n < 1
    · exact ⟨_, _, .inr (.inl ⟨hc, hn, rfl, rfl⟩), by simp⟩
    · exact ⟨_, _, .inr (.inr ⟨hc, by omega, rfl, rfl⟩), Nat.le_trans (List.length_filter_le _ _) (Nat.le_trans (clsL_len _) (by decide))⟩
theorem ordsL_get {d : Int} {L : List Fm} {k : Nat} (h : k < L.length) : ∃ h2 : k < (ordsL d L).length, (ordsL d L)[k] = (ordF d L[k] : Int) := by
  refine ⟨by rw [ordsL_len]; exact h, ?_⟩
  unfold ordsL; simp
/-- The element k of the list of orders. -/
theorem own_elemO {w : World} {B : Nat} {e : TypeId} {d : Int} {L : List Fm} {base : Option Addr} {cap : Nat} (h : w.ownsRow B e 1 (.slice base L.length cap) L.length (cellsI (ordsL d L))) {k : Nat} (hk : k < L.length) :
    ∃ g, base = some ⟨g, 0, none⟩ ∧ g < w.heap.size ∧ w.cell? ⟨g, k, none⟩ = some (.int .i64 (ordF d L[k] : Int)) := by
  obtain ⟨h2, he⟩ := ordsL_get (d := d) hk
  obtain ⟨g, e1, e2, e3⟩ := own_elemI (n := L.length) (L := ordsL d L) (by rw [ordsL_len]; exact h) h2
  rw [he] at e3
  exact ⟨g, e1, e2, e3⟩
def CooSt (p : Fm → Bool) (d : Int) (L : List Fm) (B2 N0 : Nat) (vo : Value) (w1 : World) (v vi : Value) (wr : World) : Prop :=
  ∃ k : Nat, vi = .int .i64 k ∧ k ≤ L.length ∧ wr.ownsRow N0 26 3 v ((L.take k).filter p).length (cellsF ((L.take k).filter p)) ∧ wr.ownsRow B2 3 1 vo L.length (cellsI (ordsL d L)) ∧ Apart v vo ∧ N0 ≤ wr.heap.size ∧ Below N0 w1 wr

set_option maxRecDepth 100000 in
set_option maxHeartbeats 3200000 in
theorem implCO_any (d n : Int) (L : List Fm) (ok : Bool) (w : World) (h : CoL d n L ok) :
    Calls Try.prog 19 #[.int .i64 d, .int .i64 n] w (RetFb L ok w) := by
  rcases h with ⟨hc, rfl, rfl⟩ | ⟨hc, hn, rfl, rfl⟩ | ⟨hc, hn, rfl, rfl⟩
  · go_enter Try.func19, Try.ntmps19
    go_wp2_with (go_at_call 68; (with_reducible refine (negDisc_eq d false _ hc).mono ?_); rintro e v ⟨rfl, rfl⟩)
    go_ret2
    exact ⟨_, rfl, own_empty (by omega), (by repeat (first | with_reducible exact Below.refl _ _ | with_reducible assumption | with_reducible apply Below.drew | with_reducible apply below_drewN | (with_reducible apply below_setp; (first | omega | (simp <;> omega))) | (with_reducible apply below_allocp; (first | omega | (simp <;> omega))) | (with_reducible refine below_viap (by assumption) ?_ ?_; (first | omega | (simp <;> omega)))))⟩
  · go_enter Try.func19, Try.ntmps19
    go_wp2_with (go_at_call 68; (with_reducible refine (negDisc_eq d true _ hc).mono ?_); rintro e v ⟨rfl, rfl⟩)
    go_ret2
    exact ⟨_, rfl, own_empty (by omega), (by repeat (first | with_reducible exact Below.refl _ _ | with_reducible assumption | with_reducible apply Below.drew | with_reducible apply below_drewN | (with_reducible apply below_setp; (first | omega | (simp <;> omega))) | (with_reducible apply below_allocp; (first | omega | (simp <;> omega))) | (with_reducible refine below_viap (by assumption) ?_ ?_; (first | omega | (simp <;> omega)))))⟩
  · have D := dsc_of hc
    obtain ⟨i0, hi, hz0, hz1, hz2⟩ := info_parts infoForm
    obtain ⟨L, hL⟩ : ∃ L, clsL d = L := ⟨_, rfl⟩
    have hl : L.length ≤ 100000 := by rw [← hL]; exact Nat.le_trans (clsL_len d) (by decide)
    have hG := Lib.hid (fun w => groupOf_any d w D)
    rw [hL] at hG
    have hO := Lib.hid (fun (B G : Nat) (w : World) (hg : Grp L B G w) => gorders_any d L B G w D hL hg)
    rw [hL]
    obtain ⟨p, hp⟩ : ∃ p, ordP d n = p := ⟨_, rfl⟩
    rw [hp]
    have Hp : Hid (∀ f, decide ((ordF d f : Int) = n) = p f) := Lib.hid (fun f => congrFun hp f)
    have hn1 : ¬ n < 1 := by omega
    clear D hL hp hn
    go_enter Try.func19, Try.ntmps19
    go_wp2_with (first
      | (go_at_call 68; (with_reducible refine (negDisc_eq d true _ hc).mono ?_); rintro e v ⟨rfl, rfl⟩)
      | (go_at_call 69; refine (hG.out _).mono ?_; rintro e w1 ⟨G, rfl, hg1, hG0, hb1⟩; have hz1' := hb1.size)
      | (go_at_call 70; refine (hO.out _ _ _ (hg1.call ((Below.refl _ _).alloc (Nat.le_refl _) _))).mono ?_; rintro e w3 ⟨vo, rfl, hoo, hb3⟩; rw [ordsL_len] at hoo; obtain ⟨bo, co, rfl⟩ := own_shape hoo; have hz3 := hb3.size; (try simp at hz3)))
    obtain ⟨B2, hB2⟩ : ∃ B2 : Nat, B2 = (w1.alloc (.cells #[] 26)).heap.size := ⟨_, rfl⟩
    rw [← hB2] at hoo
    have HG1 := Lib.hid hg1
    clear hg1
    go_loopw [7, 24] (fun v i wr => CooSt p d L B2 w1.heap.size (.slice bo L.length co) w1 v i wr) (fun _ i _ => L.length - (intOf i).toNat)
    case atStart => exact ⟨0, rfl, Nat.zero_le _, own_call hb3 (own_empty (Nat.le_refl _)), hoo, apart_below hoo (by simp [hB2]), by omega, (by repeat (first | with_reducible exact Below.refl _ _ | with_reducible assumption | with_reducible apply Below.drew | with_reducible apply below_drewN | (with_reducible apply below_setp; (first | omega | (simp <;> omega))) | (with_reducible apply below_allocp; (first | omega | (simp <;> omega))) | (with_reducible refine below_viap (by assumption) ?_ ?_; (first | omega | (simp <;> omega)))))⟩
    case round =>
      clear hoo hb3 hz3
      obtain ⟨k, rfl, hk, hown, hoo, hap, hN0, hbel⟩ := hrel
      have hz := hbel.size
      by_cases hlt : k < L.length
      · obtain ⟨go, rfl, ho2, o1⟩ := own_elemO hoo hlt
        obtain ⟨base, cap, M, Dm, hblk, howl, _, _⟩ := HG1.out.call hbel
        have cG := hblk.cell; have fG := hblk.frozen; have lG := hblk.lt
        obtain ⟨g, rfl, hg2, d1, d2, d3⟩ := own_elem howl hlt
        have hft := filter_take (p := p) hlt
        have hpf := Hp.out L[k]
        have hlf := filter_len (p := p) L k hl
        generalize L[k] = f at o1 d1 d2 d3 hft hpf
        generalize ordF d f = N at *
        by_cases he : (N : Int) = n
        · have hp1 : p f = true := by rw [← hpf]; exact decide_eq_true he
          have hx := Lib.hid (hft.trans (by rw [if_pos hp1]))
          subst he
          clear hft hpf hp1 howl hblk
          go_wp2_with (at_builtin; refine wpList_append_own_at _ rfl (.tmp 32) (.tmp 40) 29 rfl w1.heap.size 26 i0 _ 3 24 Try.underlying29 hi hz0 hz1 hz2 rfl (by decide) u7 ((L.take k).filter p).length (cellsF ((L.take k).filter p)) rfl ?_ ⟨wr.heap.size, 0, none⟩ 1 1 [.int .i64 f.a, .int .i64 f.b, .int .i64 f.c] rfl rfl ?_ (one3 _ _ _) ?_ ?_ ?_ ?_; exact (by repeat (first | with_reducible assumption | with_reducible apply own_alloc | with_reducible apply own_drew | with_reducible apply own_drewN | (with_reducible refine own_setp (by assumption) ?_ ?_; (first | omega | (simp <;> omega))) | (with_reducible refine own_call (by assumption) ?_))); exact cells3 (Blk.new _ _ _); (unfold maxLen; omega); omega; (simp; omega); intro x2 w2 hown2 hgr _ hloc)
          have hb2 : Below w1.heap.size w1 w2 := below_grown (own_ge hown) (by simp; omega) hgr (by repeat (first | with_reducible exact Below.refl _ _ | with_reducible assumption | with_reducible apply Below.drew | with_reducible apply below_drewN | (with_reducible apply below_setp; (first | omega | (simp <;> omega))) | (with_reducible apply below_allocp; (first | omega | (simp <;> omega))) | (with_reducible refine below_viap (by assumption) ?_ ?_; (first | omega | (simp <;> omega)))))
          have ho2 := own_snoc hx.out hown2
          have hoo1 := own_alloc (o := Obj.cells #[Value.int IntKind.i64 f.a, Value.int IntKind.i64 f.b, Value.int IntKind.i64 f.c] 26) hoo
          have hoo2 := hoo1.kept hgr hap
          have hap2 := apart_next hap hoo1 (Nat.le_refl _) hloc
          have hz4 := hb2.size
          clear hgr hown2 hown hbel hoo hap hoo1 hloc
          go_wp2
          go_roundw
          case rel => exact ⟨k + 1, rfl, hlt, ho2, hoo2, hap2, by omega, hb2⟩
          case measure => simp [intOf]; omega
        · have hp1 : ¬ p f = true := by rw [← hpf]; exact fun h => he (of_decide_eq_true h)
          have hx := Lib.hid (hft.trans (by rw [if_neg hp1, List.append_nil]))
          have he1 : ((N : Int) == n) = false := by rw [beq_eq_false_iff_ne]; exact he
          clear hft hpf hp1 howl hblk
          go_wp2
          go_roundw
          case rel => exact ⟨k + 1, rfl, hlt, by rw [hx.out]; exact hown, hoo, hap, hN0, hbel⟩
          case measure => simp [intOf]; omega
      · have e : k = L.length := by omega
        have hx : (L.take k).filter p = L.filter p := by rw [e, List.take_length]
        have Hx := Lib.hid hx
        clear hx
        subst e
        go_wp2
        go_ret2
        exact ⟨_, rfl, own_base (B := w1.heap.size) (by omega) (by rw [← Hx.out]; exact hown), below_via hb1 hbel hz1'⟩
end Go.Proofs.Ytononfokhdmofaa
