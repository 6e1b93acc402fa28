/- Contracts of ClassRoots, of the program and of the reference. -/
import Derived.Test.YteehcjjhkphdnaaGreatUB
import Derived.Test.YteehcjjhkphdnaaGreatG7
namespace Go.Proofs.YteehcjjhkphdnaaGreat
open Go.RowKit

set_option maxHeartbeats 1600000 in
theorem rootsFn_any (d : Int) (f r : Fm) (n b3 b6 : Nat) (w : World) (hf : CF d f f) (hn : (n : Int) ≤ 100) (h3 : w.cell? ⟨b3, 0, none⟩ = some (.int .i64 n)) (l3 : b3 < w.heap.size)
    (h6 : w.cell? ⟨b6, 0, none⟩ = some (.int .i64 r.a)) (h7 : w.cell? ⟨b6, 1, none⟩ = some (.int .i64 r.b)) (h8 : w.cell? ⟨b6, 2, none⟩ = some (.int .i64 r.c)) (l6 : b6 < w.heap.size) :
    Calls Tryz.prog 130 #[.agg #[.int .i64 f.a, .int .i64 f.b, .int .i64 f.c], .pointer (some ⟨b3, 0, none⟩), .pointer (some ⟨b6, 0, none⟩)] w fun e w' => e = .returned (.bool (fmEq (pw d f n) r)) ∧ Below w.heap.size w w' := by
  obtain ⟨P, hP⟩ : ∃ P, pw d f n = P := ⟨_, rfl⟩
  rw [hP]
  have hW := Lib.hid (fun w => powerForm_any d f f P n w hf (by omega) hP)
  have m3 : ¬ b3 = w.heap.size := by omega
  have m6 : ¬ b6 = w.heap.size := by omega
  have k3 : b3 < w.heap.size + 1 := by omega
  have k6 : b6 < w.heap.size + 1 := by omega
  clear hf hP
  rcases fm_cases P r with ⟨rfl, hv⟩ | ⟨hv, e1⟩ | ⟨hv, e1, e2⟩ | ⟨hv, e1, e2, e3⟩
  all_goals
    rw [hv]
    clear hv
    go_enter Tryz.func130, Tryz.ntmps130
    go_wp2
    refine wp_region_calm 6 (Below (w.heap.size + 1) _) (by kernel_rfl) (by kernel_rfl) ((Below.refl _ _).drew) ?_
    simp only [List.take_succ_cons, List.take_zero, List.drop_succ_cons, List.drop_zero]
    repeat (first | (apply wpCalm_go; go_simp; (intro w' hw' hcc hff; go_simp; first | exact rfl | ((with_reducible refine (hW.out _).mono ?_); rintro ee w1 ⟨rfl, hb⟩; exact ⟨rfl, calm_call (by simp <;> omega) hw' hb⟩)); (intro K hK; go_simp; refine hK _ ?_; clear hK K)) | (apply wpCalm_skip; go_simp; (intro K hK; go_simp; refine hK _ ?_; clear hK K)))
    refine wpCalm_nil ?_
    intro w1 hw1
    have hcc := (calm_cells hw1).1
    have hff := (calm_cells hw1).2
    have hss := calm_size hw1
    have hsz := hw1.size
    (try simp at hsz)
    go_wp2
    go_ret
    exact ⟨rfl, (by repeat (first | with_reducible exact Below.refl _ _ | with_reducible assumption | with_reducible apply Below.drew | with_reducible apply below_drewN | (with_reducible apply below_setp; (first | omega | (simp <;> omega))) | (with_reducible apply below_allocp; (first | omega | (simp <;> omega))) | (with_reducible refine below_viap (by assumption) ?_ ?_; (first | omega | (simp <;> omega)))))⟩

set_option maxRecDepth 100000 in
set_option maxHeartbeats 1600000 in
theorem formsRoots_any (d : Int) (p : Fm → Bool) (b3 b6 : Nat) (w : World) (hd1 : -2000 ≤ d) (hd2 : d ≤ -3)
    (hcall : ∀ f ∈ clsL d, ∀ w', Below w.heap.size w w' → Calls Tryz.prog 130 #[.agg #[.int .i64 f.a, .int .i64 f.b, .int .i64 f.c], .pointer (some ⟨b3, 0, none⟩), .pointer (some ⟨b6, 0, none⟩)] w' fun e w'' => e = .returned (.bool (p f)) ∧ Below w'.heap.size w' w'') :
    Calls Tryz.prog 111 #[.int .i64 d, .func (.func 130) #[] #[.pointer (some ⟨b3, 0, none⟩), .pointer (some ⟨b6, 0, none⟩)]] w (RetF ((clsL d).filter p) w) := by
  obtain ⟨i0, hi, hz0, hz1, hz2⟩ := info_parts infoForm
  have hl : (clsL d).length ≤ 100000 := Nat.le_trans (clsL_len d) (by decide)
  have Hr := reducedForms_any d
  have Hc := Lib.hid hcall
  clear hcall
  generalize clsL d = L at *
  go_enter Tryz.func111, Tryz.ntmps111
  go_wp2_with (go_at_call 107; refine (Hr _ hd1 hd2).mono ?_; rintro e w1 ⟨vl, rfl, howl, hb1⟩; obtain ⟨base, cap, rfl⟩ := own_shape howl)
  obtain ⟨B, hB⟩ : ∃ B : Nat, B = (w.alloc (.cells #[] 36)).heap.size := ⟨_, rfl⟩
  rw [← hB] at howl
  have hz1' := hb1.size
  go_loopw [5, 12] (fun v i wr => FlkSt p L B (.slice base L.length cap) w v i wr) (fun _ i _ => L.length - (intOf i).toNat)
  case atStart => exact ⟨0, rfl, Nat.zero_le _, own_call hb1 (own_empty (Nat.le_refl _)), howl, apart_below howl (by simp [hB]), (by repeat (first | with_reducible exact Below.refl _ _ | with_reducible assumption | with_reducible apply Below.drew | with_reducible apply below_drewN | (with_reducible apply below_setp; (first | omega | (simp <;> omega))) | (with_reducible apply below_allocp; (first | omega | (simp <;> omega))) | (with_reducible refine below_viap (by assumption) ?_ ?_; (first | omega | (simp <;> omega)))))⟩
  case round =>
    clear howl hb1 hz1'
    obtain ⟨k, rfl, hk, hown, howl, hap, hbel⟩ := hrel
    by_cases hlt : k < L.length
    · obtain ⟨g, rfl, hg2, d1, d2, d3⟩ := own_elem howl hlt
      have hft := filter_take (p := p) hlt
      have hfm := List.getElem_mem hlt
      generalize L[k] = f at d1 d2 d3 hft hfm
      have Hft := Lib.hid hft
      have Hfm := Lib.hid hfm
      clear hft hfm
      have hz := hbel.size
      have hlf := filter_len (p := p) L k hl
      by_cases hp : p f = true
      · have hx := Lib.hid (Hft.out.trans (by rw [if_pos hp]))
        have hp2 := Lib.hid hp
        clear hp
        go_wp2_with (first
          | (go_at_call 130; (with_reducible refine (Hc.out f Hfm.out _ (by repeat (first | with_reducible exact Below.refl _ _ | with_reducible assumption | with_reducible apply Below.drew | with_reducible apply below_drewN | (with_reducible apply below_setp; (first | omega | (simp <;> omega))) | (with_reducible apply below_allocp; (first | omega | (simp <;> omega))) | (with_reducible refine below_viap (by assumption) ?_ ?_; (first | omega | (simp <;> omega)))))).mono ?_); rw [hp2.out]; rintro e v1 ⟨rfl, hB1⟩; have hZ1 := hB1.size; (try simp at hZ1); (try have zl1 : w.heap.size < v1.heap.size := by omega); (try have ze1 : w.heap.size ≤ v1.heap.size := by omega); (try have zn1 : ¬ w.heap.size = v1.heap.size := by omega); (try have zm1 : ¬ v1.heap.size = w.heap.size := by omega); have hC1_0 := fun o => (calm_cells hB1).1 (wr.heap.size) o (by first | omega | (simp <;> omega)); have hF1_0 := fun o => (calm_cells hB1).2 (wr.heap.size) o (by first | omega | (simp <;> omega)); (try have hl1_0 : wr.heap.size < v1.heap.size := by omega); (try have hm1_0 : ¬ wr.heap.size = v1.heap.size := by omega); (try have hn1_0 : ¬ v1.heap.size = wr.heap.size := by omega))
          | (at_builtin; refine wpList_append_own_at _ rfl (.tmp 19) (.tmp 21) 25 rfl w.heap.size 36 i0 _ 3 24 Tryz.underlying25 hi hz0 hz1 hz2 rfl (by decide) u5 ((L.take k).filter p).length (cellsF ((L.take k).filter p)) rfl ?_ ⟨v1.heap.size, 0, none⟩ 1 1 [.int .i64 f.a, .int .i64 f.b, .int .i64 f.c] rfl rfl ?_ (one3 _ _ _) ?_ ?_ ?_ ?_; exact (by repeat (first | with_reducible assumption | with_reducible apply own_alloc | with_reducible apply own_drew | with_reducible apply own_drewN | (with_reducible refine own_setp (by assumption) ?_ ?_; (first | omega | (simp <;> omega))) | (with_reducible refine own_call (by assumption) ?_))); exact cells3 (Blk.new _ _ _); (unfold maxLen; omega); omega; (simp; omega); intro v2 w2 hown2 hg2 _ hloc))
        have hb2 : Below w.heap.size w w2 := below_grown (own_ge hown) (by simp; omega) hg2 (by repeat (first | with_reducible exact Below.refl _ _ | with_reducible assumption | with_reducible apply Below.drew | with_reducible apply below_drewN | (with_reducible apply below_setp; (first | omega | (simp <;> omega))) | (with_reducible apply below_allocp; (first | omega | (simp <;> omega))) | (with_reducible refine below_viap (by assumption) ?_ ?_; (first | omega | (simp <;> omega)))))
        have ho2 := own_snoc hx.out hown2
        have hol1 : (v1.alloc (Obj.cells #[Value.int IntKind.i64 f.a, Value.int IntKind.i64 f.b, Value.int IntKind.i64 f.c] 36)).ownsRow B 36 3 (.slice (some ⟨g, 0, none⟩) L.length cap) L.length (cellsF L) := (by repeat (first | with_reducible assumption | with_reducible apply own_alloc | with_reducible apply own_drew | with_reducible apply own_drewN | (with_reducible refine own_setp (by assumption) ?_ ?_; (first | omega | (simp <;> omega))) | (with_reducible refine own_call (by assumption) ?_)))
        have hol2 := hol1.kept hg2 hap
        have hap2 := apart_next hap hol1 (Nat.le_refl _) hloc
        clear hg2 hown2 hown hbel howl hap hol1 hloc
        go_wp2
        go_roundw
        case rel => exact ⟨k + 1, rfl, hlt, ho2, hol2, hap2, hb2⟩
        case measure => simp [intOf]; omega
      · have hx := Lib.hid (Hft.out.trans (by rw [if_neg hp, List.append_nil]))
        have hp2 := Lib.hid (show p f = false by simpa using hp)
        clear hp
        go_wp2_with (go_at_call 130; (with_reducible refine (Hc.out f Hfm.out _ (by repeat (first | with_reducible exact Below.refl _ _ | with_reducible assumption | with_reducible apply Below.drew | with_reducible apply below_drewN | (with_reducible apply below_setp; (first | omega | (simp <;> omega))) | (with_reducible apply below_allocp; (first | omega | (simp <;> omega))) | (with_reducible refine below_viap (by assumption) ?_ ?_; (first | omega | (simp <;> omega)))))).mono ?_); rw [hp2.out]; rintro e v1 ⟨rfl, hB1⟩; have hZ1 := hB1.size; (try simp at hZ1); (try have zl1 : w.heap.size < v1.heap.size := by omega); (try have ze1 : w.heap.size ≤ v1.heap.size := by omega); (try have zn1 : ¬ w.heap.size = v1.heap.size := by omega); (try have zm1 : ¬ v1.heap.size = w.heap.size := by omega); have hC1_0 := fun o => (calm_cells hB1).1 (wr.heap.size) o (by first | omega | (simp <;> omega)); have hF1_0 := fun o => (calm_cells hB1).2 (wr.heap.size) o (by first | omega | (simp <;> omega)); (try have hl1_0 : wr.heap.size < v1.heap.size := by omega); (try have hm1_0 : ¬ wr.heap.size = v1.heap.size := by omega); (try have hn1_0 : ¬ v1.heap.size = wr.heap.size := by omega))
        go_roundw
        case rel => exact ⟨k + 1, rfl, hlt, by rw [hx.out]; exact (by repeat (first | with_reducible assumption | with_reducible apply own_alloc | with_reducible apply own_drew | with_reducible apply own_drewN | (with_reducible refine own_setp (by assumption) ?_ ?_; (first | omega | (simp <;> omega))) | (with_reducible refine own_call (by assumption) ?_))), (by repeat (first | with_reducible assumption | with_reducible apply own_alloc | with_reducible apply own_drew | with_reducible apply own_drewN | (with_reducible refine own_setp (by assumption) ?_ ?_; (first | omega | (simp <;> omega))) | (with_reducible refine own_call (by assumption) ?_))), hap, (by repeat (first | with_reducible exact Below.refl _ _ | with_reducible assumption | with_reducible apply Below.drew | with_reducible apply below_drewN | (with_reducible apply below_setp; (first | omega | (simp <;> omega))) | (with_reducible apply below_allocp; (first | omega | (simp <;> omega))) | (with_reducible refine below_viap (by assumption) ?_ ?_; (first | omega | (simp <;> omega)))))⟩
        case measure => simp [intOf]; omega
    · have e : k = L.length := by omega
      have hx : (L.take k).filter p = L.filter p := by rw [e, List.take_length]
      have Hx := Lib.hid hx
      clear hx
      subst e
      go_wp2
      go_ret
      exact ⟨_, rfl, by rw [← Hx.out]; exact hown, hbel⟩
end Go.Proofs.YteehcjjhkphdnaaGreat
