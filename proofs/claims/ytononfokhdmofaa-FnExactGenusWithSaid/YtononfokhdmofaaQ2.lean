/- Contracts: the forms of a genus. (gen_Q2.py wrote this.) -/
import Derived.Test.YtononfokhdmofaaQ1
namespace Go.Proofs.Ytononfokhdmofaa
open Go.RowKit

/-- Whether the genus values are V. -/
noncomputable def gnP (d : Int) (V : List Int) (f : Fm) : Bool := decide (gnL d f = V)

set_option maxRecDepth 100000 in
set_option maxHeartbeats 3200000 in
theorem genusWith_any (d : Int) (v : Value) (B2 : Nat) (V : List Int) (w : World) (hD : Dsc d) (hV : V.length ≤ 10000000) (h : w.ownsRow B2 3 1 v V.length (cellsI V)) :
    Calls Try.prog 84 #[.int .i64 d, v] w (RetF ((clsL d).filter (gnP d V)) w) := by
  obtain ⟨i0, hi, hz0, hz1, hz2⟩ := info_parts infoForm
  obtain ⟨base2, cap2, rfl⟩ := own_shape h
  have hl : (clsL d).length ≤ 100000 := Nat.le_trans (clsL_len d) (by decide)
  have Hr := Lib.hid (fun w => reducedForms_any d w hD.lo hD.hi)
  have hgn := Lib.hid (fun f (h : f ∈ clsL d) w => genusValues_gn d f f w (CF.of_mem hD h))
  have hgl := Lib.hid (fun f (h : f ∈ clsL d) => gn_len hD h)
  have H := Lib.hid h
  clear h
  obtain ⟨p, hp0⟩ : ∃ p, gnP d V = p := ⟨_, rfl⟩
  rw [hp0]
  have Hp : Hid (∀ f, decide (gnL d f = V) = p f) := Lib.hid (fun f => congrFun hp0 f)
  clear hp0
  generalize clsL d = L at *
  go_enter Try.func84, Try.ntmps84
  go_wp2_with (go_at_call 110; refine (Hr.out _).mono ?_; rintro e w1 ⟨vl, rfl, howl, hb1⟩; obtain ⟨base, cap, rfl⟩ := own_shape howl)
  obtain ⟨B, hB⟩ : ∃ B : Nat, B = (w.alloc (.cells #[] 26)).heap.size := ⟨_, rfl⟩
  rw [← hB] at howl
  have hz1' := hb1.size
  go_loopw [5, 12] (fun v i wr => FlkSt p L B (.slice base L.length cap) w v i wr) (fun _ i _ => L.length - (intOf i).toNat)
  case atStart => exact ⟨0, rfl, Nat.zero_le _, own_call hb1 (own_empty (Nat.le_refl _)), howl, apart_below howl (by simp [hB]), (by repeat (first | with_reducible exact Below.refl _ _ | with_reducible assumption | with_reducible apply Below.drew | with_reducible apply below_drewN | (with_reducible apply below_setp; (first | omega | (simp <;> omega))) | (with_reducible apply below_allocp; (first | omega | (simp <;> omega))) | (with_reducible refine below_viap (by assumption) ?_ ?_; (first | omega | (simp <;> omega)))))⟩
  case round =>
    clear howl hb1 hz1'
    obtain ⟨k, rfl, hk, hown, howl, hap, hbel⟩ := hrel
    have howv := own_call hbel H.out
    by_cases hlt : k < L.length
    · obtain ⟨g, rfl, hg2, d1, d2, d3⟩ := own_elem howl hlt
      have hft := filter_take (p := p) hlt
      have hfm := List.getElem_mem hlt
      generalize L[k] = f at d1 d2 d3 hft hfm
      have hG := Lib.hid (hgn.out f hfm)
      have hXl := hgl.out f hfm
      have hpf := Hp.out f
      generalize gnL d f = X at hG hXl hpf
      have Hft := Lib.hid hft
      clear hft hfm
      have hz := hbel.size
      have hlf := filter_len (p := p) L k hl
      by_cases hp : p f = true
      · have hx := Lib.hid (Hft.out.trans (by rw [if_pos hp]))
        rw [hp] at hpf
        have Hpf := Lib.hid hpf
        clear hp hpf
        go_wp2_with (first
          | (go_at_call 85; refine (hG.out _).mono ?_; rintro e v1 ⟨vg, rfl, howg, hB1⟩; have hZ1 := hB1.size; (try simp at hZ1); have hA1 : Blk v1 wr.heap.size 26 #[.int .i64 f.a, .int .i64 f.b, .int .i64 f.c] := Blk.call (by (repeat (first | with_reducible assumption | (with_reducible apply Blk.new_at; (first | rfl | (simp; done))) | with_reducible apply Blk.store3 | with_reducible apply Blk.store4 | (with_reducible apply Blk.farp; (first | omega | (simp <;> omega))) | with_reducible apply Blk.allocp | with_reducible apply Blk.drew | with_reducible apply Blk.drewN))) hB1; have cA1 := hA1.cell; have fA1 := hA1.frozen; have lA1 := hA1.lt; have howv1 := own_call hB1 (own_alloc howv))
          | (go_at_call 126; refine (sameValues_any _ _ _ B2 X V _ hXl hV howg howv1).mono ?_; rw [Hpf.out]; rintro e v2 ⟨rfl, hB2⟩; have hZ2 := hB2.size; (try simp at hZ2); have hA2 : Blk v2 wr.heap.size 26 #[.int .i64 f.a, .int .i64 f.b, .int .i64 f.c] := Blk.call hA1 hB2; have cA2 := hA2.cell; have fA2 := hA2.frozen; have lA2 := hA2.lt)
          | (at_builtin; refine wpList_append_own_at _ rfl (.tmp 20) (.tmp 22) 29 rfl w.heap.size 26 i0 _ 3 24 Try.underlying29 hi hz0 hz1 hz2 rfl (by decide) u5 ((L.take k).filter p).length (cellsF ((L.take k).filter p)) rfl ?_ ⟨v2.heap.size, 0, none⟩ 1 1 [.int .i64 f.a, .int .i64 f.b, .int .i64 f.c] rfl rfl ?_ (one3 _ _ _) ?_ ?_ ?_ ?_; exact (by repeat (first | with_reducible assumption | with_reducible apply own_alloc | with_reducible apply own_drew | with_reducible apply own_drewN | (with_reducible refine own_setp (by assumption) ?_ ?_; (first | omega | (simp <;> omega))) | (with_reducible refine own_call (by assumption) ?_))); exact cells3 (Blk.new _ _ _); (unfold maxLen; omega); omega; (simp; omega); intro x2 w2 hown2 hg2 _ hloc))
        have hb2 : Below w.heap.size w w2 := below_grown (own_ge hown) (by simp; omega) hg2 (by repeat (first | with_reducible exact Below.refl _ _ | with_reducible assumption | with_reducible apply Below.drew | with_reducible apply below_drewN | (with_reducible apply below_setp; (first | omega | (simp <;> omega))) | (with_reducible apply below_allocp; (first | omega | (simp <;> omega))) | (with_reducible refine below_viap (by assumption) ?_ ?_; (first | omega | (simp <;> omega)))))
        have ho2 := own_snoc hx.out hown2
        have hol1 : (v2.alloc (Obj.cells #[Value.int IntKind.i64 f.a, Value.int IntKind.i64 f.b, Value.int IntKind.i64 f.c] 26)).ownsRow B 26 3 (.slice (some ⟨g, 0, none⟩) L.length cap) L.length (cellsF L) := (by repeat (first | with_reducible assumption | with_reducible apply own_alloc | with_reducible apply own_drew | with_reducible apply own_drewN | (with_reducible refine own_setp (by assumption) ?_ ?_; (first | omega | (simp <;> omega))) | (with_reducible refine own_call (by assumption) ?_)))
        have hol2 := hol1.kept hg2 hap
        have hap2 := apart_next hap hol1 (Nat.le_refl _) hloc
        clear hg2 hown2 hown hbel howl hap hol1 hloc
        go_wp2
        go_roundw
        case rel => exact ⟨k + 1, rfl, hlt, ho2, hol2, hap2, hb2⟩
        case measure => simp [intOf]; omega
      · have hx := Lib.hid (Hft.out.trans (by rw [if_neg hp, List.append_nil]))
        have hp2 : p f = false := by simpa using hp
        rw [hp2] at hpf
        have Hpf := Lib.hid hpf
        clear hp hp2 hpf
        go_wp2_with (first
          | (go_at_call 85; refine (hG.out _).mono ?_; rintro e v1 ⟨vg, rfl, howg, hB1⟩; have hZ1 := hB1.size; (try simp at hZ1); have hA1 : Blk v1 wr.heap.size 26 #[.int .i64 f.a, .int .i64 f.b, .int .i64 f.c] := Blk.call (by (repeat (first | with_reducible assumption | (with_reducible apply Blk.new_at; (first | rfl | (simp; done))) | with_reducible apply Blk.store3 | with_reducible apply Blk.store4 | (with_reducible apply Blk.farp; (first | omega | (simp <;> omega))) | with_reducible apply Blk.allocp | with_reducible apply Blk.drew | with_reducible apply Blk.drewN))) hB1; have cA1 := hA1.cell; have fA1 := hA1.frozen; have lA1 := hA1.lt; have howv1 := own_call hB1 (own_alloc howv))
          | (go_at_call 126; refine (sameValues_any _ _ _ B2 X V _ hXl hV howg howv1).mono ?_; rw [Hpf.out]; rintro e v2 ⟨rfl, hB2⟩; have hZ2 := hB2.size; (try simp at hZ2)))
        go_roundw
        case rel => exact ⟨k + 1, rfl, hlt, by rw [hx.out]; exact (by repeat (first | with_reducible assumption | with_reducible apply own_alloc | with_reducible apply own_drew | with_reducible apply own_drewN | (with_reducible refine own_setp (by assumption) ?_ ?_; (first | omega | (simp <;> omega))) | (with_reducible refine own_call (by assumption) ?_))), (by repeat (first | with_reducible assumption | with_reducible apply own_alloc | with_reducible apply own_drew | with_reducible apply own_drewN | (with_reducible refine own_setp (by assumption) ?_ ?_; (first | omega | (simp <;> omega))) | (with_reducible refine own_call (by assumption) ?_))), hap, (by repeat (first | with_reducible exact Below.refl _ _ | with_reducible assumption | with_reducible apply Below.drew | with_reducible apply below_drewN | (with_reducible apply below_setp; (first | omega | (simp <;> omega))) | (with_reducible apply below_allocp; (first | omega | (simp <;> omega))) | (with_reducible refine below_viap (by assumption) ?_ ?_; (first | omega | (simp <;> omega)))))⟩
        case measure => simp [intOf]; omega
    · have e : k = L.length := by omega
      have hx : (L.take k).filter p = L.filter p := by rw [e, List.take_length]
      have Hx := Lib.hid hx
      clear hx
      subst e
      go_wp2
      go_ret
      exact ⟨_, rfl, by rw [← Hx.out]; exact hown, hbel⟩

set_option maxRecDepth 100000 in
set_option maxHeartbeats 3200000 in
theorem chWith_any (d : Int) (v : Value) (B2 : Nat) (V : List Int) (w : World) (hD : Dsc d) (hV : V.length ≤ 10000000) (h : w.ownsRow B2 3 1 v V.length (cellsI V)) :
    Calls Try.prog 81 #[.int .i64 d, v] w (RetF ((clsL d).filter (gnP d V)) w) := by
  obtain ⟨i0, hi, hz0, hz1, hz2⟩ := info_parts infoForm
  obtain ⟨base2, cap2, rfl⟩ := own_shape h
  have hl : (clsL d).length ≤ 100000 := Nat.le_trans (clsL_len d) (by decide)
  have Hr := Lib.hid (fun w => reList_any d w hD.lo hD.hi)
  have hgn := Lib.hid (fun f (h : f ∈ clsL d) w => chOf_gn d f f w (CF.of_mem hD h))
  have hgl := Lib.hid (fun f (h : f ∈ clsL d) => gn_len hD h)
  have H := Lib.hid h
  clear h
  obtain ⟨p, hp0⟩ : ∃ p, gnP d V = p := ⟨_, rfl⟩
  rw [hp0]
  have Hp : Hid (∀ f, decide (gnL d f = V) = p f) := Lib.hid (fun f => congrFun hp0 f)
  clear hp0
  generalize clsL d = L at *
  go_enter Try.func81, Try.ntmps81
  go_wp2_with (go_at_call 67; refine (Hr.out _).mono ?_; rintro e w1 ⟨vl, rfl, howl, hb1⟩; obtain ⟨base, cap, rfl⟩ := own_shape howl)
  obtain ⟨B, hB⟩ : ∃ B : Nat, B = w.heap.size := ⟨_, rfl⟩
  rw [← hB] at howl
  have hz1' := hb1.size
  go_loopw [5, 11] (fun v i wr => FlkSt p L B (.slice base L.length cap) w v i wr) (fun _ i _ => L.length - (intOf i).toNat)
  case atStart => exact ⟨0, rfl, Nat.zero_le _, World.ownsRow_nil _ _ _ _, howl, apart_nil, (by repeat (first | with_reducible exact Below.refl _ _ | with_reducible assumption | with_reducible apply Below.drew | with_reducible apply below_drewN | (with_reducible apply below_setp; (first | omega | (simp <;> omega))) | (with_reducible apply below_allocp; (first | omega | (simp <;> omega))) | (with_reducible refine below_viap (by assumption) ?_ ?_; (first | omega | (simp <;> omega)))))⟩
  case round =>
    clear howl hb1 hz1'
    obtain ⟨k, rfl, hk, hown, howl, hap, hbel⟩ := hrel
    have howv := own_call hbel H.out
    by_cases hlt : k < L.length
    · obtain ⟨g, rfl, hg2, d1, d2, d3⟩ := own_elem howl hlt
      have hft := filter_take (p := p) hlt
      have hfm := List.getElem_mem hlt
      generalize L[k] = f at d1 d2 d3 hft hfm
      have hG := Lib.hid (hgn.out f hfm)
      have hXl := hgl.out f hfm
      have hpf := Hp.out f
      generalize gnL d f = X at hG hXl hpf
      have Hft := Lib.hid hft
      clear hft hfm
      have hz := hbel.size
      have hlf := filter_len (p := p) L k hl
      by_cases hp : p f = true
      · have hx := Lib.hid (Hft.out.trans (by rw [if_pos hp]))
        rw [hp] at hpf
        have Hpf := Lib.hid hpf
        clear hp hpf
        go_wp2_with (first
          | (go_at_call 82; refine (hG.out _).mono ?_; rintro e v1 ⟨vg, rfl, howg, hB1⟩; have hZ1 := hB1.size; (try simp at hZ1); have hA1 : Blk v1 wr.heap.size 26 #[.int .i64 f.a, .int .i64 f.b, .int .i64 f.c] := Blk.call (by (repeat (first | with_reducible assumption | (with_reducible apply Blk.new_at; (first | rfl | (simp; done))) | with_reducible apply Blk.store3 | with_reducible apply Blk.store4 | (with_reducible apply Blk.farp; (first | omega | (simp <;> omega))) | with_reducible apply Blk.allocp | with_reducible apply Blk.drew | with_reducible apply Blk.drewN))) hB1; have cA1 := hA1.cell; have fA1 := hA1.frozen; have lA1 := hA1.lt; have howv1 := own_call hB1 (own_alloc howv))
          | (go_at_call 122; refine (l1Same_any _ _ _ B2 X V _ hXl hV howg howv1).mono ?_; rw [Hpf.out]; rintro e v2 ⟨rfl, hB2⟩; have hZ2 := hB2.size; (try simp at hZ2); have hA2 : Blk v2 wr.heap.size 26 #[.int .i64 f.a, .int .i64 f.b, .int .i64 f.c] := Blk.call hA1 hB2; have cA2 := hA2.cell; have fA2 := hA2.frozen; have lA2 := hA2.lt)
          | (at_builtin; refine wpList_append_own_at _ rfl (.tmp 19) (.tmp 21) 29 rfl w.heap.size 26 i0 _ 3 24 Try.underlying29 hi hz0 hz1 hz2 rfl (by decide) u5 ((L.take k).filter p).length (cellsF ((L.take k).filter p)) rfl ?_ ⟨v2.heap.size, 0, none⟩ 1 1 [.int .i64 f.a, .int .i64 f.b, .int .i64 f.c] rfl rfl ?_ (one3 _ _ _) ?_ ?_ ?_ ?_; exact (by repeat (first | with_reducible assumption | with_reducible apply own_alloc | with_reducible apply own_drew | with_reducible apply own_drewN | (with_reducible refine own_setp (by assumption) ?_ ?_; (first | omega | (simp <;> omega))) | (with_reducible refine own_call (by assumption) ?_))); exact cells3 (Blk.new _ _ _); (unfold maxLen; omega); omega; (simp; omega); intro x2 w2 hown2 hg2 _ hloc))
        have hb2 : Below w.heap.size w w2 := below_grown (own_ge hown) (by simp; omega) hg2 (by repeat (first | with_reducible exact Below.refl _ _ | with_reducible assumption | with_reducible apply Below.drew | with_reducible apply below_drewN | (with_reducible apply below_setp; (first | omega | (simp <;> omega))) | (with_reducible apply below_allocp; (first | omega | (simp <;> omega))) | (with_reducible refine below_viap (by assumption) ?_ ?_; (first | omega | (simp <;> omega)))))
        have ho2 := own_snoc hx.out hown2
        have hol1 : (v2.alloc (Obj.cells #[Value.int IntKind.i64 f.a, Value.int IntKind.i64 f.b, Value.int IntKind.i64 f.c] 26)).ownsRow B 26 3 (.slice (some ⟨g, 0, none⟩) L.length cap) L.length (cellsF L) := (by repeat (first | with_reducible assumption | with_reducible apply own_alloc | with_reducible apply own_drew | with_reducible apply own_drewN | (with_reducible refine own_setp (by assumption) ?_ ?_; (first | omega | (simp <;> omega))) | (with_reducible refine own_call (by assumption) ?_)))
        have hol2 := hol1.kept hg2 hap
        have hap2 := apart_next hap hol1 (Nat.le_refl _) hloc
        clear hg2 hown2 hown hbel howl hap hol1 hloc
        go_wp2
        go_roundw
        case rel => exact ⟨k + 1, rfl, hlt, ho2, hol2, hap2, hb2⟩
        case measure => simp [intOf]; omega
      · have hx := Lib.hid (Hft.out.trans (by rw [if_neg hp, List.append_nil]))
        have hp2 : p f = false := by simpa using hp
        rw [hp2] at hpf
        have Hpf := Lib.hid hpf
        clear hp hp2 hpf
        go_wp2_with (first
          | (go_at_call 82; refine (hG.out _).mono ?_; rintro e v1 ⟨vg, rfl, howg, hB1⟩; have hZ1 := hB1.size; (try simp at hZ1); have hA1 : Blk v1 wr.heap.size 26 #[.int .i64 f.a, .int .i64 f.b, .int .i64 f.c] := Blk.call (by (repeat (first | with_reducible assumption | (with_reducible apply Blk.new_at; (first | rfl | (simp; done))) | with_reducible apply Blk.store3 | with_reducible apply Blk.store4 | (with_reducible apply Blk.farp; (first | omega | (simp <;> omega))) | with_reducible apply Blk.allocp | with_reducible apply Blk.drew | with_reducible apply Blk.drewN))) hB1; have cA1 := hA1.cell; have fA1 := hA1.frozen; have lA1 := hA1.lt; have howv1 := own_call hB1 (own_alloc howv))
          | (go_at_call 122; refine (l1Same_any _ _ _ B2 X V _ hXl hV howg howv1).mono ?_; rw [Hpf.out]; rintro e v2 ⟨rfl, hB2⟩; have hZ2 := hB2.size; (try simp at hZ2)))
        go_roundw
        case rel => exact ⟨k + 1, rfl, hlt, by rw [hx.out]; exact (by repeat (first | with_reducible assumption | with_reducible apply own_alloc | with_reducible apply own_drew | with_reducible apply own_drewN | (with_reducible refine own_setp (by assumption) ?_ ?_; (first | omega | (simp <;> omega))) | (with_reducible refine own_call (by assumption) ?_))), (by repeat (first | with_reducible assumption | with_reducible apply own_alloc | with_reducible apply own_drew | with_reducible apply own_drewN | (with_reducible refine own_setp (by assumption) ?_ ?_; (first | omega | (simp <;> omega))) | (with_reducible refine own_call (by assumption) ?_))), hap, (by repeat (first | with_reducible exact Below.refl _ _ | with_reducible assumption | with_reducible apply Below.drew | with_reducible apply below_drewN | (with_reducible apply below_setp; (first | omega | (simp <;> omega))) | (with_reducible apply below_allocp; (first | omega | (simp <;> omega))) | (with_reducible refine below_viap (by assumption) ?_ ?_; (first | omega | (simp <;> omega)))))⟩
        case measure => simp [intOf]; omega
    · have e : k = L.length := by omega
      have hx : (L.take k).filter p = L.filter p := by rw [e, List.take_length]
      have Hx := Lib.hid hx
      clear hx
      subst e
      go_wp2
      go_ret
      exact ⟨_, rfl, by rw [← Hx.out]; exact hown, hbel⟩
end Go.Proofs.Ytononfokhdmofaa
