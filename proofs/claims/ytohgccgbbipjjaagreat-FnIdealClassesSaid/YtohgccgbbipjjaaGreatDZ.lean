/- Parts D6 D7 D8 laid together by tp.py. -/
import Derived.Test.YtohgccgbbipjjaaGreatDY
import Derived.Test.YtohgccgbbipjjaaGreatCA
import Derived.Deep.DeepCutAuto
namespace Go.Proofs.YtohgccgbbipjjaaGreat
section
open Go.RowKit

/-- A value of a form, as Go reckons it. -/
def atW (a b c x y : Int) : Int := wrap64 (wrap64 (wrap64 (wrap64 (a * x) * x) + wrap64 (wrap64 (b * x) * y)) + wrap64 (wrap64 (c * y) * y))
def polW (a b c x y u v : Int) : Int := wrap64 (wrap64 (wrap64 (wrap64 (wrap64 (2 * a) * x) * u) + wrap64 (b * wrap64 (wrap64 (x * v) + wrap64 (y * u)))) + wrap64 (wrap64 (wrap64 (2 * c) * y) * v))
set_option maxHeartbeats 400000 in
theorem foValue_w (a b c x y : Int) (w : World) :
    Calls Tryz.prog 129 #[.agg #[.int .i64 a, .int .i64 b, .int .i64 c], .int .i64 x, .int .i64 y] w fun e w' => e = .returned (.int .i64 (atW a b c x y)) ∧ Below w.heap.size w w' := by
  go_enter Tryz.func129, Tryz.ntmps129
  go_wp2
  go_ret
  exact ⟨ret_int (by unfold atW; rfl), (by repeat (first | with_reducible exact Below.refl _ _ | with_reducible assumption | with_reducible apply Below.drew | with_reducible apply below_drewN | (with_reducible apply below_setp; (first | omega | (simp <;> omega))) | (with_reducible apply below_allocp; (first | omega | (simp <;> omega))) | (with_reducible refine below_viap (by assumption) ?_ ?_; (first | omega | (simp <;> omega)))))⟩
set_option maxHeartbeats 400000 in
theorem foPolar_w (a b c x y u v : Int) (w : World) :
    Calls Tryz.prog 130 #[.agg #[.int .i64 a, .int .i64 b, .int .i64 c], .int .i64 x, .int .i64 y, .int .i64 u, .int .i64 v] w fun e w' => e = .returned (.int .i64 (polW a b c x y u v)) ∧ Below w.heap.size w w' := by
  go_enter Tryz.func130, Tryz.ntmps130
  go_wp2
  go_ret
  exact ⟨ret_int (by unfold polW; rfl), (by repeat (first | with_reducible exact Below.refl _ _ | with_reducible assumption | with_reducible apply Below.drew | with_reducible apply below_drewN | (with_reducible apply below_setp; (first | omega | (simp <;> omega))) | (with_reducible apply below_allocp; (first | omega | (simp <;> omega))) | (with_reducible refine below_viap (by assumption) ?_ ?_; (first | omega | (simp <;> omega)))))⟩
set_option maxHeartbeats 800000 in
theorem foAct_w (a b c p q r s : Int) (w : World) :
    Calls Tryz.prog 115 #[.agg #[.int .i64 a, .int .i64 b, .int .i64 c], .agg #[.int .i64 p, .int .i64 q, .int .i64 r, .int .i64 s]] w fun e w' =>
      e = .returned (.agg #[.int .i64 (atW a b c p r), .int .i64 (polW a b c p r q s), .int .i64 (atW a b c q s)]) ∧ Below w.heap.size w w' := by
  go_enter Tryz.func115, Tryz.ntmps115
  go_wp2
  refine wp_region_calm 23 (Below (w.heap.size + 3) _) (by kernel_rfl) (by kernel_rfl) ((Below.refl _ _).drew) ?_
  simp only [List.take_succ_cons, List.take_zero, List.drop_succ_cons, List.drop_zero]
  repeat (first | (apply wpCalm_go; go_simp; (intro w' hw' hcc hff; go_simp; first | exact rfl | (refine (foValue_w a b c _ _ _).mono ?_; rintro e w1 ⟨rfl, hb⟩; exact ⟨rfl, calm_call (by simp <;> omega) hw' hb⟩) | (refine (foPolar_w a b c _ _ _ _ _).mono ?_; rintro e w1 ⟨rfl, hb⟩; exact ⟨rfl, calm_call (by simp <;> omega) hw' hb⟩)); (intro K hK; go_simp; refine hK _ ?_; clear hK K)) | (apply wpCalm_skip; go_simp; (try (focus (simp [undef]; done))); (intro K hK; go_simp; refine hK _ ?_; clear hK K)))
  refine wpCalm_nil ?_
  intro w1 hw1
  have hcc := (calm_cells hw1).1
  have hff := (calm_cells hw1).2
  have hss := calm_size hw1
  have hsz := hw1.size
  (try simp at hsz)
  go_wp2
  exact bodyPost_ret (v := .agg #[.int .i64 (atW a b c p r), .int .i64 (polW a b c p r q s), .int .i64 (atW a b c q s)]) (by simp [results, Tryz.results115, go_sem, *]) rfl ⟨rfl, (by repeat (first | with_reducible exact Below.refl _ _ | with_reducible assumption | with_reducible apply Below.drew | with_reducible apply below_drewN | (with_reducible apply below_setp; (first | omega | (simp <;> omega))) | (with_reducible apply below_allocp; (first | omega | (simp <;> omega))) | (with_reducible refine below_viap (by assumption) ?_ ?_; (first | omega | (simp <;> omega)))))⟩

section
variable {zs : List Int} {v : Value} {B G n m : Nat} {w0 w w1 w2 : World}
end
end

section
open Go.RowKit

theorem dsc_D7 {d : Int} (h : isDisc d = true) : Dsc d := by
  unfold isDisc at h
  simp only [Bool.and_eq_true, decide_eq_true_eq] at h
  exact ⟨h.1, h.2.1, h.2.2⟩
theorem grown_calm {G : Nat} {W v1 : World} (h : W.grownBy v1 (some G)) : (∀ b o, b < W.heap.size → ¬ b = G → v1.cell? ⟨b, o, none⟩ = W.cell? ⟨b, o, none⟩) ∧ (∀ b o, b < W.heap.size → ¬ b = G → v1.frozen? ⟨b, o, none⟩ = W.frozen? ⟨b, o, none⟩) := by
  have k : ∀ b, b < W.heap.size → ¬ b = G → v1.heap[b]? = W.heap[b]? := fun b hb hn => h.block b hb (fun e => hn (by injection e with e))
  refine ⟨fun b o hb hn => ?_, fun b o hb hn => ?_⟩
  · simp only [World.cell?, k b hb hn]
  · simp only [World.frozen?, k b hb hn]
section
variable {zs : List Int} {v : Value} {B G n m : Nat} {w0 w w1 w2 : World}
set_option maxRecDepth 100000 in
set_option maxHeartbeats 1600000 in
theorem reduced_d (h : Drw zs v B G n w0 w) (hB : B ≤ G) (hn : n + 2 ≤ 100000000) (d : Int) (hd : isDisc d = true) :
    Calls Tryz.prog 105 #[.pointer (some ⟨G, 0, none⟩), .int .i64 d] w fun e w' => ∃ f : Fm, e = .returned (.agg #[.int .i64 f.a, .int .i64 f.b, .int .i64 f.c]) ∧ f ∈ clsL d ∧ Drw zs v B G (n + 2) w0 w' ∧ w.grownBy w' (some G) := by
  have D := dsc_D7 hd
  have H := Lib.hid h
  have lG0 := h.lt
  have hD0 := Lib.hid (Drw.start h.rd h.cur)
  clear h
  have hL0 : 1 ≤ (clsL d).length := List.length_pos_of_mem D.one
  have hL1 := clsL_len d
  have HG := Lib.hid (fun w => reList_any d w D.lo D.hi)
  have hfin : Hid (∀ (x y z : Int) (w' : World), ⟨x, y, z⟩ ∈ clsL d → Drw zs v B G (n + 2) w w' → ∃ f : Fm, Ending.returned (.agg #[.int .i64 x, .int .i64 y, .int .i64 z]) = .returned (.agg #[.int .i64 f.a, .int .i64 f.b, .int .i64 f.c]) ∧ f ∈ clsL d ∧ Drw zs v B G (n + 2) w0 w' ∧ w.grownBy w' (some G)) :=
    Lib.hid (fun x y z w' hx hd => ⟨⟨x, y, z⟩, rfl, hx, H.out.next hB hd.cur hd.gr, hd.gr⟩)
  generalize clsL d = L at *
  clear D hd
  go_enter Tryz.func105, Tryz.ntmps105
  go_wp2_with fail
  refine (HG.out _).mono ?_
  rintro e v1 ⟨vl, rfl, ho1, hb1⟩
  obtain ⟨base, cap, rfl⟩ := own_shape ho1
  have hz1 := hb1.size
  (try simp at hz1)
  have hD1 := Lib.hid ((Drw.alloc hD0.out _).call hB hb1)
  have hA1 : Blk v1 w.heap.size 29 #[.int .i64 0, .int .i64 0, .int .i64 0] := Blk.call (by (repeat (first | with_reducible assumption | (with_reducible apply Blk.new_at; (first | rfl | (simp; done))) | with_reducible apply Blk.store3 | with_reducible apply Blk.store4 | (with_reducible apply Blk.farp; (first | omega | (simp <;> omega))) | with_reducible apply Blk.allocp | with_reducible apply Blk.drew | with_reducible apply Blk.drewN))) hb1
  have lG1 := hD1.out.lt
  have HO1 := Lib.hid ho1
  have h64 : wrap64 (L.length : Int) = L.length := IntWalk.wrap64_in _ (by omega)
  clear ho1 hb1
  go_wp2_with fail
  refine (pick_d (w0 := w) (Hid.out hD1) hB L.length (by omega) (by omega)).mono ?_
  rintro e v2 ⟨x2, rfl, hx2, hD2', hG2⟩
  have hD2 := Lib.hid hD2'
  have hA2 := hA1.grown hG2 (by simp; omega)
  have ho2 := own_drw HO1.out (by simp; omega) hG2
  have hz2 := hG2.size
  obtain ⟨k, rfl⟩ : ∃ k : Nat, x2 = k := ⟨x2.toNat, by omega⟩
  have hk : k < L.length := by omega
  obtain ⟨g, rfl, lg, c1, c2, c3⟩ := own_elem ho2 hk
  have hm := List.getElem_mem hk
  have Hm := Lib.hid (show (⟨L[k].a, L[k].b, L[k].c⟩ : Fm) ∈ L from hm)
  generalize L[k].a = x at c1 Hm
  generalize L[k].b = y at c2 Hm
  generalize L[k].c = z at c3 Hm
  have cA2 := hA2.cell; have fA2 := hA2.frozen; have lA2 := hA2.lt
  clear hD2' hG2 ho2 HO1 hm
  go_wp2
  exact bodyPost_ret (v := .agg #[.int .i64 x, .int .i64 y, .int .i64 z]) (by simp [results, Tryz.results105, go_sem, *]) rfl (hfin.out _ _ _ _ Hm.out (by have hd := hD2.out; clear hD1 hD0 hD2; exact (by repeat (first | with_reducible assumption | (with_reducible apply Hid.out; assumption) | with_reducible apply Drw.drewN | with_reducible apply Drw.drew | with_reducible apply Drw.alloc | (with_reducible refine Drw.setp ?_ ?_ ?_ ?_; (first | omega | (simp <;> omega)); (first | omega | (simp <;> omega)); (first | omega | (simp <;> omega)))))))
end
end

section
open Go.RowKit

section
variable {zs : List Int} {v : Value} {B G n m : Nat} {w0 w w1 w2 : World}
end
end
end Go.Proofs.YtohgccgbbipjjaaGreat
