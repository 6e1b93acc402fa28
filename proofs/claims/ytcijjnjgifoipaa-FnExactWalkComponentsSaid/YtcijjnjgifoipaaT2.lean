/- Contracts: the class group with the map of its indices. -/
import Derived.Test.YtcijjnjgifoipaaT1
import Derived.Test.YtcijjnjgifoipaaK2
import Derived.Maps.OwnOps
namespace Go.Proofs.Ytcijjnjgifoipaa
open Go.RowKit Go.Maps

theorem zeroInt_T (w : World) : (zeroValue 3).run Try.prog w = .ok (.int .i64 0) w := by kernel_rfl
/-- The map tells the index of each of the first k forms. -/
def IdxM (D : DataW Unit) (L : List Fm) (k : Nat) : Prop := IsMap D ∧ ∀ i (h : i < L.length), i < k → D.atKey (klF L[i]) (.lit (.int .i64 0)) = .lit (.int .i64 i)
theorem IdxM.made (L : List Fm) : IdxM (.map []) L 0 := ⟨isMap_empty, fun _ _ h => absurd h (Nat.not_lt_zero _)⟩
set_option maxRecDepth 100000 in
theorem IdxM.put {D : DataW Unit} {L : List Fm} {k : Nat} (h : IdxM D L k) (hn : L.Pairwise (· ≠ ·)) (hw : ∀ f ∈ L, WfF f) (hk : k < L.length) : IdxM (D.put (klF L[k]) (.lit (.int .i64 k))) L (k + 1) := by
  refine ⟨h.1.put _ _, fun i hi hik => ?_⟩
  by_cases e : i = k
  · subst e
    exact atKey_put_same h.1 (isKey_klF (hw _ (List.getElem_mem _))) _ _
  · have e2 : klF L[i] ≠ klF L[k] := fun he =>
      List.pairwise_iff_getElem.1 hn i k hi hk (by omega) (klF_inj (hw _ (List.getElem_mem _)) (hw _ (List.getElem_mem _)) he)
    exact (atKey_put_other e2 _ _).trans (h.2 i hi (by omega))

/-- The class group at block G: the list of classes and the map of their indices. -/
def Grp (L : List Fm) (B G : Nat) (w : World) : Prop :=
  ∃ (base : Option Addr) (cap M : Nat) (D : DataW Unit), Blk w G 62 #[.slice base L.length cap, .map (some M)] ∧ w.ownsRow B 32 3 (.slice base L.length cap) L.length (cellsF L) ∧
    w.ownsMap Try.prog 32 (plainElem Try.prog 3) M L.length D ∧ IdxM D L L.length
theorem Grp.call {L : List Fm} {B G : Nat} {w w' : World} (h : Grp L B G w) (hb : Below w.heap.size w w') : Grp L B G w' := by
  obtain ⟨base, cap, M, D, h1, h2, h3, h4⟩ := h
  exact ⟨base, cap, M, D, Blk.call h1 hb, own_call hb h2, ownsMap_below h3 hb h3.lt, h4⟩
/-- What groupOf gives. -/
def RetG (L : List Fm) (w : World) (e : Ending) (w' : World) : Prop := ∃ G, e = .returned (.pointer (some ⟨G, 0, none⟩)) ∧ Grp L w.heap.size G w' ∧ w.heap.size ≤ G ∧ Below w.heap.size w w'
/-- The state of the loop that fills the map. -/
def GoSt (L : List Fm) (B M G : Nat) (vl : Value) (w : World) (vi : Value) (wr : World) : Prop :=
  ∃ (k : Nat) (D : DataW Unit), vi = .int .i64 k ∧ k ≤ L.length ∧ Hid (wr.ownsMap Try.prog 32 (plainElem Try.prog 3) M k D) ∧ Hid (IdxM D L k) ∧
    wr.ownsRow B 32 3 vl L.length (cellsF L) ∧ Hid (Blk wr G 62 #[vl, .map (some M)]) ∧ Below w.heap.size w wr

set_option maxRecDepth 100000 in
set_option maxHeartbeats 3200000 in
theorem groupOf_any (d : Int) (w : World) (hD : Dsc d) :
    Calls Try.prog 34 #[.int .i64 d] w (RetG (clsL d) w) := by
  have hl : (clsL d).length ≤ 100000 := Nat.le_trans (clsL_len d) (by decide)
  have Hr := Lib.hid (fun w => reducedForms_any d w hD.lo hD.hi)
  have hwf := Lib.hid (fun f (h : f ∈ clsL d) => cls_wf hD.lo h)
  have hnd := Lib.hid (clsL_nodup d)
  have hmm := @run_makeMap Try.prog
  generalize clsL d = L at *
  go_enter Try.func34, Try.ntmps34
  go_wp2_with (go_at_call 69; refine (Hr.out _).mono ?_; rintro e w1 ⟨vl, rfl, howl, hb1⟩; obtain ⟨base, cap, rfl⟩ := own_shape howl)
  have hz1' := hb1.size
  have hMw : w.heap.size ≤ w1.heap.size := hz1'
  have hM := World.ownsMap_made (H := Unit) w1 Try.prog 32 (plainElem Try.prog 3)
  obtain ⟨B, hB⟩ : ∃ B : Nat, B = w.heap.size := ⟨_, rfl⟩
  rw [← hB] at howl
  have hap0 : (Value.slice base L.length cap).ownBlock = none ∨ (Value.slice base L.length cap).ownBlock ≠ some w1.heap.size := by
    cases h3 : (Value.slice base L.length cap).ownBlock with
    | none => exact .inl rfl
    | some b => exact .inr (fun he => by have := (howl.lt b h3).2; injection he with he; omega)
  go_loopw [16] (fun i wr => GoSt L B w1.heap.size (w1.heap.size + 1) (.slice base L.length cap) w i wr) (fun i _ => L.length - (intOf i).toNat)
  case atStart => exact ⟨0, _, rfl, Nat.zero_le _, Lib.hid (hM.alloc _), Lib.hid (IdxM.made L), own_alloc (own_alloc howl), Lib.hid (Blk.new_at (by simp)), (by repeat (first | with_reducible exact Below.refl _ _ | with_reducible assumption | with_reducible apply Below.drew | with_reducible apply below_drewN | (with_reducible apply below_setp; (first | omega | (simp <;> omega))) | (with_reducible apply below_allocp; (first | omega | (simp <;> omega))) | (with_reducible refine below_viap (by assumption) ?_ ?_; (first | omega | (simp <;> omega)))))⟩
  case round =>
    clear howl hb1 hz1' hM
    obtain ⟨k, D, rfl, hk, hmap, hidx, howl, hblk, hbel⟩ := hrel
    have hz := hbel.size
    have hml := hmap.out.lt
    have cG := hblk.out.cell; have fG := hblk.out.frozen; have lG := hblk.out.lt
    by_cases hlt : k < L.length
    · obtain ⟨g, rfl, hg2, d1, d2, d3⟩ := own_elem howl hlt
      have hW : WfF L[k] := hwf.out _ (List.getElem_mem hlt)
      have hidx2 := Lib.hid (hidx.out.put hnd.out hwf.out hlt)
      generalize L[k] = f at d1 d2 d3 hW hidx2
      have hkey := key_klF hW
      have hwk : (Lit.int .i64 (k : Int)).wf = true := wf_small (by omega) (by omega)
      obtain ⟨w2, hrun, hown2, hgrow2⟩ := (World.ownsMap.drew (hmap.out.alloc (.cells #[.int .i64 f.a, .int .i64 f.b, .int .i64 f.c] 32))).update law_K1 Try.underlying60 (by unfold maxLen; omega) hkey (plainElem_int Try.underlying3 hwk)
      have hrun2 : (Instr.mapUpdate 60 (.map (some w1.heap.size)) (.agg #[.int .i64 f.a, .int .i64 f.b, .int .i64 f.c]) (.int .i64 k)).run Try.prog (wr.alloc (.cells #[.int .i64 f.a, .int .i64 f.b, .int .i64 f.c] 32)).drew = .ok () w2 := hrun
      have Hown2 := Lib.hid hown2
      have hol1 : (wr.alloc (.cells #[.int .i64 f.a, .int .i64 f.b, .int .i64 f.c] 32)).drew.ownsRow B 32 3 (.slice (some ⟨g, 0, none⟩) L.length cap) L.length (cellsF L) := (by repeat (first | with_reducible assumption | with_reducible apply own_alloc | with_reducible apply own_drew | with_reducible apply own_drewN | (with_reducible refine own_setp (by assumption) ?_ ?_; (first | omega | (simp <;> omega))) | (with_reducible refine own_call (by assumption) ?_)))
      have hol2 := Lib.hid (hol1.kept hgrow2 hap0)
      have hbel1 : Below w.heap.size w (wr.alloc (.cells #[.int .i64 f.a, .int .i64 f.b, .int .i64 f.c] 32)).drew := (by repeat (first | with_reducible exact Below.refl _ _ | with_reducible assumption | with_reducible apply Below.drew | with_reducible apply below_drewN | (with_reducible apply below_setp; (first | omega | (simp <;> omega))) | (with_reducible apply below_allocp; (first | omega | (simp <;> omega))) | (with_reducible refine below_viap (by assumption) ?_ ?_; (first | omega | (simp <;> omega)))))
      have hbel2 := Lib.hid (hbel1.grown hgrow2 hbel1.size (fun q hq => by injection hq with hq; omega))
      have hblk1 : Blk (wr.alloc (.cells #[.int .i64 f.a, .int .i64 f.b, .int .i64 f.c] 32)).drew (w1.heap.size + 1) 62 #[.slice (some ⟨g, 0, none⟩) L.length cap, .map (some w1.heap.size)] := Blk.drew (Blk.allocp hblk.out)
      have hblk2 := Lib.hid (hblk1.grown hgrow2 (fun he => by injection he with he; omega))
      clear hidx hgrow2 hown2 hrun hol1 hbel1 hblk1 hkey hmap hblk
      go_wp2
      go_region
      all_goals
        go_wp2
        exact ⟨⟨k + 1, _, rfl, hlt, Hown2, hidx2, hol2.out, hblk2, hbel2.out⟩, by simp [intOf]; omega⟩
    · have e : k = L.length := by omega
      have Hmap := Lib.hid (show wr.ownsMap Try.prog 32 (plainElem Try.prog 3) w1.heap.size L.length D from e ▸ hmap.out)
      have Hidx := Lib.hid (show IdxM D L L.length from e ▸ hidx.out)
      clear hmap hidx
      subst e
      go_wp2
      go_ret
      exact ⟨_, rfl, ⟨base, cap, _, D, hblk.out, hB ▸ howl, Hmap.out, Hidx.out⟩, by omega, hbel⟩
end Go.Proofs.Ytcijjnjgifoipaa
