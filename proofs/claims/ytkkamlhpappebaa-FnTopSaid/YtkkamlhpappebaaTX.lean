/- Parts T2 T3 T4 laid together by tp.py. -/
import Derived.Test.YtkkamlhpappebaaKT
import Derived.Test.YtkkamlhpappebaaK2
import Derived.Maps.OwnOps
import Derived.Test.YtkkamlhpappebaaW4
import Derived.Test.YtkkamlhpappebaaN5
namespace Go.Proofs.Ytkkamlhpappebaa
section
open Go.RowKit Go.Maps

theorem zeroInt_T (w : World) : (zeroValue 3).run Try.prog w = .ok (.int .i64 0) w := by kernel_rfl
/-- The map tells the index of each of the first k forms. -/
def IdxM (D : DataW Unit) (L : List Fm) (k : Nat) : Prop := IsMap D ∧ ∀ i (h : i < L.length), i < k → D.atKey (klF L[i]) (.lit (.int .i64 0)) = .lit (.int .i64 i)
theorem IdxM.made (L : List Fm) : IdxM (.map []) L 0 := ⟨isMap_empty, fun _ _ h => absurd h (Nat.not_lt_zero _)⟩
set_option maxRecDepth 100000 in
theorem IdxM.put {D : DataW Unit} {L : List Fm} {k : Nat} (h : IdxM D L k) (hn : L.Pairwise (· ≠ ·)) (hw : ∀ f ∈ L, WfF f) (hk : k < L.length) : IdxM (D.put (klF L[k]) (.lit (.int .i64 k))) L (k + 1) := by
  refine ⟨h.1.put _ _, fun i hi hik => ?_⟩
  by_cases e : i = k
  · subst e
    exact atKey_put_same h.1 (isKey_klF (hw _ (List.getElem_mem _))) _ _
  · have e2 : klF L[i] ≠ klF L[k] := fun he =>
      List.pairwise_iff_getElem.1 hn i k hi hk (by omega) (klF_inj (hw _ (List.getElem_mem _)) (hw _ (List.getElem_mem _)) he)
    exact (atKey_put_other e2 _ _).trans (h.2 i hi (by omega))

/-- The class group at block G: the list of classes and the map of their indices. -/
def Grp (L : List Fm) (B G : Nat) (w : World) : Prop :=
  ∃ (base : Option Addr) (cap M : Nat) (D : DataW Unit), Blk w G 138 #[.slice base L.length cap, .map (some M)] ∧ w.ownsRow B 35 3 (.slice base L.length cap) L.length (cellsF L) ∧
    w.ownsMap Try.prog 35 (plainElem Try.prog 3) M L.length D ∧ IdxM D L L.length
theorem Grp.call {L : List Fm} {B G : Nat} {w w' : World} (h : Grp L B G w) (hb : Below w.heap.size w w') : Grp L B G w' := by
  obtain ⟨base, cap, M, D, h1, h2, h3, h4⟩ := h
  exact ⟨base, cap, M, D, Blk.call h1 hb, own_call hb h2, ownsMap_below h3 hb h3.lt, h4⟩
/-- What groupOf gives. -/
def RetG (L : List Fm) (w : World) (e : Ending) (w' : World) : Prop := ∃ G, e = .returned (.pointer (some ⟨G, 0, none⟩)) ∧ Grp L w.heap.size G w' ∧ w.heap.size ≤ G ∧ Below w.heap.size w w'
/-- The state of the loop that fills the map. -/
def GoSt (L : List Fm) (B M G : Nat) (vl : Value) (w : World) (vi : Value) (wr : World) : Prop :=
  ∃ (k : Nat) (D : DataW Unit), vi = .int .i64 k ∧ k ≤ L.length ∧ Hid (wr.ownsMap Try.prog 35 (plainElem Try.prog 3) M k D) ∧ Hid (IdxM D L k) ∧
    wr.ownsRow B 35 3 vl L.length (cellsF L) ∧ Hid (Blk wr G 138 #[vl, .map (some M)]) ∧ Below w.heap.size w wr

set_option maxRecDepth 100000 in
set_option maxHeartbeats 3200000 in
theorem groupOf_any (d : Int) (w : World) (hD : Dsc d) :
    Calls Try.prog 79 #[.int .i64 d] w (RetG (clsL d) w) := by
  have hl : (clsL d).length ≤ 100000 := Nat.le_trans (clsL_len d) (by decide)
  have Hr := Lib.hid (fun w => reducedForms_any d w hD.lo hD.hi)
  have hwf := Lib.hid (fun f (h : f ∈ clsL d) => cls_wf hD.lo h)
  have hnd := Lib.hid (clsL_nodup d)
  have hmm := @run_makeMap Try.prog
  generalize clsL d = L at *
  go_enter Try.func79, Try.ntmps79
  go_wp2_with (go_at_call 77; refine (Hr.out _).mono ?_; rintro e w1 ⟨vl, rfl, howl, hb1⟩; obtain ⟨base, cap, rfl⟩ := own_shape howl)
  have hz1' := hb1.size
  have hMw : w.heap.size ≤ w1.heap.size := hz1'
  have hM := World.ownsMap_made (H := Unit) w1 Try.prog 35 (plainElem Try.prog 3)
  obtain ⟨B, hB⟩ : ∃ B : Nat, B = w.heap.size := ⟨_, rfl⟩
  rw [← hB] at howl
  have hap0 : (Value.slice base L.length cap).ownBlock = none ∨ (Value.slice base L.length cap).ownBlock ≠ some w1.heap.size := by
    cases h3 : (Value.slice base L.length cap).ownBlock with
    | none => exact .inl rfl
    | some b => exact .inr (fun he => by have := (howl.lt b h3).2; injection he with he; omega)
  go_loopw [16] (fun i wr => GoSt L B w1.heap.size (w1.heap.size + 1) (.slice base L.length cap) w i wr) (fun i _ => L.length - (intOf i).toNat)
  case atStart => exact ⟨0, _, rfl, Nat.zero_le _, Lib.hid (hM.alloc _), Lib.hid (IdxM.made L), own_alloc (own_alloc howl), Lib.hid (Blk.new_at (by simp)), (by repeat (first | with_reducible exact Below.refl _ _ | with_reducible assumption | with_reducible apply Below.drew | with_reducible apply below_drewN | (with_reducible apply below_setp; (first | omega | (simp <;> omega))) | (with_reducible apply below_allocp; (first | omega | (simp <;> omega))) | (with_reducible refine below_viap (by assumption) ?_ ?_; (first | omega | (simp <;> omega)))))⟩
  case round =>
    clear howl hb1 hz1' hM
    obtain ⟨k, D, rfl, hk, hmap, hidx, howl, hblk, hbel⟩ := hrel
    have hz := hbel.size
    have hml := hmap.out.lt
    have cG := hblk.out.cell; have fG := hblk.out.frozen; have lG := hblk.out.lt
    by_cases hlt : k < L.length
    · obtain ⟨g, rfl, hg2, d1, d2, d3⟩ := own_elem howl hlt
      have hW : WfF L[k] := hwf.out _ (List.getElem_mem hlt)
      have hidx2 := Lib.hid (hidx.out.put hnd.out hwf.out hlt)
      generalize L[k] = f at d1 d2 d3 hW hidx2
      have hkey := key_klF hW
      have hwk : (Lit.int .i64 (k : Int)).wf = true := wf_small (by omega) (by omega)
      obtain ⟨w2, hrun, hown2, hgrow2⟩ := (World.ownsMap.drew (hmap.out.alloc (.cells #[.int .i64 f.a, .int .i64 f.b, .int .i64 f.c] 35))).update law_K1 Try.underlying136 (by unfold maxLen; omega) hkey (plainElem_int Try.underlying3 hwk)
      have hrun2 : (Instr.mapUpdate 136 (.map (some w1.heap.size)) (.agg #[.int .i64 f.a, .int .i64 f.b, .int .i64 f.c]) (.int .i64 k)).run Try.prog (wr.alloc (.cells #[.int .i64 f.a, .int .i64 f.b, .int .i64 f.c] 35)).drew = .ok () w2 := hrun
      have Hown2 := Lib.hid hown2
      have hol1 : (wr.alloc (.cells #[.int .i64 f.a, .int .i64 f.b, .int .i64 f.c] 35)).drew.ownsRow B 35 3 (.slice (some ⟨g, 0, none⟩) L.length cap) L.length (cellsF L) := (by repeat (first | with_reducible assumption | with_reducible apply own_alloc | with_reducible apply own_drew | with_reducible apply own_drewN | (with_reducible refine own_setp (by assumption) ?_ ?_; (first | omega | (simp <;> omega))) | (with_reducible refine own_call (by assumption) ?_)))
      have hol2 := Lib.hid (hol1.kept hgrow2 hap0)
      have hbel1 : Below w.heap.size w (wr.alloc (.cells #[.int .i64 f.a, .int .i64 f.b, .int .i64 f.c] 35)).drew := (by repeat (first | with_reducible exact Below.refl _ _ | with_reducible assumption | with_reducible apply Below.drew | with_reducible apply below_drewN | (with_reducible apply below_setp; (first | omega | (simp <;> omega))) | (with_reducible apply below_allocp; (first | omega | (simp <;> omega))) | (with_reducible refine below_viap (by assumption) ?_ ?_; (first | omega | (simp <;> omega)))))
      have hbel2 := Lib.hid (hbel1.grown hgrow2 hbel1.size (fun q hq => by injection hq with hq; omega))
      have hblk1 : Blk (wr.alloc (.cells #[.int .i64 f.a, .int .i64 f.b, .int .i64 f.c] 35)).drew (w1.heap.size + 1) 138 #[.slice (some ⟨g, 0, none⟩) L.length cap, .map (some w1.heap.size)] := Blk.drew (Blk.allocp hblk.out)
      have hblk2 := Lib.hid (hblk1.grown hgrow2 (fun he => by injection he with he; omega))
      clear hidx hgrow2 hown2 hrun hol1 hbel1 hblk1 hkey hmap hblk
      go_wp2
      go_region
      all_goals
        go_wp2
        exact ⟨⟨k + 1, _, rfl, hlt, Hown2, hidx2, hol2.out, hblk2, hbel2.out⟩, by simp [intOf]; omega⟩
    · have e : k = L.length := by omega
      have Hmap := Lib.hid (show wr.ownsMap Try.prog 35 (plainElem Try.prog 3) w1.heap.size L.length D from e ▸ hmap.out)
      have Hidx := Lib.hid (show IdxM D L L.length from e ▸ hidx.out)
      clear hmap hidx
      subst e
      go_wp2
      go_ret
      exact ⟨_, rfl, ⟨base, cap, _, D, hblk.out, hB ▸ howl, Hmap.out, Hidx.out⟩, by omega, hbel⟩
end

section
open Go.RowKit Go.Maps

set_option maxRecDepth 100000 in
/-- A look-up in the map of the indices. -/
theorem idx_run {L : List Fm} {w : World} {M n : Nat} {D : DataW Unit} {f : Fm} {j : Nat} (h : w.ownsMap Try.prog 35 (plainElem Try.prog 3) M n D) (hi : IdxM D L L.length) (hw : WfF f) (hj : j < L.length) (he : L[j] = f) :
    (Instr.lookup 136 (.map (some M)) (.agg #[.int .i64 f.a, .int .i64 f.b, .int .i64 f.c]) false).run Try.prog w = .ok (.int .i64 j) w := by
  obtain ⟨c, hrun, hat, _⟩ := h.lookup_int law_K1 Try.underlying136 Try.underlying3 (zeroInt_T w) (key_klF hw)
  have h2 := hi.2 j hj hj
  rw [he, hat] at h2
  injection h2 with h2; injection h2 with _ h2
  rw [h2] at hrun
  exact hrun

set_option maxRecDepth 100000 in
set_option maxHeartbeats 3200000 in
theorem gtimes_any (d : Int) (i k : Nat) (L : List Fm) (B G : Nat) (w : World) (hD : Dsc d) (hL : clsL d = L) (hi : i < L.length) (hk : k < L.length) (hg : Grp L B G w) :
    Calls Try.prog 145 #[.pointer (some ⟨G, 0, none⟩), .int .i64 i, .int .i64 k] w fun e w' => e = .returned (.int .i64 (gix L (cmp d L[i] L[k]))) ∧ Below w.heap.size w w' := by
  have hl : L.length ≤ 100000 := by rw [← hL]; exact Nat.le_trans (clsL_len d) (by decide)
  obtain ⟨base, cap, M, D, hblk, hown, hmap, hidx⟩ := hg
  have hml := hmap.lt
  have hmi : L[i] ∈ clsL d := by rw [hL]; exact List.getElem_mem hi
  have hmk : L[k] ∈ clsL d := by rw [hL]; exact List.getElem_mem hk
  have hmp := hD.cmpm hmi hmk
  have hW := cls_wf hD.lo hmp
  obtain ⟨g, rfl, hg2, d1, d2, d3⟩ := own_elem hown hi
  obtain ⟨g', hgg, _, e1, e2, e3⟩ := own_elem hown hk
  injection hgg with hgg; injection hgg with hgg; subst hgg
  have hc := Lib.hid (fun w => compose_cf d L[i] L[k] L[i] L[k] _ w (CF.of_mem hD hmi) (CF.of_mem hD hmk) rfl)
  rw [hL] at hmp
  obtain ⟨n, hn, hnp, hng⟩ := gix_mem hmp
  rw [hng]
  have cG := hblk.cell; have fG := hblk.frozen; have lG := hblk.lt
  have cG0 := cG 0; have cG1 := cG 1
  simp at cG0 cG1
  generalize L[i] = p at *
  generalize L[k] = q at *
  have Hm := Lib.hid hmap
  have Hi := Lib.hid hidx
  generalize Go.Proofs.Ytkkamlhpappebaa.cmp d p q = r at *
  have Hn := Lib.hid hnp
  clear hmap hidx hown hblk hL hmi hmk hmp hng hnp hD
  go_enter Try.func145, Try.ntmps145
  go_wp2
  go_region_held3 (fun w' => w'.cell? ⟨G, 0, none⟩ = some (.slice (some ⟨g, 0, none⟩) L.length cap) ∧ w'.cell? ⟨G, 1, none⟩ = some (.map (some M)) ∧ w'.cell? ⟨g, i * 3, none⟩ = some (.int .i64 p.a) ∧ w'.cell? ⟨g, i * 3 + 1, none⟩ = some (.int .i64 p.b) ∧ w'.cell? ⟨g, i * 3 + 2, none⟩ = some (.int .i64 p.c) ∧ w'.cell? ⟨g, k * 3, none⟩ = some (.int .i64 q.a) ∧ w'.cell? ⟨g, k * 3 + 1, none⟩ = some (.int .i64 q.b) ∧ w'.cell? ⟨g, k * 3 + 2, none⟩ = some (.int .i64 q.c)) (first | (go_keep; done) | (go_simp; done)) ((go_at_call 199; (with_reducible refine (hc.out _).mono ?_); rintro e h1 ⟨rfl, hb1⟩; have hcc := (calm_cells hb1).1; have hff := (calm_cells hb1).2; have hsz1 := hb1.size; (try simp at hsz1); have g1 := fun o => hcc G o (by first | omega | (simp <;> omega)); have g2 := fun o => hcc g o (by first | omega | (simp <;> omega)); have hrun := idx_run (ownsMap_below (World.ownsMap.drew Hm.out) hb1 (by simp; omega)) Hi.out hW hn Hn.out; clear hcc hff))
  go_wp2
  go_ret
  exact ⟨rfl, (by repeat (first | with_reducible exact Below.refl _ _ | with_reducible assumption | with_reducible apply Below.drew | with_reducible apply below_drewN | (with_reducible apply below_setp; (first | omega | (simp <;> omega))) | (with_reducible apply below_allocp; (first | omega | (simp <;> omega))) | (with_reducible refine below_viap (by assumption) ?_ ?_; (first | omega | (simp <;> omega)))))⟩
end

section
open Go.RowKit Go.Maps

def lenV : Value → Nat
  | .slice _ n _ => n
  | _ => 0
theorem own_one {w : World} {B : Nat} {e : TypeId} {u : Value} (hB : B ≤ w.heap.size) : (w.alloc (.cells #[u] e)).ownsRow B e 1 (.slice (some ⟨w.heap.size, 0, none⟩) 1 1) 1 [u] :=
  ⟨rfl, .inr ⟨w.heap.size, 1, #[u], rfl, hB, heap_alloc_new w _, Nat.le_refl _, by unfold maxLen; omega, rfl, rfl⟩⟩
theorem pwI_one {d : Int} {L : List Fm} (hD : Dsc d) (hL : clsL d = L) (f : Fm) : pwI d L f 1 = [0] := by
  have := gix_one hD
  rw [hL] at this
  unfold pwI
  simp [List.range_succ, pw, this]
/-- The state of the loop of the powers. -/
def PowSt (d : Int) (L : List Fm) (f : Fm) (N : Nat) (w : World) (v vp : Value) (wr : World) : Prop :=
  ∃ n : Nat, 1 ≤ n ∧ n ≤ N ∧ vp = .int .i64 (gix L (pw d f n)) ∧ lenV v = n ∧ wr.ownsRow w.heap.size 3 1 v (pwI d L f n).length (cellsI (pwI d L f n)) ∧ Below w.heap.size w wr

set_option maxRecDepth 100000 in
set_option maxHeartbeats 3200000 in
theorem gpowers_any (d : Int) (i N : Nat) (L : List Fm) (B G : Nat) (w : World) (hD : Dsc d) (hL : clsL d = L) (hi : i < L.length) (hN : IsOrd d L[i] N) (hN2 : N ≤ 1640) (hg : Grp L B G w) :
    Calls Try.prog 146 #[.pointer (some ⟨G, 0, none⟩), .int .i64 i] w (RetI (pwI d L L[i] N) w) := by
  obtain ⟨i0, hi0, hz0, hz1, hz2⟩ := info_parts infoInt
  have hl : L.length ≤ 100000 := by rw [← hL]; exact Nat.le_trans (clsL_len d) (by decide)
  have hmi : L[i] ∈ clsL d := by rw [hL]; exact List.getElem_mem hi
  have h1 : pwI d L L[i] 1 = [0] := pwI_one hD hL _
  have hT := Lib.hid (fun (m : Nat) (hm : m < L.length) w hg => gtimes_any d m i L B G w hD hL hm hi hg)
  have hgi : gix L (pw d L[i] 1) = i := by
    rw [hD.pw_one hmi]
    exact gix_get (hL ▸ clsL_nodup d) hi
  generalize L[i] = f at *
  have hst := Lib.hid (fun n (h1 : 1 ≤ n) (h2 : n ≤ N) => (show (gix L (pw d f n) = 0 ↔ n = N) from by
    have := gix_zero hD (hD.pwm hmi n)
    rw [hL] at this
    exact this.trans (ord_ne hN h1 h2)))
  have hel := Lib.hid (fun n => (show ∃ m : Nat, ∃ h : m < L.length, gix L (pw d f n) = m ∧ L[m] = pw d f n from by
    obtain ⟨m, a, b, c⟩ := gix_mem (L := L) (f := pw d f n) (by rw [← hL]; exact hD.pwm hmi n)
    exact ⟨m, a, c, b⟩))
  have HG := Lib.hid hg
  have Hn1 := hN.1
  clear hN hg hD hmi
  go_enter Try.func146, Try.ntmps146
  go_wp2
  go_loopw [5, 6] (fun v vp wr => PowSt d L f N w v vp wr) (fun v _ _ => N - lenV v)
  case atStart => exact ⟨1, Nat.le_refl _, Hn1, by rw [hgi], rfl, by rw [h1]; exact own_one (Nat.le_refl _), (by repeat (first | with_reducible exact Below.refl _ _ | with_reducible assumption | with_reducible apply Below.drew | with_reducible apply below_drewN | (with_reducible apply below_setp; (first | omega | (simp <;> omega))) | (with_reducible apply below_allocp; (first | omega | (simp <;> omega))) | (with_reducible refine below_viap (by assumption) ?_ ?_; (first | omega | (simp <;> omega)))))⟩
  case round =>
    clear hgi h1
    obtain ⟨n, n1, n2, rfl, hv, hown, hbel⟩ := hrel
    have hz := hbel.size
    obtain ⟨m, hm, hgm, hLm⟩ := hel.out n
    have hz0' := hst.out n n1 n2
    have hnx := Lib.hid (pwI_next d L f n)
    have hql : (pwI d L f n).length ≤ 100000 := by rw [pwI_len]; omega
    have hqn := pwI_len d L f n
    rw [hgm] at hz0' hnx ⊢
    have hT2 := Lib.hid (fun w hg => hT.out m hm w hg)
    rw [hLm] at hT2
    obtain ⟨Q, hQ⟩ : ∃ Q, pwI d L f n = Q := ⟨_, rfl⟩
    rw [hQ] at hown hnx hql hqn
    have HQ := Lib.hid hQ
    clear hQ
    by_cases he : n = N
    · have h0 : m = 0 := by have := hz0'.2 he; omega
      subst h0
      subst he
      clear hnx hz0'
      go_wp2
      go_ret
      refine ⟨_, rfl, ?_, hbel⟩
      rw [HQ.out]
      exact hown
    · have h0 : ((m : Int) == 0) = false := by rw [beq_eq_false_iff_ne]; intro h; exact he (hz0'.1 h)
      have h00 : ¬ m = 0 := by intro h; exact he (hz0'.1 (by omega))
      have hnN : n < N := by omega
      clear hz0' he
      go_wp2_with (first
        | (at_builtin; refine wpList_append_own_at _ rfl (.tmp 15) (.tmp 17) 30 rfl w.heap.size 3 i0 _ 1 8 Try.underlying30 hi0 hz0 hz1 hz2 rfl (by decide) u5 Q.length (cellsI Q) rfl ?_ ⟨wr.heap.size, 0, none⟩ 1 1 [.int .i64 m] rfl rfl ?_ (one1 _) ?_ ?_ ?_ ?_; exact (by repeat (first | with_reducible assumption | with_reducible apply own_alloc | with_reducible apply own_drew | with_reducible apply own_drewN | (with_reducible refine own_setp (by assumption) ?_ ?_; (first | omega | (simp <;> omega))) | (with_reducible refine own_call (by assumption) ?_))); exact cells1 (Blk.new _ _ _); (unfold maxLen; omega); omega; (simp; omega); intro x2 w2 hown2 hg2 _ _; have hb2 : Below w.heap.size w w2 := below_grown (own_ge hown) (by simp; omega) hg2 (by repeat (first | with_reducible exact Below.refl _ _ | with_reducible assumption | with_reducible apply Below.drew | with_reducible apply below_drewN | (with_reducible apply below_setp; (first | omega | (simp <;> omega))) | (with_reducible apply below_allocp; (first | omega | (simp <;> omega))) | (with_reducible refine below_viap (by assumption) ?_ ?_; (first | omega | (simp <;> omega))))); have hz2' := hb2.size)
        | (go_at_call 145; refine (hT2.out _ (HG.out.call hb2)).mono ?_; rintro e v3 ⟨rfl, hB3⟩; have hZ3 := hB3.size))
      have hon3 := own_call hB3 (own_snocI hnx.out hown2)
      have hb3 := below_via hb2 hB3 hz2'
      go_wp2
      go_roundw
      case rel => exact ⟨n + 1, by omega, by omega, rfl, by have := own_shape hown2; obtain ⟨_, _, rfl⟩ := this; simp [lenV]; omega, hon3, hb3⟩
      case measure => have := own_shape hown2; obtain ⟨_, _, rfl⟩ := this; simp only [lenV] at hv ⊢; omega

/-- The state of the loop of the orders. -/
def OrsSt (d : Int) (L : List Fm) (w : World) (v vi : Value) (wr : World) : Prop :=
  ∃ k : Nat, vi = .int .i64 k ∧ k ≤ L.length ∧ wr.ownsRow w.heap.size 3 1 v (ordsL d (L.take k)).length (cellsI (ordsL d (L.take k))) ∧ Below w.heap.size w wr

set_option maxRecDepth 100000 in
set_option maxHeartbeats 3200000 in
theorem gorders_any (d : Int) (L : List Fm) (B G : Nat) (w : World) (hD : Dsc d) (hL : clsL d = L) (hg : Grp L B G w) :
    Calls Try.prog 80 #[.pointer (some ⟨G, 0, none⟩)] w (RetI (ordsL d L) w) := by
  obtain ⟨i0, hi0, hz0, hz1, hz2⟩ := info_parts infoInt
  have hl : L.length ≤ 100000 := by rw [← hL]; exact Nat.le_trans (clsL_len d) (by decide)
  have hP := Lib.hid (fun (k : Nat) (hk : k < L.length) (w : World) (hg : Grp L B G w) => (show Calls Try.prog 146 #[.pointer (some ⟨G, 0, none⟩), .int .i64 k] w (RetI (pwI d L L[k] (ordF d L[k])) w) from by
    have hm : L[k] ∈ clsL d := by rw [hL]; exact List.getElem_mem hk
    obtain ⟨a, b⟩ := hD.ordm hm
    exact gpowers_any d k _ L B G w hD hL hk a b hg))
  have hN := Lib.hid (fun (k : Nat) (hk : k < L.length) => (hD.ordm (f := L[k]) (by rw [hL]; exact List.getElem_mem hk)).2)
  have HG := Lib.hid hg
  obtain ⟨base, cap, M, D, hblk, _, _, _⟩ := hg
  have cG := hblk.cell; have fG := hblk.frozen; have lG := hblk.lt
  clear hD hL hblk
  go_enter Try.func80, Try.ntmps80
  go_wp2
  go_loopw [3, 11] (fun v i wr => OrsSt d L w v i wr) (fun _ i _ => L.length - (intOf i).toNat)
  case atStart => exact ⟨0, rfl, Nat.zero_le _, own_empty (Nat.le_refl _), (by repeat (first | with_reducible exact Below.refl _ _ | with_reducible assumption | with_reducible apply Below.drew | with_reducible apply below_drewN | (with_reducible apply below_setp; (first | omega | (simp <;> omega))) | (with_reducible apply below_allocp; (first | omega | (simp <;> omega))) | (with_reducible refine below_viap (by assumption) ?_ ?_; (first | omega | (simp <;> omega)))))⟩
  case round =>
    clear cG fG
    obtain ⟨k, rfl, hk, hown, hbel⟩ := hrel
    have hz := hbel.size
    by_cases hlt : k < L.length
    · have hnx := Lib.hid (ordsL_take (d := d) hlt)
      have hP2 := Lib.hid (hP.out k hlt)
      have hNk := hN.out k hlt
      have hql : (ordsL d (L.take k)).length ≤ 100000 := by rw [ordsL_len, List.length_take]; omega
      obtain ⟨R, hR⟩ : ∃ R, pwI d L L[k] (ordF d L[k]) = R := ⟨_, rfl⟩
      have hRl : R.length = ordF d L[k] := by rw [← hR, pwI_len]
      rw [hR] at hP2
      generalize ordF d L[k] = N at *
      generalize ordsL d (L.take k) = Q at hown hnx hql
      clear hR
      go_wp2_with (first
        | (go_at_call 146; refine (hP2.out _ (HG.out.call hbel)).mono ?_; rintro e v1 ⟨vr, rfl, hor, hB1⟩; rw [hRl] at hor; obtain ⟨br, cr, rfl⟩ := own_shape hor; have hZ1 := hB1.size)
        | (at_builtin; refine wpList_append_own_at _ rfl (.tmp 14) (.tmp 19) 30 rfl w.heap.size 3 i0 _ 1 8 Try.underlying30 hi0 hz0 hz1 hz2 rfl (by decide) u3 Q.length (cellsI Q) rfl ?_ ⟨v1.heap.size, 0, none⟩ 1 1 [.int .i64 N] rfl rfl ?_ (one1 _) ?_ ?_ ?_ ?_; exact (by repeat (first | with_reducible assumption | with_reducible apply own_alloc | with_reducible apply own_drew | with_reducible apply own_drewN | (with_reducible refine own_setp (by assumption) ?_ ?_; (first | omega | (simp <;> omega))) | (with_reducible refine own_call (by assumption) ?_))); exact cells1 (Blk.new _ _ _); (unfold maxLen; omega); omega; (simp; omega); intro x2 w2 hown2 hg2 _ _; have hb2 : Below w.heap.size w w2 := below_grown (own_ge hown) (by simp; omega) hg2 (by repeat (first | with_reducible exact Below.refl _ _ | with_reducible assumption | with_reducible apply Below.drew | with_reducible apply below_drewN | (with_reducible apply below_setp; (first | omega | (simp <;> omega))) | (with_reducible apply below_allocp; (first | omega | (simp <;> omega))) | (with_reducible refine below_viap (by assumption) ?_ ?_; (first | omega | (simp <;> omega))))); have hz2' := hb2.size))
      have hon3 := own_snocI hnx.out hown2
      go_wp2
      go_roundw
      case rel => exact ⟨k + 1, rfl, hlt, hon3, hb2⟩
      case measure => simp [intOf]; omega
    · have e : k = L.length := by omega
      have hx : ordsL d (L.take k) = ordsL d L := by rw [e, List.take_length]
      have Hx := Lib.hid hx
      clear hx
      subst e
      go_wp2
      go_ret
      exact ⟨_, rfl, by rw [← Hx.out]; exact hown, hbel⟩
end
end Go.Proofs.Ytkkamlhpappebaa
