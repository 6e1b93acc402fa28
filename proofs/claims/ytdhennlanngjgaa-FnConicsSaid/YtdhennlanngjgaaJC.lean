/- Contract: the places of a list of numbers, of the program. -/
import Derived.Test.YtdhennlanngjgaaJB
import Derived.Maps.RangeWalk
namespace Go.Proofs.Ytdhennlanngjgaa
open Go.RowKit Go.Maps

/-- 'm[k] = v' in a map that is written out. -/
theorem wpList_insert_own {H : Type} {P : Program} (w : World) {ops : Array Oper} {rest : List Oper} {o : Oper} {a : Act} {Q : Exit → Act → World → Prop}
    (hg : o.guard = none) (m x v : Operand) (t : TypeId) (hop : o.op = Op.insert t m x v)
    (k e : TypeId) (K : Keyed P k) (ht : P.underlying t = some (.map k e)) (R : Value → Option (DataW H × List MemPlace)) (b n : Nat) (D : DataW H)
    (hm : a.eval m = .map (some b)) (hown : w.ownsMap P k R b n D) (hn : n < maxLen) (key val : Value) (kl : Lit) (hx : a.eval x = key) (hv : a.eval v = val) (hkey : keyOf P k key = some kl)
    (d : DataW H) (ps : List MemPlace) (hval : R val = some (d, ps))
    (hK : ∀ w', w'.ownsMap P k R b (n + 1) (D.put kl d) → w.grownBy w' (some b) → wpList P ops Q rest (a.put o.dst undef) w') :
    wpList P ops Q (o :: rest) a w := by
  refine wpList_plain hg fun K' hK' => ?_
  obtain ⟨w', hrun, r1, r2⟩ := hown.update K ht hn hkey hval
  unfold Oper.wp
  simp [execOp, hop, hm, hx, hv, hrun, Result.andThen]
  exact hK' _ _ (hK w' r1 r2)

/-- The datum of a map has just the keys of a list. -/
def SetL (D : DataW Unit) (L : List Int) : Prop := IsMap D ∧ ∀ x, (Lit.int .i64 x).wf = true → has D (.int .i64 x) = decide (x ∈ L)
theorem SetL.made : SetL (.map []) [] := ⟨isMap_empty, fun _ _ => by simp [has_eq]⟩
theorem SetL.put {D : DataW Unit} {L : List Int} (h : SetL D L) {g : Int} (hg : (Lit.int .i64 g).wf = true) (y : DataW Unit) : SetL (D.put (.int .i64 g) y) (L ++ [g]) := by
  have hk : WideAt.IsKeyLit (.int .i64 g) := law_SO.key (keyOf_int_mk Try.underlying3 hg)
  refine ⟨h.1.put _ _, fun x hx => ?_⟩
  by_cases e : x = g
  · subst e
    exact (has_put_same h.1 hk _).trans (by simp)
  · have e2 : (Lit.int .i64 x) ≠ .int .i64 g := fun he => e (by injection he)
    exact (has_put_other e2 _).trans ((h.2 x hx).trans (by simp [e]))
/-- What has been collected while the map is gone through. -/
def ColI (D : DataW Unit) (left : Lit → Bool) (ss : List Int) : Prop := ss.Nodup ∧ (∀ x ∈ ss, (Lit.int .i64 x).wf = true) ∧ ∀ x, (Lit.int .i64 x).wf = true → (x ∈ ss ↔ (has D (.int .i64 x) = true ∧ left (.int .i64 x) = false))
theorem ColI.start (D : DataW Unit) : ColI D (has D) [] := ⟨List.nodup_nil, by simp, fun x _ => by cases has D (.int .i64 x) <;> simp⟩
theorem key_same (x : Int) : (Lit.int .i64 x).sameKey (.int .i64 x) = true := by simp [Lit.sameKey]
theorem ColI.step {D : DataW Unit} {left : Lit → Bool} {ss : List Int} (h : ColI D left ss) {x : Int} {y : DataW Unit} (hw : (Lit.int .i64 x).wf = true) (hlk : left (.int .i64 x) = true) (hat : ∀ zd, D.atKey (.int .i64 x) zd = y) :
    ColI D (fun z => left z && !z.sameKey (.int .i64 x)) (ss ++ [x]) := by
  have hhas : has D (.int .i64 x) = true := has_true_of_atKey hat
  have hnew : x ∉ ss := fun hx => by have := ((h.2.2 x hw).1 hx).2; rw [hlk] at this; cases this
  refine ⟨List.nodup_append.2 ⟨h.1, by simp, fun a ha b hb => by simp at hb; subst hb; exact fun e => hnew (e ▸ ha)⟩, fun z hz => ?_, fun z hz => ?_⟩
  · rcases List.mem_append.1 hz with hz | hz
    · exact h.2.1 z hz
    · rw [List.mem_singleton] at hz; subst hz; exact hw
  · by_cases e : z = x
    · subst e; simp [hhas, key_same]
    · have e2 : (Lit.int .i64 z).sameKey (.int .i64 x) = false := sameKey_ne (fun he => e (by injection he))
      rw [List.mem_append, List.mem_singleton, h.2.2 z hz]
      simp [e, e2]
theorem ColI.fin {D : DataW Unit} {left : Lit → Bool} {ss L : List Int} (h : ColI D left ss) (hD : SetL D L) (hL : ∀ x ∈ L, (Lit.int .i64 x).wf = true) (hl : ∀ k, left k = false) (x : Int) : x ∈ ss ↔ x ∈ L := by
  constructor
  · intro hx
    have hw := h.2.1 x hx
    have := ((h.2.2 x hw).1 hx).1
    rw [hD.2 x hw] at this
    exact of_decide_eq_true this
  · intro hx
    have hw := hL x hx
    exact (h.2.2 x hw).2 ⟨by rw [hD.2 x hw]; exact decide_eq_true hx, hl _⟩
theorem ColI.len {D : DataW Unit} {left : Lit → Bool} {ss L : List Int} (h : ColI D left ss) (hD : SetL D L) : ss.length ≤ L.length :=
  h.1.length_le_of_subset (fun x hx => by
    have hw := h.2.1 x hx
    have := ((h.2.2 x hw).1 hx).1
    rw [hD.2 x hw] at this
    exact of_decide_eq_true this)

theorem own_mapJ {w w2 : World} {e : TypeId} {sz k B2 M : Nat} {u : Value} {xs : List Value} (ho : w.ownsRow B2 e sz u k xs) (hM : M < B2) (hg : w.grownBy w2 (some M)) : w2.ownsRow B2 e sz u k xs :=
  ho.kept hg (by
    cases hq : u.ownBlock with
    | none => exact .inl rfl
    | some q => exact .inr (fun he => by injection he with he; have := own_ge ho q hq; omega))
/-- The keys that are put in, in their order. -/
def pkL (xs : List Int) : List Int := [0, 2] ++ xs.flatMap fun x => prims (x.natAbs : Int)
theorem pk_take {xs : List Int} {i : Nat} (h : i < xs.length) : pkL (xs.take (i + 1)) = pkL (xs.take i) ++ prims (xs[i].natAbs : Int) := by
  unfold pkL
  rw [List.take_succ_eq_append_getElem h, List.flatMap_append]
  simp
theorem pk_mem {xs : List Int} {x : Int} : x ∈ pkL xs ↔ (x = 0 ∨ x = 2) ∨ ∃ n ∈ xs, x ∈ prims (n.natAbs : Int) := by
  unfold pkL
  rw [List.mem_append, List.mem_flatMap]
  simp
theorem prims_ln {n : Int} (h : n ≤ 64000000) : (prims n).length ≤ 100 := by
  have h1 := fold_len (facL n) []
  have h2 := facL_len n h
  unfold prims; simp at h1; omega
theorem prims_le {n x : Int} (h1 : 1 ≤ n) (h2 : n ≤ 64000000) (h : x ∈ prims n) : 2 ≤ x ∧ x ≤ n := by
  obtain ⟨a, b⟩ := (mem_prims h1 h2).1 h
  exact ⟨a.1, Int.le_of_dvd (by omega) b⟩
theorem wf_place {x : Int} (h : 0 ≤ x ∧ x ≤ 64000000) : (Lit.int .i64 x).wf = true := by
  obtain ⟨h1, h2⟩ := h
  simp [Lit.wf, IntKind.min, IntKind.max, IntKind.bits, IntKind.signed]
  omega
theorem pk_wf {xs : List Int} (hx : ∀ x ∈ xs, x ≠ 0 ∧ -64000000 ≤ x ∧ x ≤ 64000000) {y : Int} (h : y ∈ pkL xs) : (Lit.int .i64 y).wf = true := by
  refine wf_place ?_
  rcases pk_mem.1 h with (rfl | rfl) | ⟨n, hn, hy⟩
  · omega
  · omega
  · obtain ⟨a, b, c⟩ := hx n hn
    have := prims_le (n := (n.natAbs : Int)) (by omega) (by omega) hy
    omega
theorem pk_len : ∀ {xs : List Int}, (∀ x ∈ xs, x ≠ 0 ∧ -64000000 ≤ x ∧ x ≤ 64000000) → (pkL xs).length ≤ 2 + 100 * xs.length
  | [], _ => by simp [pkL]
  | x :: xs, h => by
    have h1 := pk_len (xs := xs) (fun y hy => h y (by simp [hy]))
    obtain ⟨a, b, c⟩ := h x (by simp)
    have h2 := prims_ln (n := (x.natAbs : Int)) (by omega)
    unfold pkL at *
    simp only [List.flatMap_cons, List.length_append, List.length_cons, List.length_nil] at *
    omega
theorem iter_ne {w : World} {B n b r m cnt : Nat} {v : Value} {e : TypeId} {sz : Nat} {xs : List Value} {D : DataW Unit} {left : Lit → Bool} {k : TypeId} {R : Value → Option (DataW Unit × List MemPlace)}
    (h : w.ownsRow B e sz v n xs) (hr : w.ranges Try.prog k R b r m D left cnt) (hB : b < B) : (some r ≠ v.ownBlock) ∧ some b ≠ v.ownBlock := by
  refine ⟨?_, fun he => by have := own_ge h b he.symm; omega⟩
  obtain ⟨es, clock, done, stamp, h1, h2⟩ := hr
  rcases h.2 with ⟨rfl, _⟩ | ⟨g', cap, cur, rfl, _, hh, _⟩
  · simp [Value.ownBlock]
  · intro he
    have : r = g' := by simpa [Value.ownBlock] using he
    subst this
    simp_all

/-- The state while the keys are put in. -/
def PlS (S : List Int) (w wr : World) : Prop := ∃ D, Hid (wr.ownsMap Try.prog 3 (plainElem Try.prog 4) w.heap.size S.length D) ∧ Hid (SetL D S) ∧ Below w.heap.size w wr

set_option maxRecDepth 100000 in
set_option maxHeartbeats 6400000 in
theorem placesOf_any (C n cap : Nat) (xs : List Int) (w : World) (hC : C < w.heap.size) (hn : xs.length = n) (hn3 : n ≤ 3) (hcs : ∀ j (h : j < xs.length), w.cell? ⟨C, j, none⟩ = some (.int .i64 xs[j]))
    (hx : ∀ x ∈ xs, x ≠ 0 ∧ -64000000 ≤ x ∧ x ≤ 64000000) :
    Calls Try.prog 25 #[.slice (some ⟨C, 0, none⟩) n cap] w fun e w' => ∃ K : List Int, K.Pairwise (· < ·) ∧ (∀ x, x ∈ K ↔ (x = 0 ∨ x = 2) ∨ ∃ n ∈ xs, x ∈ prims (n.natAbs : Int)) ∧ RetI K w e w' := by
  obtain ⟨i0, hi, hz0, hz1, hz2⟩ := info_parts infoInt
  have hmm := @run_makeMap Try.prog
  have Hn := Lib.hid hn
  have Hcs := Lib.hid hcs
  have Hx := Lib.hid hx
  have hPl := pk_len hx
  have hkey0 := keyOf_int_mk (P := Try.prog) Try.underlying3 (wf_place (x := 0) (by omega))
  have hkey2 := keyOf_int_mk (P := Try.prog) Try.underlying3 (wf_place (x := 2) (by omega))
  have hM := World.ownsMap_made (H := Unit) w Try.prog 3 (plainElem Try.prog 4)
  clear hn hcs hx
  go_enter Try.func25, Try.ntmps25
  go_wp2_with (first
    | (refine wpList_insert_own _ rfl _ _ _ 67 rfl 3 4 law_SO Try.underlying67 (plainElem Try.prog 4) w.heap.size 0 (.map []) rfl hM (by decide) _ _ (.int .i64 0) rfl rfl hkey0 (.lit (.bool true)) [] (plainElem_bool Try.underlying4 true) ?_; intro w1 hown1 hgrow1; have hZ1 := hgrow1.size; (try simp at hZ1))
    | (refine wpList_insert_own _ rfl _ _ _ 67 rfl 3 4 law_SO Try.underlying67 (plainElem Try.prog 4) w.heap.size 1 _ rfl hown1 (by decide) _ _ (.int .i64 2) rfl rfl hkey2 (.lit (.bool true)) [] (plainElem_bool Try.underlying4 true) ?_; intro w2 hown2 hgrow2; have hZ2 := hgrow2.size; (try simp at hZ2)))
  have hb0 : Below w.heap.size w (w.alloc (.map #[] 0)) := (by repeat (first | with_reducible exact Below.refl _ _ | with_reducible assumption | with_reducible apply Below.drew | with_reducible apply below_drewN | (with_reducible apply below_setp; (first | omega | (simp <;> omega))) | (with_reducible apply below_allocp; (first | omega | (simp <;> omega))) | (with_reducible refine below_viap (by assumption) ?_ ?_; (first | omega | (simp <;> omega)))))
  have hb2 : Below w.heap.size w w2 := (hb0.grown hgrow1 (by simp) (fun q hq => by injection hq with hq; omega)).grown hgrow2 (by omega) (fun q hq => by injection hq with hq; omega)
  have hS0 : PlS (pkL (xs.take 0)) w w2 := ⟨_, Lib.hid (by simpa [pkL] using hown2), Lib.hid (by
    have := (SetL.made.put (wf_place (x := 0) (by omega)) (.lit (.bool true))).put (wf_place (x := 2) (by omega)) (.lit (.bool true))
    simpa [pkL] using this), hb2⟩
  clear hM hown1 hown2 hgrow1 hgrow2 hb0 hZ1 hkey0 hkey2
  go_loopw [14] (fun vi wr => ∃ i : Nat, vi = .int .i64 i ∧ i ≤ n ∧ PlS (pkL (xs.take i)) w wr) (fun vi _ => n - (intOf vi).toNat)
  case atStart => exact ⟨0, rfl, Nat.zero_le _, hS0⟩
  case round =>
    clear hS0 hb2
    obtain ⟨i, rfl, hi', D, hmap, hset, hbel⟩ := hrel
    have hz := hbel.size
    by_cases hlt : i < n
    · have hix : i < xs.length := by rw [Hn.out]; exact hlt
      have hcell : wr.cell? ⟨C, i, none⟩ = some (.int .i64 xs[i]) := ((calm_cells hbel).1 C i hC).trans (Hcs.out i hix)
      obtain ⟨x0, x1, x2⟩ := Hx.out _ (List.getElem_mem hix)
      have hpk := Lib.hid (pk_take hix)
      have hCr : C < wr.heap.size := by omega
      generalize xs[i] = x at hcell x0 x1 x2 hpk
      have hA := Lib.hid (fun w => abs_any x w (by omega) (by omega))
      have hPr := Lib.hid (fun w => primesOf_any (x.natAbs : Int) w (by omega) (by omega))
      have hpl := prims_ln (n := (x.natAbs : Int)) (by omega)
      have hple := Lib.hid (fun y (hy : y ∈ prims (x.natAbs : Int)) => prims_le (n := (x.natAbs : Int)) (by omega) (by omega) hy)
      have hxa : (x.natAbs : Int) ≤ 64000000 := by omega
      generalize (x.natAbs : Int) = y at hA hPr hpl hple hxa hpk
      obtain ⟨T, hT⟩ : ∃ T, prims y = T := ⟨_, rfl⟩
      rw [hT] at hPr hpl hple hpk
      clear hT x0 x1 x2
      have hS0l : (pkL (xs.take i)).length ≤ 302 := by
        have h1 := pk_len (xs := xs.take i) (fun z hz => Hx.out z (List.mem_of_mem_take hz))
        have h2 : (xs.take i).length ≤ 3 := by rw [List.length_take, Hn.out]; omega
        omega
      generalize pkL (xs.take i) = S0 at *
      go_wp2_with (first
        | (go_at_call 31; (with_reducible refine (hA.out _).mono ?_); rintro e v ⟨rfl, rfl⟩)
        | (go_at_call 50; refine (hPr.out _).mono ?_; rintro e v3 ⟨vt, rfl, hot, hB3⟩; have hZ3 := hB3.size; obtain ⟨bt, ct, rfl⟩ := own_shape hot))
      have HT := Lib.hid hot
      obtain ⟨m, hm⟩ : ∃ m, T.length = m := ⟨_, rfl⟩
      have Hm := Lib.hid hm
      rw [hm] at hpl hot ⊢
      have hb3 : Below w.heap.size w v3 := below_via hbel hB3 hz
      have hml := hmap.out.lt
      have hI0 : PlS (S0 ++ T.take 0) w v3 := ⟨D, Lib.hid (by simpa using ownsMap_below hmap.out hB3 hml), Lib.hid (by simpa using hset.out), hb3⟩
      clear hot hm
      obtain ⟨wo, rfl⟩ : ∃ wo : World, wo = wr := ⟨_, rfl⟩
      go_wp2
      go_loopw [22] (fun vk wr => ∃ k : Nat, vk = .int .i64 k ∧ k ≤ m ∧ PlS (S0 ++ T.take k) w wr ∧ Hid (v3.grownBy wr (some w.heap.size))) (fun vk _ => m - (intOf vk).toNat)
      case atStart => exact ⟨0, rfl, Nat.zero_le _, hI0, Lib.hid ⟨rfl, rfl, rfl, Nat.le_refl _, fun _ _ _ => rfl⟩⟩
      case round =>
        clear hI0
        obtain ⟨k, rfl, hk, ⟨D2, hmap2, hset2, hbel2⟩, hgr⟩ := hrel
        have hy2 := hbel2.size
        by_cases hkt : k < m
        · have hkT : k < T.length := by rw [Hm.out]; exact hkt
          obtain ⟨gt, rfl, lt, e1⟩ := own_elemI (own_mapJ HT.out (by omega) hgr.out) hkT
          have hy := hple.out _ (List.getElem_mem hkT)
          have htk := Lib.hid (List.take_succ_eq_append_getElem hkT)
          generalize T[k] = z at e1 hy htk
          have hwz := wf_place (x := z) (by omega)
          have hkey := keyOf_int_mk (P := Try.prog) Try.underlying3 hwz
          have hput := Lib.hid (hset2.out.put hwz (.lit (.bool true)))
          have hlen : (S0 ++ T.take k).length ≤ 500 := by rw [List.length_append, List.length_take]; omega
          have hnx : Hid (S0 ++ T.take (k + 1) = (S0 ++ T.take k) ++ [z]) := Lib.hid (by rw [htk.out, List.append_assoc])
          generalize S0 ++ T.take k = S at *
          clear htk hwz hy
          go_wp2_with (at_mapUpdate; refine wpList_mapUpdate_own _ rfl _ _ _ 67 rfl 3 4 law_SO Try.underlying67 (plainElem Try.prog 4) w.heap.size S.length D2 rfl hmap2.out (by unfold maxLen; omega) _ _ (.int .i64 z) rfl rfl hkey (.lit (.bool true)) [] (plainElem_bool Try.underlying4 true) ?_; intro w4 hown4 hgrow4)
          have hb4 : Below w.heap.size w w4 := hbel2.grown hgrow4 hy2 (fun q hq => by injection hq with hq; omega)
          refine ⟨⟨k + 1, by go_num, hkt, ⟨_, Lib.hid (by rw [hnx.out]; simpa using hown4), Lib.hid (by rw [hnx.out]; exact hput.out), hb4⟩, Lib.hid (hgr.out.trans hgrow4)⟩, by simp [intOf]; omega⟩
        · have e : k = m := by omega
          have hTk : T.take k = T := by rw [List.take_of_length_le]; rw [Hm.out]; omega
          rw [hTk, ← hpk.out] at hmap2 hset2
          clear hgr hTk
          subst e
          go_wp2
          refine ⟨⟨i + 1, by go_num, hlt, ⟨_, hmap2, hset2, hbel2⟩⟩, by simp [intOf]; omega⟩
    · have e : i = n := by omega
      have hxk : xs.take i = xs := by rw [List.take_of_length_le]; rw [Hn.out]; omega
      rw [hxk] at hmap hset
      have hSl : (pkL xs).length ≤ 302 := by
        have := pk_len Hx.out
        rw [Hn.out] at this; omega
      have hwfS := Lib.hid (fun y (hy : y ∈ pkL xs) => pk_wf Hx.out hy)
      have hSm := Lib.hid (fun y => pk_mem (xs := xs) (x := y))
      have h0S : Hid ((0 : Int) ∈ pkL xs) := Lib.hid (by unfold pkL; simp)
      generalize pkL xs = S at *
      clear hxk hPl
      subst e
      obtain ⟨wo, rfl⟩ : ∃ wo : World, wo = wr := ⟨_, rfl⟩
      have hmapA := (hmap.out.alloc (.cells #[] 3))
      go_wp2_with (at_range; refine wpList_range_own _ rfl _ 67 rfl 3 4 law_SO Try.underlying67 _ w.heap.size S.length D rfl hmapA ?_; intro w5 hrg5 hg5 hs5)
      have hE0 : (wo.alloc (.cells #[] 3)).ownsRow (w.heap.size + 1) 3 1 (.slice (some ⟨wo.heap.size, 0, none⟩) 0 0) 0 (cellsI []) := own_empty (by have := hmap.out.lt; omega)
      have hE5 := hE0.kept hg5 (.inr (by simp [Value.ownBlock]))
      have hb5 : Below w.heap.size w w5 := (show Below w.heap.size w (wo.alloc (.cells #[] 3)) from (by repeat (first | with_reducible exact Below.refl _ _ | with_reducible assumption | with_reducible apply Below.drew | with_reducible apply below_drewN | (with_reducible apply below_setp; (first | omega | (simp <;> omega))) | (with_reducible apply below_allocp; (first | omega | (simp <;> omega))) | (with_reducible refine below_viap (by assumption) ?_ ?_; (first | omega | (simp <;> omega)))))).grown hg5 (by simp; omega) (fun q hq => by cases hq)
      have er : (wo.alloc (.cells #[] 3)).heap.size = wo.heap.size + 1 := by simp
      rw [er] at hrg5 hs5 ⊢
      clear hE0 hmapA er
      go_frame
      go_loopw [8] (fun v wr => ∃ (left : Lit → Bool) (cnt : Nat) (ss : List Int), Hid (wr.ranges Try.prog 3 (plainElem Try.prog 4) w.heap.size (wo.heap.size + 1) S.length D left cnt) ∧ wr.ownsRow (w.heap.size + 1) 3 1 v ss.length (cellsI ss) ∧ Hid (ColI D left ss) ∧ Below w.heap.size w wr)
        (fun _ wr => wr.rangeLeft w.heap.size (wo.heap.size + 1))
      case atStart => exact ⟨_, _, [], Lib.hid (by simpa using hrg5), hE5, Lib.hid (ColI.start D), hb5⟩
      case round =>
        clear hE5 hb5 hrg5 hg5
        obtain ⟨left, cnt, ss, hrg, hown, hcol, hbel2⟩ := hrel
        have hy2 := hbel2.size
        have hne := iter_ne hown hrg.out (by omega)
        have hssl := hcol.out.len hset.out
        have hlt1 : w.heap.size < wr.heap.size := hrg.out.owns.lt
        go_wp2_with (at_next; refine wpList_next_ranges _ rfl _ rfl 3 law_SO (plainElem Try.prog 4) (Value.int .i64) (fun v : Value => v) (fun key kl hk => by obtain ⟨x, rfl, _⟩ := Maps.keyOf_int_inv Try.underlying3 hk; exact ⟨x, rfl⟩) (fun v y _ => ⟨v, rfl⟩) w.heap.size (wo.heap.size + 1) S.length D left cnt rfl hrg.out ?_ ?_)
        · intro _ hl0
          have hm := Lib.hid (hcol.out.fin hset.out hwfS.out hl0)
          have hnd := Lib.hid hcol.out.1
          have hpos : 0 < ss.length := List.length_pos_of_mem ((hm.out 0).2 h0S.out)
          clear hrg hcol hne hset hmap hbel
          go_wp2_with (go_at_call 51; refine (sortInts_any ss _ (w.heap.size + 1) _ (by omega) (by omega) hpos hown).mono ?_; rintro e w6 ⟨rfl, hs6, hb6⟩)
          go_ret
          refine ⟨srt ss, srt_lt hnd.out, fun x => by rw [srt_mem, hm.out x, hSm.out x], _, rfl, ?_, ?_⟩
          · have h6 := own_base (B := w.heap.size + 1) (B' := w.heap.size) (by omega) hs6
            rw [srt_len]
            exact h6
          · exact hbel2.trans ⟨hb6.os, hb6.tape, hb6.output, hb6.size, fun q hq => hb6.block q (by omega)⟩
        · intro x c kl ya yb w6 cnt6 hkey hlk hv hat hrg6 hlt6 hg6 hs6 hen
          obtain ⟨x', ex, rfl, hwx⟩ := Maps.keyOf_int_inv Try.underlying3 hkey
          obtain rfl : x = x' := by injection ex
          have hown6 := hown.kept hg6 (.inr (fun he => hne.1 he.symm))
          have hcol6 := Lib.hid (hcol.out.step hwx hlk hat)
          have hb6 : Below w.heap.size w w6 := hbel2.grown hg6 hy2 (fun q hq => by injection hq with hq; omega)
          have hz6 := hb6.size
          have hR0 := Lib.hid hrg
          have hg6s := hg6.size
          clear hs6 hat hv hlk hkey hcol hrg
          go_wp2_with (at_builtin; refine wpList_append_own_at _ rfl (.tmp 37) (.tmp 39) 29 rfl (w.heap.size + 1) 3 i0 _ 1 8 Try.underlying29 hi hz0 hz1 hz2 rfl (by decide) u8 ss.length (cellsI ss) rfl (own_alloc hown6) ⟨w6.heap.size, 0, none⟩ 1 1 [.int .i64 x] rfl rfl ?_ (one1 _) ?_ ?_ ?_ ?_; exact cells1 (Blk.new_at (by simp)); (unfold maxLen; omega); omega; (simp; omega); intro v7 w7 hown7 hg7 _ hloc)
          have hb7 : Below w.heap.size w w7 := below_grown (fun q hq => Nat.le_trans (by omega) (own_ge hown6 q hq)) (by simp; omega) hg7 (by repeat (first | with_reducible exact Below.refl _ _ | with_reducible assumption | with_reducible apply Below.drew | with_reducible apply below_drewN | (with_reducible apply below_setp; (first | omega | (simp <;> omega))) | (with_reducible apply below_allocp; (first | omega | (simp <;> omega))) | (with_reducible refine below_viap (by assumption) ?_ ?_; (first | omega | (simp <;> omega)))))
          have hne6 := iter_ne hown6 hrg6 (by omega)
          have hrg7 := (hrg6.alloc (.cells #[.int .i64 x] 3)).kept hg7 hne6.2 hne6.1
          refine ⟨⟨_, cnt6, ss ++ [x], Lib.hid hrg7, own_snocI rfl hown7, hcol6, hb7⟩, ?_⟩
          rw [hrg7.left_eq, hR0.out.out.left_eq]; exact hlt6
end Go.Proofs.Ytdhennlanngjgaa
