/- Contracts: lastList, the last list of exponents with a sum that is good. -/
import Derived.Test.YteehcjjhkphdnaaGreatPC
namespace Go.Proofs.YteehcjjhkphdnaaGreat
open Go.RowKit

section
variable {P : Program} {w : World}
/-- What append reads stays as it was. -/
theorem append_keep (base : Nat) (t ty e : TypeId) (i : TypeInfo) (z : Value) (size bytes : Nat) (ht : P.underlying t = some (.slice e)) (hi : P.info? e = some i) (hz : i.zero = some z)
    (hsize : i.size = size) (hby : i.bytes = bytes) (v : Value) (n : Nat) (xs : List Value) (hown : w.ownsRow base e size v n xs)
    (a : Addr) (m c : Nat) (news : List Value) (hl : news.length = m * size) (hnews : ∀ j u, news[j]? = some u → w.cell? (a.add j) = some u) (h1 : ∀ u ∈ news, u.oneCell' = true)
    (h63 : n + m ≤ maxLen) (hbytes : (n + m) * bytes ≤ 140737488355328) {v' : Value} {w' : World} (hrun : (Builtin.append_ #[t, t] ty #[v, .slice (some a) m c]).run P w = .ok v' w') : w'.ownsRow base e size v n xs := by
  subst hsize
  subst hby
  have hsmall : n + m ≤ 9223372036854775807 := by simp only [maxLen] at h63; omega
  rcases hown.2 with ⟨rfl, rfl⟩ | ⟨g, cap, cur, rfl, hbg, hg, hnc, hcm, hcs, htake⟩
  · exact ⟨hown.1, .inl ⟨rfl, rfl⟩⟩
  · by_cases hroom : n + m ≤ cap
    · have hfit : n * i.size + news.length ≤ cur.size := by rw [hl, hcs, ← Nat.add_mul]; exact Nat.mul_le_mul_right _ hroom
      have hr := run_append_room (P := P) w t ty e i ht hi g n cap cur hg a m c news hl hnews h1 hroom hfit
      rw [hrun] at hr
      injection hr with _ h2
      subst h2
      refine ⟨hown.1, .inr ⟨g, cap, _, rfl, hbg, setRow_heap w g cur _ e _ hg, hnc, hcm, ?_, ?_⟩⟩
      · simp only [List.size_toArray, List.length_append, List.length_take, List.length_drop, Array.length_toList]
        omega
      · simp only [List.append_assoc]
        rw [List.take_append_of_le_length (by simp only [List.length_take, Array.length_toList]; omega), List.take_take, Nat.min_self]
        exact htake
    · have holds : ∀ j u, xs[j]? = some u → w.cell? ((⟨g, 0, none⟩ : Addr).add j) = some u := hown.cells (g := g) rfl
      have hr := run_append_grow (P := P) w t ty e i z ht hi hz ⟨g, 0, none⟩ n cap xs hown.1 holds a m c news hl hnews (by omega) (by omega) (growslice_fits (by omega) hbytes)
      rw [hrun] at hr
      injection hr with _ h2
      subst h2
      exact own_alloc (own_drew hown)
theorem wpList_append_keep {ops : Array Oper} {rest : List Oper} {o : Oper} {a : Act} {Q : Exit → Act → World → Prop} (hgd : o.guard = none) (s x : Operand) (t : TypeId)
    (ho : o.op = .call { callee := .builtin .append, args := #[s, x], argTypes := #[t, t] })
    (base : Nat) (e : TypeId) (i : TypeInfo) (z : Value) (size bytes : Nat) (ht : P.underlying t = some (.slice e)) (hi : P.info? e = some i) (hz : i.zero = some z)
    (hsize : i.size = size) (hby : i.bytes = bytes) (hzs : z.cells.size = size) (hsz : 0 < size)
    (v : Value) (n : Nat) (xs : List Value) (hs : a.eval s = v) (hown : w.ownsRow base e size v n xs)
    (ad : Addr) (m c : Nat) (news : List Value) (hx : a.eval x = .slice (some ad) m c) (hl : news.length = m * size) (hnews : ∀ j u, news[j]? = some u → w.cell? (ad.add j) = some u) (h1 : ∀ u ∈ news, u.oneCell' = true)
    (h63 : n + m ≤ maxLen) (hbytes : (n + m) * bytes ≤ 140737488355328) (hbase : base ≤ w.heap.size)
    (h : ∀ v' w', w'.ownsRow base e size v' (n + m) (xs ++ news) → w.grownBy w' v.ownBlock → w'.ownsRow base e size v n xs → (v'.ownBlock = v.ownBlock ∨ v'.ownBlock = some w.heap.size) → wpList P ops Q rest (a.put o.dst v') w') :
    wpList P ops Q (o :: rest) a w := by
  refine wpList_plain hgd fun K hK => ?_
  obtain ⟨v', w', hr, h2, h3, _, h5⟩ := run_append_own_at (P := P) w base t o.type e i z size bytes ht hi hz hsize hby hzs hsz v n xs hown ad m c news hl hnews h1 h63 hbytes hbase
  have hk := append_keep base t o.type e i z size bytes ht hi hz hsize hby v n xs hown ad m c news hl hnews h1 h63 hbytes hr
  unfold Oper.wp execOp
  simp only [ho, resolve, invoke, builtin, Sem.run_bind, Sem.run_pure, Result.andThen_ok, List.map_toArray, List.map_cons, List.map_nil, hs, hx, hr]
  exact hK _ _ (h v' w' h2 h3 hk h5)
end
/-- A shorter slice over the same block. -/
theorem own_sub {w w3 : World} {B n m : Nat} {e : TypeId} {v x : Value} {xs ys : List Value} (h1 : w.ownsRow B e 1 v n xs) (h2 : w.ownsRow B e 1 x m ys) (hb : x.ownBlock = v.ownBlock) (hp : xs = ys.take n) (hnm : n ≤ m) (h3 : w3.ownsRow B e 1 x m ys) : w3.ownsRow B e 1 v n xs := by
  refine ⟨h1.1, ?_⟩
  rcases h1.2 with h | ⟨g, cap, cur, rfl, hbg, hg, hnc, hcm, hcs, htake⟩
  · exact .inl h
  · rcases h2.2 with ⟨rfl, _⟩ | ⟨g2, cap2, cur2, rfl, _, hg2, _, _, hcs2, _⟩
    · cases hb
    · have eg : g2 = g := by injection hb
      subst eg
      have hcur : cur = cur2 := by
        rw [hg] at hg2
        injection hg2 with hg2
        injection hg2
      subst hcur
      rcases h3.2 with ⟨hv, _⟩ | ⟨g3, cap3, cur3, hv, _, hg3, hnc3, _, hcs3, htake3⟩
      · cases hv
      · injection hv with e1 e2 e3
        injection e1 with e1
        injection e1 with e1
        subst e1
        subst e3
        refine .inr ⟨g2, cap, cur3, rfl, hbg, hg3, hnc, hcm, by omega, ?_⟩
        rw [hp, ← htake3, List.take_take]
        congr 1
        omega
theorem below_less {w w' : World} {B N : Nat} (h : Below N w w') (hB : B ≤ N) : Below B w w' := ⟨h.os, h.tape, h.output, h.size, fun k hk => h.block k (by omega)⟩
theorem grown_of {w w' : World} {row : Option Nat} (h : Below w.heap.size w w') : w.grownBy w' row := ⟨h.os, h.tape, h.output, h.size, fun k hk _ => h.block k hk⟩

theorem sub_keep {w2 w3 : World} {B N : Nat} {v x : Value} {pre : List Int} {F : Int} (hk : w2.ownsRow B 3 1 v pre.length (cellsI pre)) (h2 : w2.ownsRow B 3 1 x (pre ++ [F]).length (cellsI (pre ++ [F]))) (hloc : x.ownBlock = v.ownBlock ∨ x.ownBlock = some N) (hv : ∀ q, v.ownBlock = some q → q < N)
    (h3 : w3.ownsRow B 3 1 x (pre ++ [F]).length (cellsI (pre ++ [F]))) (hg : w2.grownBy w3 x.ownBlock) : w3.ownsRow B 3 1 v pre.length (cellsI pre) := by
  rcases hloc with h | h
  · exact own_sub hk h2 h (by simp [cellsI]) (by simp) h3
  · rw [h] at hg
    refine hk.kept hg ?_
    cases hb : v.ownBlock with
    | none => exact .inl rfl
    | some q =>
      refine .inr (fun e => ?_)
      injection e with e
      have := hv q hb
      omega
theorem sub_grown {w wr w2 w3 : World} {o : Obj} {v x : Value} {N : Nat} (h0 : w.grownBy wr v.ownBlock) (h1 : (wr.alloc o).grownBy w2 v.ownBlock) (hloc : x.ownBlock = v.ownBlock ∨ x.ownBlock = some N) (hN : wr.heap.size ≤ N) (h3 : w2.grownBy w3 x.ownBlock) : w.grownBy w3 v.ownBlock := by
  have s0 := h0.size
  have s1 := h1.size
  have s3 := h3.size
  simp at s1
  refine ⟨h3.os.trans (h1.os.trans h0.os), h3.tape.trans (h1.tape.trans h0.tape), h3.output.trans (h1.output.trans h0.output), by omega, fun k hk hne => ?_⟩
  refine (h3.block k (by omega) ?_).trans ((h1.block k (by simp; omega) hne).trans ((((Below.refl wr.heap.size wr).alloc (Nat.le_refl _) o).block k (by omega)).trans (h0.block k hk hne)))
  rcases hloc with h | h
  · rw [h]; exact hne
  · rw [h]; intro e; injection e with e; omega

/-- The first of h (k - 1), .., h 0 that is there. -/
def loopD {α : Type} (h : Nat → Option α) : Nat → Option α
  | 0 => none
  | k + 1 => match h k with
    | some x => some x
    | none => loopD h k
/-- The last list with p + 1 more places and the sum s. -/
def lastL (g : List Int → Bool) : Nat → Nat → List Int → Option (List Int)
  | 0, s, pre => if g (pre ++ [(s : Int)]) then some (pre ++ [(s : Int)]) else none
  | p + 1, s, pre => loopD (fun f => lastL g p (s - f) (pre ++ [(f : Int)])) (s + 1)
/-- What the test answers. -/
def GoodC (pd pf : Value) (w0 : World) (G : List Int → Bool) (n : Nat) (M : Int) : Prop := ∀ (w' : World) (ve : Value) (E : List Int) (B : Nat), Below w0.heap.size w0 w' → E.length = n → (∀ e ∈ E, 0 ≤ e ∧ e ≤ M) → w'.ownsRow B 3 1 ve E.length (cellsI E) →
  Calls Tryz.prog 98 #[ve, pd, pf] w' fun e w'' => e = .returned (.bool (G E)) ∧ Below w'.heap.size w' w''
def RetLs (o : Option (List Int)) (B0 : Nat) (v : Value) (pre : List Int) (w : World) (e : Ending) (w' : World) : Prop :=
  ((o = none ∧ e = .returned (.slice none 0 0)) ∨ ∃ E g c, o = some E ∧ e = .returned (.slice (some ⟨g, 0, none⟩) E.length c) ∧ w'.ownsRow B0 3 1 (.slice (some ⟨g, 0, none⟩) E.length c) E.length (cellsI E)) ∧
  w'.ownsRow B0 3 1 v pre.length (cellsI pre) ∧ Below B0 w w' ∧ w.grownBy w' v.ownBlock
def LlSt (h : Nat → Option (List Int)) (R : Option (List Int)) (s B0 : Nat) (v : Value) (pre : List Int) (w : World) (vf : Value) (wr : World) : Prop :=
  ∃ k : Nat, vf = .int .i64 ((k : Int) - 1) ∧ k ≤ s + 1 ∧ Hid (loopD h k = R) ∧ wr.ownsRow B0 3 1 v pre.length (cellsI pre) ∧ Below B0 w wr ∧ w.grownBy wr v.ownBlock

set_option maxRecDepth 100000 in
set_option maxHeartbeats 6400000 in
theorem lastList_any (pd pf : Value) (w0 : World) (G : List Int → Bool) (n : Nat) (M : Int) (hn : n ≤ 3) (hM : M ≤ 100000) (hG : GoodC pd pf w0 G n M) : ∀ (p s : Nat) (pre : List Int) (pl sI : Int) (v : Value) (w : World), pl = p + 1 → sI = s → pre.length + p + 1 = n → (∀ e ∈ pre, 0 ≤ e ∧ e ≤ M) → (s : Int) ≤ M →
    Below w0.heap.size w0 w → w0.heap.size ≤ w.heap.size → w.ownsRow w0.heap.size 3 1 v pre.length (cellsI pre) →
    Calls Tryz.prog 100 #[.int .i64 pl, .int .i64 sI, v, .func (.func 98) #[] #[pd, pf]] w (RetLs (lastL G p s pre) w0.heap.size v pre w)
  | 0, s, pre, pl, sI, v, w, hpl, hs, hpn, hpe, hsM, hw0, hwz, hown => by
    obtain ⟨i0, hi, hz0, hz1, hz2⟩ := info_parts infoInt
    obtain rfl : pl = 1 := by omega
    subst hs
    obtain ⟨b0, c0, rfl⟩ := own_shape hown
    have HO := Lib.hid hown
    have hrd := Lib.hid (Reads.of_own hown)
    have hEl : (pre ++ [(s : Int)]).length = n := by simp; omega
    have hEb : ∀ e ∈ pre ++ [(s : Int)], 0 ≤ e ∧ e ≤ M := by
      intro e he
      rcases List.mem_append.1 he with he | he
      · exact hpe e he
      · simp at he; subst he; omega
    have hGo := Lib.hid (fun w' ve B h1 h2 => hG w' ve (pre ++ [(s : Int)]) B h1 hEl hEb h2)
    have hW0 := Lib.hid hw0
    have hlast : lastL G 0 s pre = if G (pre ++ [(s : Int)]) then some (pre ++ [(s : Int)]) else none := rfl
    have hE : Hid (cellsI (pre ++ [(s : Int)]) = [] ++ cellsI pre ++ [.int .i64 (s : Int)]) := Lib.hid (by simp [cellsI])
    have hll : (pre ++ [(s : Int)]).length = 0 + pre.length + 1 := by simp
    obtain ⟨E, hEE⟩ : ∃ E, pre ++ [(s : Int)] = E := ⟨_, rfl⟩
    rw [hEE] at hGo hlast hE hll
    have hpl3 : pre.length ≤ 3 := by omega
    have Hll := Lib.hid hll
    clear hown hEl hEb hEE hw0 hpe hpn hG hpl hll
    cases hb : G E with
    | true =>
      have hres : Hid (lastL G 0 s pre = some E) := Lib.hid (by rw [hlast, hb]; rfl)
      rw [hb] at hGo
      clear hlast hb
      go_enter Tryz.func100, Tryz.ntmps100
      go_wp2_with (first
        | (at_builtin; refine wpList_append_any _ rfl (.tmp 14) (.tmp 15) _ rfl w.heap.size 3 i0 _ 1 8 Tryz.underlying32 hi hz0 hz1 hz2 rfl (by omega) (.slice (some ⟨w.heap.size, 0, none⟩) 0 0) 0 [] rfl (own_empty (Nat.le_refl _)) w.heap.size _ pre.length _ (cellsI pre) rfl (hrd.out.alloc (Nat.le_refl _) _) (cellsI_one _) (by unfold maxLen; omega) (by omega) (by simp) ?_; intro x1 w1 hown1 hg1 hat1; have hb1 : Below w.heap.size w w1 := Below.grown ((by repeat (first | with_reducible exact Below.refl _ _ | with_reducible assumption | with_reducible apply Below.drew | with_reducible apply below_drewN | (with_reducible apply below_setp; (first | omega | (simp <;> omega))) | (with_reducible apply below_allocp; (first | omega | (simp <;> omega))) | (with_reducible refine below_viap (by assumption) ?_ ?_; (first | omega | (simp <;> omega)))))) hg1 (by simp) (fun q hq => by simp [Value.ownBlock] at hq; omega); have hz5 := hb1.size)
        | (at_builtin; refine wpList_append_any _ rfl (.tmp 16) (.tmp 18) _ rfl w.heap.size 3 i0 _ 1 8 Tryz.underlying32 hi hz0 hz1 hz2 rfl (by omega) x1 (0 + pre.length) ([] ++ cellsI pre) rfl (own_alloc hown1) (w1.heap.size + 1) _ 1 _ [.int .i64 (s : Int)] rfl ⟨rfl, fun _ => ⟨_, rfl, by simp, cells1 (Blk.new _ _ _)⟩⟩ (one1 _) (by unfold maxLen; omega) (by omega) (by simp; omega) ?_; intro x2 w2 hown2 hg2 hat2; have hb2 : Below w.heap.size w w2 := Below.grown ((by repeat (first | with_reducible exact Below.refl _ _ | with_reducible assumption | with_reducible apply Below.drew | with_reducible apply below_drewN | (with_reducible apply below_setp; (first | omega | (simp <;> omega))) | (with_reducible apply below_allocp; (first | omega | (simp <;> omega))) | (with_reducible refine below_viap (by assumption) ?_ ?_; (first | omega | (simp <;> omega)))))) hg2 (by simp; omega) (fun q hq => (own_ge hown1) q hq); have hz6 := hb2.size; rw [← hE.out, ← Hll.out] at hown2; have hw2 : Below w0.heap.size w0 w2 := below_via hW0.out hb2 hwz; obtain ⟨b5, c5, rfl⟩ := own_shape hown2)
        | (go_at_call 98; refine (hGo.out _ _ _ hw2 hown2).mono ?_; rintro e w3 ⟨rfl, hb3⟩; have hz7 := hb3.size))
      obtain ⟨g5, rfl, _, _⟩ := own_elemI hown2 (k := 0) (by rw [Hll.out]; omega)
      have hbw := below_via hb2 hb3 hz6
      go_ret
      exact ⟨.inr ⟨E, g5, c5, hres.out, rfl, own_base hwz (own_call hb3 hown2)⟩, own_call hbw HO.out, below_less hbw hwz, grown_of hbw⟩
    | false =>
      have hres : Hid (lastL G 0 s pre = none) := Lib.hid (by rw [hlast, hb]; rfl)
      rw [hb] at hGo
      clear hlast hb
      go_enter Tryz.func100, Tryz.ntmps100
      go_wp2_with (first
        | (at_builtin; refine wpList_append_any _ rfl (.tmp 14) (.tmp 15) _ rfl w.heap.size 3 i0 _ 1 8 Tryz.underlying32 hi hz0 hz1 hz2 rfl (by omega) (.slice (some ⟨w.heap.size, 0, none⟩) 0 0) 0 [] rfl (own_empty (Nat.le_refl _)) w.heap.size _ pre.length _ (cellsI pre) rfl (hrd.out.alloc (Nat.le_refl _) _) (cellsI_one _) (by unfold maxLen; omega) (by omega) (by simp) ?_; intro x1 w1 hown1 hg1 hat1; have hb1 : Below w.heap.size w w1 := Below.grown ((by repeat (first | with_reducible exact Below.refl _ _ | with_reducible assumption | with_reducible apply Below.drew | with_reducible apply below_drewN | (with_reducible apply below_setp; (first | omega | (simp <;> omega))) | (with_reducible apply below_allocp; (first | omega | (simp <;> omega))) | (with_reducible refine below_viap (by assumption) ?_ ?_; (first | omega | (simp <;> omega)))))) hg1 (by simp) (fun q hq => by simp [Value.ownBlock] at hq; omega); have hz5 := hb1.size)
        | (at_builtin; refine wpList_append_any _ rfl (.tmp 16) (.tmp 18) _ rfl w.heap.size 3 i0 _ 1 8 Tryz.underlying32 hi hz0 hz1 hz2 rfl (by omega) x1 (0 + pre.length) ([] ++ cellsI pre) rfl (own_alloc hown1) (w1.heap.size + 1) _ 1 _ [.int .i64 (s : Int)] rfl ⟨rfl, fun _ => ⟨_, rfl, by simp, cells1 (Blk.new _ _ _)⟩⟩ (one1 _) (by unfold maxLen; omega) (by omega) (by simp; omega) ?_; intro x2 w2 hown2 hg2 hat2; have hb2 : Below w.heap.size w w2 := Below.grown ((by repeat (first | with_reducible exact Below.refl _ _ | with_reducible assumption | with_reducible apply Below.drew | with_reducible apply below_drewN | (with_reducible apply below_setp; (first | omega | (simp <;> omega))) | (with_reducible apply below_allocp; (first | omega | (simp <;> omega))) | (with_reducible refine below_viap (by assumption) ?_ ?_; (first | omega | (simp <;> omega)))))) hg2 (by simp; omega) (fun q hq => (own_ge hown1) q hq); have hz6 := hb2.size; rw [← hE.out, ← Hll.out] at hown2; have hw2 : Below w0.heap.size w0 w2 := below_via hW0.out hb2 hwz; obtain ⟨b5, c5, rfl⟩ := own_shape hown2)
        | (go_at_call 98; refine (hGo.out _ _ _ hw2 hown2).mono ?_; rintro e w3 ⟨rfl, hb3⟩; have hz7 := hb3.size))
      have hbw := below_via hb2 hb3 hz6
      go_ret
      exact ⟨.inl ⟨hres.out, rfl⟩, own_call hbw HO.out, below_less hbw hwz, grown_of hbw⟩
  | p + 1, s, pre, pl, sI, v, w, hpl, hs, hpn, hpe, hsM, hw0, hwz, hown => by
    obtain ⟨i0, hi, hz0, hz1, hz2⟩ := info_parts infoInt
    have ih := lastList_any pd pf w0 G n M hn hM hG p
    obtain ⟨h, hh⟩ : ∃ h, (fun f : Nat => lastL G p (s - f) (pre ++ [(f : Int)])) = h := ⟨_, rfl⟩
    have hlast : lastL G (p + 1) s pre = loopD h (s + 1) := by rw [← hh]; rfl
    obtain ⟨R, hR⟩ : ∃ R, loopD h (s + 1) = R := ⟨_, rfl⟩
    rw [hlast, hR]
    have HR := Lib.hid hR
    have Hf := Lib.hid (fun f => congrFun hh f)
    have hpl3 : pre.length ≤ 3 := by omega
    have p1 : ¬ pl = 1 := by omega
    have p2 : (pl == 1) = false := by rw [beq_eq_false_iff_ne]; exact p1
    have p3 : pl ≤ 4 := by omega
    have p4 : 2 ≤ pl := by omega
    have s1 : 0 ≤ sI := by omega
    have s2 : sI ≤ 100000 := by omega
    have hIH := Lib.hid (fun (k : Nat) (F : Int) (x : Value) (w : World) (hF : F = (k : Int)) (hk : k ≤ s) (h1 : Below w0.heap.size w0 w) (h2 : w0.heap.size ≤ w.heap.size) (h3 : w.ownsRow w0.heap.size 3 1 x (pre ++ [F]).length (cellsI (pre ++ [F]))) =>
      (show Calls Tryz.prog 100 #[.int .i64 (pl - 1), .int .i64 (sI - F), x, .func (.func 98) #[] #[pd, pf]] w (RetLs (h k) w0.heap.size x (pre ++ [F]) w) from by
        subst hF
        rw [← Hf.out k]
        refine ih (s - k) (pre ++ [(k : Int)]) (pl - 1) (sI - k) x w (by omega) (by omega) (by simp; omega) ?_ (by omega) h1 h2 h3
        intro e he
        rcases List.mem_append.1 he with he | he
        · exact hpe e he
        · simp at he; subst he; omega))
    have HO := Lib.hid hown
    have HW0 := Lib.hid hw0
    have hsI : Hid (Value.int .i64 sI = .int .i64 (((s + 1 : Nat) : Int) - 1)) := Lib.hid (congrArg (Value.int .i64) (by omega))
    have hsI2 : Hid (sI = s) := Lib.hid hs
    clear hown hw0 hpe hpn hG hpl hs hR hh hlast ih
    go_enter Tryz.func100, Tryz.ntmps100
    go_wp2
    go_loopw [10] (fun vf wr => LlSt h R s w0.heap.size v pre w vf wr) (fun vf _ => (intOf vf + 1).toNat)
    case atStart => exact ⟨s + 1, hsI.out, Nat.le_refl _, HR, HO.out, Below.refl _ _, grown_of (Below.refl _ _)⟩
    case round =>
      clear HR
      obtain ⟨k, rfl, hk, hst, hown, hbel, hgr0⟩ := hrel
      have hz := hbel.size
      obtain ⟨b0, c0, rfl⟩ := own_shape hown
      by_cases hk0 : 0 < k
      · obtain ⟨f, rfl⟩ : ∃ f, k = f + 1 := ⟨k - 1, by omega⟩
        obtain ⟨F, hF⟩ : ∃ F : Int, ((f + 1 : Nat) : Int) - 1 = F := ⟨_, rfl⟩
        rw [hF]
        have hF0 : F = (f : Int) := by omega
        have f1 : 0 ≤ F := by omega
        have f2 : F ≤ sI := by rw [hF0, hsI2.out]; omega
        have hI2 := Lib.hid (fun x w h1 h2 h3 => hIH.out f F x w hF0 (by omega) h1 h2 h3)
        have HF0 := Lib.hid hF0
        have Hsn := Lib.hid (show cellsI (pre ++ [F]) = cellsI pre ++ [.int .i64 F] by simp [cellsI])
        have Hln := Lib.hid (show (pre ++ [F]).length = pre.length + 1 by simp)
        cases hfo : h f with
        | none =>
          have hst2 : Hid (loopD h f = R) := Lib.hid (by have := hst.out; rw [loopD, hfo] at this; exact this)
          have hI3 := Lib.hid (fun x w h1 h2 h3 => (show Calls Tryz.prog 100 #[.int .i64 (pl - 1), .int .i64 (sI - F), x, .func (.func 98) #[] #[pd, pf]] w (fun e w' => e = .returned (.slice none 0 0) ∧ w'.ownsRow w0.heap.size 3 1 x (pre ++ [F]).length (cellsI (pre ++ [F])) ∧ Below w0.heap.size w w' ∧ w.grownBy w' x.ownBlock) from (hI2.out x w h1 h2 h3).mono (fun e w' hh => by
            obtain ⟨h5, h6⟩ := hh
            rcases h5 with ⟨_, h7⟩ | ⟨E, g, c, h7, _⟩
            · exact ⟨h7, h6⟩
            · rw [hfo] at h7; cases h7)))
          have hRf : Hid (F - 1 = (f : Int) - 1) := Lib.hid (by omega)
          clear hst hF hF0 hfo hI2
          go_wp2_with (first
          | (at_builtin; refine wpList_append_keep rfl (.tmp 34) (.tmp 36) 32 rfl w0.heap.size 3 i0 _ 1 8 Tryz.underlying32 hi hz0 hz1 hz2 rfl (by decide) (.slice b0 pre.length c0) pre.length (cellsI pre) rfl ?_ ⟨wr.heap.size, 0, none⟩ 1 1 [.int .i64 F] rfl rfl ?_ (one1 _) ?_ ?_ ?_ ?_; exact own_alloc hown; exact cells1 (Blk.new _ _ _); (unfold maxLen; omega); omega; (simp; omega); intro x2 w2 hown2 hgr hkeep hloc; have hown2' : w2.ownsRow w0.heap.size 3 1 x2 (pre ++ [F]).length (cellsI (pre ++ [F])) := (by rw [Hsn.out, Hln.out]; exact hown2); have hb2 : Below w0.heap.size w w2 := below_grown (own_ge hown) (by simp; omega) hgr ((by repeat (first | with_reducible exact Below.refl _ _ | with_reducible assumption | with_reducible apply Below.drew | with_reducible apply below_drewN | (with_reducible apply below_setp; (first | omega | (simp <;> omega))) | (with_reducible apply below_allocp; (first | omega | (simp <;> omega))) | (with_reducible refine below_viap (by assumption) ?_ ?_; (first | omega | (simp <;> omega)))))); have hz2' := hb2.size; have hgs := hgr.size; (simp at hgs))
          | (go_at_call 100; refine (hI3.out _ _ (HW0.out.trans hb2) (by omega) hown2').mono ?_; rintro e w3 ⟨rfl, hown3, hb3, hgr3⟩; have hz3 := hb3.size))
          have hv3 := sub_keep hkeep hown2' hloc (fun q hq => by have := own_lt hown q hq; simp; omega) hown3 hgr3
          have hg3 := sub_grown hgr0 hgr hloc (by simp) hgr3
          have hbN : Below w0.heap.size w w3 := hb2.trans hb3
          clear hgr hgr3 hown2 hown2' hown3 hkeep hown hb2 hb3
          go_roundw
          case rel => exact ⟨f, congrArg (Value.int .i64) hRf.out, by omega, hst2, hv3, hbN, hg3⟩
          case measure => have := HF0.out; simp only [intOf]; omega
        | some E =>
          have hRE : Hid (R = some E) := Lib.hid (by have := hst.out; rw [loopD, hfo] at this; exact this.symm)
          have hI3 := Lib.hid (fun x w h1 h2 h3 => (show Calls Tryz.prog 100 #[.int .i64 (pl - 1), .int .i64 (sI - F), x, .func (.func 98) #[] #[pd, pf]] w (fun e w' => (∃ g c, e = .returned (.slice (some ⟨g, 0, none⟩) E.length c) ∧ w'.ownsRow w0.heap.size 3 1 (.slice (some ⟨g, 0, none⟩) E.length c) E.length (cellsI E)) ∧ w'.ownsRow w0.heap.size 3 1 x (pre ++ [F]).length (cellsI (pre ++ [F])) ∧ Below w0.heap.size w w' ∧ w.grownBy w' x.ownBlock) from (hI2.out x w h1 h2 h3).mono (fun e w' hh => by
            obtain ⟨h5, h6⟩ := hh
            rcases h5 with ⟨h7, _⟩ | ⟨E', g, c, h7, h8, h9⟩
            · rw [hfo] at h7; cases h7
            · rw [hfo] at h7; injection h7 with h7; subst h7; exact ⟨⟨g, c, h8, h9⟩, h6⟩)))
          clear hst hF hF0 hfo hI2
          go_wp2_with (first
          | (at_builtin; refine wpList_append_keep rfl (.tmp 34) (.tmp 36) 32 rfl w0.heap.size 3 i0 _ 1 8 Tryz.underlying32 hi hz0 hz1 hz2 rfl (by decide) (.slice b0 pre.length c0) pre.length (cellsI pre) rfl ?_ ⟨wr.heap.size, 0, none⟩ 1 1 [.int .i64 F] rfl rfl ?_ (one1 _) ?_ ?_ ?_ ?_; exact own_alloc hown; exact cells1 (Blk.new _ _ _); (unfold maxLen; omega); omega; (simp; omega); intro x2 w2 hown2 hgr hkeep hloc; have hown2' : w2.ownsRow w0.heap.size 3 1 x2 (pre ++ [F]).length (cellsI (pre ++ [F])) := (by rw [Hsn.out, Hln.out]; exact hown2); have hb2 : Below w0.heap.size w w2 := below_grown (own_ge hown) (by simp; omega) hgr ((by repeat (first | with_reducible exact Below.refl _ _ | with_reducible assumption | with_reducible apply Below.drew | with_reducible apply below_drewN | (with_reducible apply below_setp; (first | omega | (simp <;> omega))) | (with_reducible apply below_allocp; (first | omega | (simp <;> omega))) | (with_reducible refine below_viap (by assumption) ?_ ?_; (first | omega | (simp <;> omega)))))); have hz2' := hb2.size; have hgs := hgr.size; (simp at hgs))
          | (go_at_call 100; refine (hI3.out _ _ (HW0.out.trans hb2) (by omega) hown2').mono ?_; rintro e w3 ⟨⟨g, c, rfl, hoE⟩, hown3, hb3, hgr3⟩; have hz3 := hb3.size))
          have hv3 := sub_keep hkeep hown2' hloc (fun q hq => by have := own_lt hown q hq; simp; omega) hown3 hgr3
          have hg3 := sub_grown hgr0 hgr hloc (by simp) hgr3
          have hbN : Below w0.heap.size w w3 := hb2.trans hb3
          go_ret
          exact ⟨.inr ⟨E, g, c, hRE.out, rfl, hoE⟩, hv3, hbN, hg3⟩
      · have ek : k = 0 := by omega
        subst ek
        have hRn : Hid (R = none) := Lib.hid hst.out.symm
        clear hst
        go_wp2
        go_ret
        exact ⟨.inl ⟨hRn.out, rfl⟩, hown, hbel, hgr0⟩
end Go.Proofs.YteehcjjhkphdnaaGreat
