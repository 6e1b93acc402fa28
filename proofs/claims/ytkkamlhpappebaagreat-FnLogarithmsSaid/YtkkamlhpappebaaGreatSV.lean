/- Plain facts: logarithms add up under composition. -/
import Derived.Test.YtkkamlhpappebaaGreatBX
import Derived.Test.YtkkamlhpappebaaGreatLZ
import Derived.Test.YtkkamlhpappebaaGreatRY
import Derived.Test.YtkkamlhpappebaaGreatDA
import Derived.Test.YtkkamlhpappebaaGreatGU
namespace Go.Proofs.YtkkamlhpappebaaGreat

/-- Sums of exponents modulo the orders. -/
def addE : List Nat → List Nat → List Nat → List Nat
  | a :: e, b :: f, n :: N => (a + b) % n :: addE e f N
  | _, _, _ => []
theorem addE_small {e N : List Nat} (h : Ab.Small e N) : ∀ f, Ab.Small f N → Ab.Small (addE e f N) N := by
  induction h with
  | nil => intro f hf; cases hf; exact .nil
  | cons ha _ ih =>
    intro f hf
    cases hf with
    | cons hb hs => exact .cons (Nat.mod_lt _ (by omega)) (ih _ hs)
theorem addE_get : ∀ (e f N : List Nat) (k : Nat) (h1 : k < e.length) (h2 : k < f.length) (h3 : k < N.length) (h4 : k < (addE e f N).length), (addE e f N)[k] = (e[k] + f[k]) % N[k]
  | a :: e, b :: f, n :: N, 0, _, _, _, _ => rfl
  | a :: e, b :: f, n :: N, k + 1, h1, h2, h3, h4 => by
    have := addE_get e f N k (by simpa using h1) (by simpa using h2) (by simpa using h3) (by simpa [addE] using h4)
    exact this
theorem Ab.comb_add {α : Type} {G : Ab α} {S J : List α} {N : List Nat} (hB : G.Bas S J N) : ∀ e f : List Nat, Ab.Small e N → Ab.Small f N → G.comb J (addE e f N) = G.mul (G.comb J e) (G.comb J f) := by
  induction hB with
  | nil =>
    intro e f h1 h2
    cases h1; cases h2
    show G.one = G.mul G.one G.one
    rw [G.mul_one]
  | @cons x n J N T _ _ _ _ hI ih =>
    intro e f h1 h2
    cases h1 with
    | @cons a _ e _ ha h1 =>
      cases h2 with
      | @cons b _ f _ hb h2 =>
        have hp : G.pw x ((a + b) % n) = G.mul (G.pw x a) (G.pw x b) := by
          rw [← G.pw_add]
          conv => rhs; rw [← Nat.div_add_mod (a + b) n]
          rw [G.pw_add, G.pw_mul, hI.2.1, G.pw_one, G.one_mul]
        show G.mul (G.pw x ((a + b) % n)) (G.comb J (addE e f N)) = G.mul (G.mul (G.pw x a) (G.comb J e)) (G.mul (G.pw x b) (G.comb J f))
        rw [ih e f h1 h2, hp, G.assoc, G.assoc]
        congr 1
        rw [← G.assoc, ← G.assoc, G.comm (G.pw x b)]
theorem logN_comb {d : Int} (D : Dsc d) (i : Nat) : (clG D).comb ((basN d).map (elN D)) (logN D i) = elN D i := (Classical.choose_spec (log_ex D i)).2
theorem logN_add {d : Int} (D : Dsc d) {i j k : Nat} (h : elN D k = (clG D).mul (elN D i) (elN D j)) : logN D k = addE (logN D i) (logN D j) (facN d) :=
  (bas_all D).inj _ _ (logN_small D k) (addE_small (logN_small D i) _ (logN_small D j)) (by
    rw [Ab.comb_add (bas_all D) _ _ (logN_small D i) (logN_small D j), logN_comb, logN_comb, logN_comb, h])
/-- What the calls give for two forms that can be composed. -/
structure LgRow (f g : Fm) (r q : Fm) (a b c n : List Int) (h : Int) : Prop where
  la : LgL f.a f.b f.c a true
  lb : LgL g.a g.b g.c b true
  lc : LgL r.a r.b r.c c true
  co : cmp (disc f) (red f) (red g) = r
  rd : red f = q
  cl : isCls f.a f.b f.c = true
  iv : IvL (disc f) n true
  cn : ClsN (disc f) h true
  fl : FlF (disc f) a q true
  ea : a.length = n.length
  eb : b.length = n.length
  ec : c.length = n.length
  l20 : n.length ≤ 20
  pr : prodI n = h
  hb : 1 ≤ h ∧ h ≤ 1640
  nb : ∀ x ∈ n, 2 ≤ x ∧ x ≤ 1640
  dv : ∀ k (_ : k + 1 < n.length), (n[k + 1]).tmod n[k] = 0
  sm : ∀ k (_ : k < n.length) (_ : k < a.length) (_ : k < b.length) (_ : k < c.length), (a[k] + b[k] - c[k]).tmod n[k] = 0
  ba : ∀ x ∈ a, 0 ≤ x ∧ x ≤ 1640
  bb : ∀ x ∈ b, 0 ≤ x ∧ x ≤ 1640
  bc : ∀ x ∈ c, 0 ≤ x ∧ x ≤ 1640
theorem nats_bd {d : Int} (D : Dsc d) {e : List Nat} (hs : Ab.Small e (facN d)) : ∀ x ∈ nats e, 0 ≤ x ∧ x ≤ 1640 := by
  intro x hx
  obtain ⟨y, hy, rfl⟩ := List.mem_map.1 hx
  obtain ⟨k, hk, rfl⟩ := List.getElem_of_mem hy
  have hk2 : k < (facN d).length := by rw [← hs.len]; exact hk
  have h1 := hs.get k hk hk2
  have h2 := (facN_ge D _ (List.getElem_mem hk2)).2
  simp
  omega
theorem sum_tmod {e f N : List Nat} {q : Nat} (h1 : q < e.length) (h2 : q < f.length) (h3 : q < N.length) (h4 : q < (addE e f N).length) : ((e[q] : Int) + (f[q] : Int) - ((addE e f N)[q] : Int)).tmod (N[q] : Int) = 0 := by
  rw [addE_get e f N q h1 h2 h3 h4]
  apply Int.tmod_eq_zero_of_dvd
  rw [Int.natCast_emod, Int.natCast_add]
  rw [← Int.dvd_neg, Int.neg_sub]
  exact Int.dvd_sub_self_of_emod_eq rfl
theorem sum_rows {A B C N : List Nat} {n : List Int} (hn : nats N = n) (hC : C = addE A B N) :
    ∀ k (h1 : k < n.length) (h2 : k < (nats A).length) (h3 : k < (nats B).length) (h4 : k < (nats C).length), ((nats A)[k] + (nats B)[k] - (nats C)[k]).tmod n[k] = 0 := by
  subst hn hC
  intro k h1 h2 h3 h4
  rw [nats_len] at h1 h2 h3 h4
  rw [(nats_get N h1).2, (nats_get A h2).2, (nats_get B h3).2, (nats_get _ h4).2]
  exact sum_tmod h2 h3 h1 h4
theorem lg_row {f g : Fm} (h : pairB f g = true) : ∃ r q a b c n hh, LgRow f g r q a b c n hh := by
  unfold pairB at h
  simp only [Bool.and_eq_true, decide_eq_true_eq] at h
  obtain ⟨hf, hg, he⟩ := h
  have cf : CF (disc f) f (red f) := CF.of_cls hf
  have cg : CF (disc g) g (red g) := CF.of_cls hg
  have hlf : ∀ e, LgL f.a f.b f.c e true ↔ e = nats (lgN (disc f) (gix (clsL (disc f)) (red f)).toNat) := fun e => ⟨fun h => by rcases h with ⟨_, _, h⟩ | ⟨_, h, _⟩; cases h; exact h, fun h => .inr ⟨hf, h, rfl⟩⟩
  have hlg : ∀ e, LgL g.a g.b g.c e true ↔ e = nats (lgN (disc g) (gix (clsL (disc g)) (red g)).toNat) := fun e => ⟨fun h => by rcases h with ⟨_, _, h⟩ | ⟨_, h, _⟩; cases h; exact h, fun h => .inr ⟨hg, h, rfl⟩⟩
  rw [← he] at cg hlg
  have D := cf.D
  have hrm := D.cmpm cf.mem cg.mem
  have hfm := cf.mem
  have hgm := cg.mem
  obtain ⟨r, hr⟩ : ∃ r, cmp (disc f) (red f) (red g) = r := ⟨_, rfl⟩
  rw [hr] at hrm
  have hcr := cls_isCls D hrm
  obtain ⟨⟨_, _, e3, e4, _⟩, _⟩ := mem_clsL D.lo hrm
  have hdr : disc ⟨r.a, r.b, r.c⟩ = disc f := e3
  have hrr : red ⟨r.a, r.b, r.c⟩ = r := red_of e4
  have hlr : LgL r.a r.b r.c (nats (lgN (disc f) (gix (clsL (disc f)) r).toNat)) true := .inr ⟨hcr, by rw [hdr, hrr], rfl⟩
  obtain ⟨i, hi, hi1, hi2⟩ := gix_mem hfm
  obtain ⟨j, hj, hj1, hj2⟩ := gix_mem hgm
  obtain ⟨k, hk, hk1, hk2⟩ := gix_mem hrm
  rw [hi2, Int.toNat_natCast, lgN_eq D] at hlf
  rw [hj2, Int.toNat_natCast, lgN_eq D] at hlg
  rw [hk2, Int.toNat_natCast, lgN_eq D] at hlr
  have hel : elN D k = (clG D).mul (elN D i) (elN D j) := by
    apply Subtype.ext
    rw [elN_val D hk, hk1, ← hr]
    show _ = cmp (disc f) (elN D i).1 (elN D j).1
    rw [elN_val D hi, elN_val D hj, hi1, hj1]
  have hadd := logN_add D hel
  have hisd := isDisc_of D
  have hfa := frF_at D (nats (logN D i))
  have hl1 := logN_len D i
  have hl2 := logN_len D j
  have hl3 := logN_len D k
  have hm := clsL_len (disc f)
  have hm0 : 0 < (clsL (disc f)).length := List.length_pos_of_mem D.one
  have hfr : frF (disc f) (nats (logN D i)) = red f := by
    obtain ⟨h1, h2⟩ := hfa
    rw [← h2]
    have e1 : cmbN D (redE (nats (logN D i)) (facN (disc f))) (facN (disc f)).length = i := by
      rw [redE_nats (logN_small D i)]; exact logN_cmb D hi
    rw [← hi1]
    congr 1
  refine ⟨r, red f, nats (logN D i), nats (logN D j), nats (logN D k), (invL (disc f)).reverse, ((clsL (disc f)).length : Int), { la := (hlf _).2 rfl, lb := (hlg _).2 rfl, lc := hlr, co := hr, rd := rfl, cl := hf, iv := .inr ⟨hisd, rfl, rfl⟩, cn := .inr ⟨hisd, rfl, rfl⟩, fl := ?_, ea := ?_, eb := ?_, ec := ?_, l20 := ?_, pr := inv_prod D, hb := by omega, nb := ?_, dv := ?_, sm := ?_, ba := nats_bd D (logN_small D i), bb := nats_bd D (logN_small D j), bc := nats_bd D (logN_small D k) }⟩
  · refine .inr (.inr (.inr ⟨hisd, ?_, ?_, hfr.symm, rfl⟩))
    · unfold inR
      rw [List.all_eq_true]
      intro x hx
      have := nats_bd D (logN_small D i) x hx
      simp
      omega
    · rw [nats_len]; exact hl1
  · rw [nats_len, hl1, facN_len, List.length_reverse]
  · rw [nats_len, hl2, facN_len, List.length_reverse]
  · rw [nats_len, hl3, facN_len, List.length_reverse]
  · rw [List.length_reverse]; exact inv_len20 D
  · intro x hx
    have h1 := inv_ge D x (List.mem_reverse.1 hx)
    have h2 := inv_le D x (List.mem_reverse.1 hx)
    omega
  · intro q hq
    rw [List.length_reverse] at hq
    have h1 := inv_dvd (disc f) ((invL (disc f)).length - 2 - q)
    rw [List.getElem_reverse, List.getElem_reverse]
    rw [List.getD_eq_getElem?_getD, List.getD_eq_getElem?_getD, List.getElem?_eq_getElem (by omega), List.getElem?_eq_getElem (by omega)] at h1
    simp only [Option.getD_some] at h1
    have e1 : (invL (disc f)).length - 1 - (q + 1) = (invL (disc f)).length - 2 - q := by omega
    have e2 : (invL (disc f)).length - 1 - q = (invL (disc f)).length - 2 - q + 1 := by omega
    simp only [e1, e2]
    exact Int.tmod_eq_zero_of_dvd h1
  · exact sum_rows (fac_nats D) hadd
end Go.Proofs.YtkkamlhpappebaaGreat
