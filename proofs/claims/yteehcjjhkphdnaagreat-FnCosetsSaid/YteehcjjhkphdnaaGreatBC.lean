/- Parts B1 B2 B3 B4 B5 laid together by tp.py. -/
import Derived.Test.YteehcjjhkphdnaaGreatZ1
import Derived.Test.YteehcjjhkphdnaaGreatY2
import Derived.Test.YteehcjjhkphdnaaGreatN5
import Derived.Test.YteehcjjhkphdnaaGreatZX
import Derived.Test.YteehcjjhkphdnaaGreatTZ
import Derived.Test.YteehcjjhkphdnaaGreatZ8
import Derived.Test.YteehcjjhkphdnaaGreatY5
import Derived.Test.YteehcjjhkphdnaaGreatN11
namespace Go.Proofs.YteehcjjhkphdnaaGreat
section
open Go.RowKit

/-- Is x a product of i and an element of S? -/
def cosB (mul : Nat → Nat → Nat) (S : List Nat) (i x : Nat) : Bool := S.any fun j => mul i j == x
def cosN (mul : Nat → Nat → Nat) (S : List Nat) (m i : Nat) : List Nat := (List.range m).filter (cosB mul S i)
/-- The cosets of the first k indices. -/
def cosS (mul : Nat → Nat → Nat) (S : List Nat) (m : Nat) : Nat → List (List Nat)
  | 0 => []
  | k + 1 => if (cosS mul S m k).any (fun c => c.contains k) then cosS mul S m k else cosS mul S m k ++ [cosN mul S m k]
def seenB (mul : Nat → Nat → Nat) (S : List Nat) (m k x : Nat) : Bool := (cosS mul S m k).any fun c => c.contains x
variable {mul : Nat → Nat → Nat} {S : List Nat} {m : Nat}
theorem seen_zero (x : Nat) : seenB mul S m 0 x = false := rfl
theorem cosS_yes {k : Nat} (h : seenB mul S m k k = true) : cosS mul S m (k + 1) = cosS mul S m k := by
  unfold seenB at h
  rw [cosS, if_pos h]
theorem cosS_no {k : Nat} (h : seenB mul S m k k = false) : cosS mul S m (k + 1) = cosS mul S m k ++ [cosN mul S m k] := by
  unfold seenB at h
  rw [cosS, if_neg (by rw [h]; simp)]
theorem seen_yes {k : Nat} (h : seenB mul S m k k = true) (x : Nat) : seenB mul S m (k + 1) x = seenB mul S m k x := by
  unfold seenB
  rw [cosS_yes h]
theorem seen_no {k : Nat} (h : seenB mul S m k k = false) (x : Nat) : seenB mul S m (k + 1) x = (seenB mul S m k x || (decide (x < m) && cosB mul S k x)) := by
  have e : (cosN mul S m k).contains x = (decide (x < m) && cosB mul S k x) := by
    rw [Bool.eq_iff_iff]
    simp [cosN]
  conv => lhs; unfold seenB
  rw [cosS_no h, List.any_append]
  simp only [List.any_cons, List.any_nil, Bool.or_false, e]
  rfl
theorem cosN_len (i : Nat) : (cosN mul S m i).length ≤ m := by
  unfold cosN
  exact Nat.le_trans (List.length_filter_le _ _) (by simp)
theorem cosS_len : ∀ k, (cosS mul S m k).length ≤ k
  | 0 => Nat.le_refl _
  | k + 1 => by
    have ih := cosS_len k
    rw [cosS]
    split
    · omega
    · simp; omega
theorem cosS_row : ∀ k, ∀ c ∈ cosS mul S m k, c.length ≤ m
  | 0, c, h => by simp [cosS] at h
  | k + 1, c, h => by
    rw [cosS] at h
    split at h
    · exact cosS_row k c h
    · rcases List.mem_append.1 h with h | h
      · exact cosS_row k c h
      · simp at h; subst h; exact cosN_len _
/-- The marks of a coset while they are made. -/
def cmB (mul : Nat → Nat → Nat) (p : Nat → Bool) (i q x : Nat) : Bool := (List.range q).any fun j => p j && mul i j == x
theorem cmB_zero (p : Nat → Bool) (i x : Nat) : cmB mul p i 0 x = false := rfl
theorem cmB_no {p : Nat → Bool} {i q : Nat} (h : p q = false) (x : Nat) : cmB mul p i (q + 1) x = cmB mul p i q x := by
  unfold cmB
  rw [List.range_succ, List.any_append]
  simp [h]
theorem cmB_yes {p : Nat → Bool} {i q : Nat} (h : p q = true) (x : Nat) : cmB mul p i (q + 1) x = if x = mul i q then true else cmB mul p i q x := by
  unfold cmB
  rw [List.range_succ, List.any_append]
  by_cases e : x = mul i q
  · subst e; simp [h]
  · have : ¬ mul i q = x := fun h => e h.symm
    simp [h, e, this]
theorem cmB_full (p : Nat → Bool) (i x : Nat) : cmB mul p i m x = cosB mul ((List.range m).filter p) i x := by
  unfold cmB cosB
  rw [List.any_filter]
/-- The row of a coset while it is read off. -/
def rowN (F : Nat → Bool) (q : Nat) : List Int := nats ((List.range q).filter F)
theorem rowN_next (F : Nat → Bool) (q : Nat) : rowN F (q + 1) = if F q then rowN F q ++ [(q : Int)] else rowN F q := by
  unfold rowN
  rw [List.range_succ, List.filter_append]
  cases h : F q with
  | true => simp [h, nats_snoc]
  | false => simp [h]
theorem rowN_len (F : Nat → Bool) (q : Nat) : (rowN F q).length ≤ q := by
  unfold rowN
  rw [nats_len]
  exact Nat.le_trans (List.length_filter_le _ _) (by simp)
theorem rowN_full (i : Nat) : rowN (cosB mul S i) m = nats (cosN mul S m i) := rfl
/-- A sorted list of just the products is the coset. -/
theorem cos_uniq {A : List Int} {i : Nat} (hs : A.Pairwise (· < ·)) (hm : ∀ j ∈ S, mul i j < m) (h : ∀ x : Int, x ∈ A ↔ ∃ j ∈ S, x = (mul i j : Nat)) : A = nats (cosN mul S m i) := by
  refine sorted_uniq A _ hs ?_ fun x => ?_
  · unfold nats cosN
    rw [List.pairwise_map]
    exact List.Pairwise.imp (fun h => Int.ofNat_lt.2 h) (List.Pairwise.filter _ List.pairwise_lt_range)
  · rw [h]
    constructor
    · rintro ⟨j, hj, rfl⟩
      refine List.mem_map.2 ⟨mul i j, List.mem_filter.2 ⟨List.mem_range.2 (hm j hj), ?_⟩, rfl⟩
      unfold cosB
      exact List.any_eq_true.2 ⟨j, hj, by simp⟩
    · intro hx
      obtain ⟨k, hk, rfl⟩ := List.mem_map.1 hx
      have := (List.mem_filter.1 hk).2
      unfold cosB at this
      obtain ⟨j, hj, he⟩ := List.any_eq_true.1 this
      exact ⟨j, hj, by simp at he; rw [he]; rfl⟩
end

section
open Go.RowKit

/-- A list of lists of integers: the outer row has the values vs, each of which is a row of its own. -/
def NestW (B : Nat) (G : List (List Int)) (v : Value) (vs : List Value) (w : World) : Prop :=
  w.ownsRow B 32 1 v G.length vs ∧
  (∀ (i : Nat) (h : i < G.length), ∃ u : Value, vs[i]? = some u ∧ w.ownsRow B 3 1 u G[i].length (cellsI G[i]) ∧ ∀ q, u.ownBlock = some q → v.ownBlock ≠ some q) ∧
  (∀ (i j : Nat) (u u' : Value), i ≠ j → vs[i]? = some u → vs[j]? = some u' → ∀ q, u.ownBlock = some q → u'.ownBlock ≠ some q)
def NestI (B : Nat) (G : List (List Int)) (v : Value) (w : World) : Prop := ∃ vs, NestW B G v vs w
variable {B : Nat} {G : List (List Int)} {v u v' : Value} {vs : List Value} {w w0 wA w2 w' : World}
theorem NestW.len (h : NestW B G v vs w) : vs.length = G.length := by have := h.1.1; omega
theorem NestW.call (h : NestW B G v vs w) (hb : Below w.heap.size w w') : NestW B G v vs w' := by
  refine ⟨own_call hb h.1, fun i hi => ?_, h.2.2⟩
  obtain ⟨u, h1, h2, h3⟩ := h.2.1 i hi
  exact ⟨u, h1, own_call hb h2, h3⟩
theorem NestW.alloc (h : NestW B G v vs w) (o : Obj) : NestW B G v vs (w.alloc o) := h.call ((Below.refl _ _).alloc (Nat.le_refl _) _)
theorem NestI.call (h : NestI B G v w) (hb : Below w.heap.size w w') : NestI B G v w' := by
  obtain ⟨vs, h⟩ := h; exact ⟨vs, h.call hb⟩
theorem NestI.base {B' : Nat} (hB : B' ≤ B) (h : NestI B G v w) : NestI B' G v w := by
  obtain ⟨vs, h1, h2, h3⟩ := h
  refine ⟨vs, own_base hB h1, fun i hi => ?_, h3⟩
  obtain ⟨u, k1, k2, k3⟩ := h2 i hi
  exact ⟨u, k1, own_base hB k2, k3⟩
theorem NestI.shape (h : NestI B G v w) : ∃ base cap, v = .slice base G.length cap := by
  obtain ⟨vs, h1, _⟩ := h; exact own_shape h1
theorem NestI.nil : NestI B [] (.slice none 0 0) w := ⟨[], World.ownsRow_nil _ _ _ _, fun i h => absurd h (Nat.not_lt_zero _), fun i j u u' _ h => by simp at h⟩
theorem NestI.empty (hB : B ≤ w.heap.size) : NestI B [] (.slice (some ⟨w.heap.size, 0, none⟩) 0 0) (w.alloc (.cells #[] 32)) :=
  ⟨[], own_empty hB, fun i h => absurd h (Nat.not_lt_zero _), fun i j u u' _ h => by simp at h⟩
theorem NestW.row_lt (h : NestW B G v vs w) {i : Nat} {u : Value} (hu : vs[i]? = some u) : ∀ q, u.ownBlock = some q → q < w.heap.size ∧ v.ownBlock ≠ some q := by
  intro q hq
  have hi : i < G.length := by rw [← h.len]; exact (List.getElem?_eq_some_iff.1 hu).1
  obtain ⟨u', h1, h2, h3⟩ := h.2.1 i hi
  obtain rfl : u = u' := by rw [hu] at h1; injection h1
  exact ⟨own_lt h2 q hq, h3 q hq⟩
theorem own_ne {e : TypeId} {sz n s : Nat} {xs : List Value} (h : w.ownsRow B e sz v n xs) (hs : s < B) : v.ownBlock = none ∨ v.ownBlock ≠ some s := by
  cases hv : v.ownBlock with
  | none => exact .inl rfl
  | some q => exact .inr (fun he => by injection he with he; have := own_ge h q hv; omega)
theorem grown_below (row : Option Nat) (hb : Below w.heap.size w w') : w.grownBy w' row := ⟨hb.os, hb.tape, hb.output, hb.size, fun k hk _ => hb.block k hk⟩
theorem grown_step {s : Nat} {row : Option Nat} (h1 : w.grownBy w0 (some s)) (h2 : w0.grownBy w' row) (hr : ∀ q, row = some q → w.heap.size ≤ q ∨ q = s) : w.grownBy w' (some s) :=
  ⟨h2.os.trans h1.os, h2.tape.trans h1.tape, h2.output.trans h1.output, Nat.le_trans h1.size h2.size, fun k hk hne => (h2.block k (Nat.lt_of_lt_of_le hk h1.size) (fun he => (hr k he.symm).elim (fun h => by omega) (fun h => hne (by rw [h])))).trans (h1.block k hk hne)⟩
theorem NestW.grown {s : Nat} (h : NestW B G v vs w) (hg : w.grownBy w' (some s)) (hs : s < B) : NestW B G v vs w' := by
  refine ⟨h.1.kept hg (own_ne h.1 hs), fun i hi => ?_, h.2.2⟩
  obtain ⟨u, h1, h2, h3⟩ := h.2.1 i hi
  exact ⟨u, h1, h2.kept hg (own_ne h2 hs), h3⟩
/-- One list more at the end. -/
theorem NestW.snoc {s : Nat} {g : List Int} (h : NestW B G v vs w0) (hb : w0.grownBy wA (some s)) (hs : s < B) (hu : wA.ownsRow w0.heap.size 3 1 u g.length (cellsI g)) (hB : B ≤ w0.heap.size)
    (hown : w2.ownsRow B 32 1 v' (G.length + 1) (vs ++ [u])) (hg : wA.grownBy w2 v.ownBlock) (hloc : v'.ownBlock = v.ownBlock ∨ v'.ownBlock = some wA.heap.size) : NestI B (G ++ [g]) v' w2 := by
  have hsz := hb.size
  have hl := h.len
  have hvlt : ∀ q, v.ownBlock = some q → q < w0.heap.size := own_lt h.1
  have huge : ∀ q, u.ownBlock = some q → w0.heap.size ≤ q := own_ge hu
  have hult : ∀ q, u.ownBlock = some q → q < wA.heap.size := own_lt hu
  refine ⟨vs ++ [u], by rw [List.length_append]; exact hown, fun i hi => ?_, ?_⟩
  · by_cases hlt : i < G.length
    · obtain ⟨x, h1, h2, h3⟩ := h.2.1 i hlt
      refine ⟨x, by rw [List.getElem?_append_left (by omega)]; exact h1, ?_, fun q hq => ?_⟩
      · rw [List.getElem_append_left hlt]
        exact (h2.kept hb (own_ne h2 hs)).kept hg (keep_of h3)
      · rcases hloc with e | e
        · rw [e]; exact h3 q hq
        · rw [e]; intro he; injection he with he; have := own_lt h2 q hq; omega
    · have e : i = G.length := by rw [List.length_append, List.length_singleton] at hi; omega
      subst e
      refine ⟨u, by rw [← hl]; simp, ?_, fun q hq => ?_⟩
      · rw [List.getElem_append_right (Nat.le_refl _)]
        simp only [Nat.sub_self, List.getElem_cons_zero]
        exact own_base hB (hu.kept hg (keep_of (fun q hq he => by have := huge q hq; have := hvlt q he; omega)))
      · rcases hloc with e | e
        · rw [e]; intro he; have := huge q hq; have := hvlt q he; omega
        · rw [e]; intro he; injection he with he; have := hult q hq; omega
  · intro i j x y hij hx hy q hq he
    by_cases h1 : i < vs.length
    · rw [List.getElem?_append_left h1] at hx
      by_cases h2 : j < vs.length
      · rw [List.getElem?_append_left h2] at hy
        exact h.2.2 i j x y hij hx hy q hq he
      · have e : j = vs.length := by have := (List.getElem?_eq_some_iff.1 hy).1; rw [List.length_append, List.length_singleton] at this; omega
        subst e
        have e2 : u = y := by simpa using hy
        subst e2
        have := (h.row_lt hx q hq).1
        have := huge q he
        omega
    · have e : i = vs.length := by have := (List.getElem?_eq_some_iff.1 hx).1; rw [List.length_append, List.length_singleton] at this; omega
      subst e
      have e2 : u = x := by simpa using hx
      subst e2
      have h2 : j < vs.length := by have := (List.getElem?_eq_some_iff.1 hy).1; rw [List.length_append, List.length_singleton] at this; omega
      rw [List.getElem?_append_left h2] at hy
      have := (h.row_lt hy q he).1
      have := huge q hq
      omega
end

section
open Go.RowKit Go.Maps

def RetNi (G : List (List Int)) (ok : Bool) (w : World) (e : Ending) (w' : World) : Prop := ∃ v, e = .returned (.tuple #[v, .bool ok]) ∧ NestI w.heap.size G v w' ∧ Below w.heap.size w w'
/-- What CosetsOf gives. -/
def CdL (d : Int) (zs : List Fm) (G : List (List Int)) (ok : Bool) : Prop :=
  (SgS d zs = false ∧ G = [] ∧ ok = false) ∨ (SgS d zs = true ∧ G = (cosS (mulN d (clsL d)) (spanL (mulN d (clsL d)) (gensN (clsL d) zs) (clsL d).length) (clsL d).length (clsL d).length).map nats ∧ ok = true)
theorem cdL_ex (d : Int) (zs : List Fm) : ∃ G ok, CdL d zs G ok ∧ G.length ≤ 2000 ∧ ∀ g ∈ G, g.length ≤ 2000 := by
  cases hc : SgS d zs with
  | false => exact ⟨_, _, .inl ⟨hc, rfl, rfl⟩, by simp, by simp⟩
  | true =>
    have hl := clsL_len d
    refine ⟨_, _, .inr ⟨hc, rfl, rfl⟩, ?_, ?_⟩
    · rw [List.length_map]
      exact Nat.le_trans (cosS_len _) (by omega)
    · intro g hg
      obtain ⟨c, hc, rfl⟩ := List.mem_map.1 hg
      rw [nats_len]
      exact Nat.le_trans (cosS_row _ c hc) (by omega)
theorem NestI.emptyq {w : World} {B g : Nat} (hg : g = w.heap.size) (hB : B ≤ w.heap.size) : NestI B [] (.slice (some ⟨g, 0, none⟩) 0 0) (w.alloc (.cells #[] 32)) := by
  subst hg; exact NestI.empty hB
theorem oneSl (x : Value) (h : x.oneCell' = true := by rfl) : ∀ u ∈ ([x] : List Value), u.oneCell' = true := by
  intro u hu; simp at hu; subst hu; exact h
/-- The outer loop. -/
def CsOut (mul : Nat → Nat → Nat) (S : List Nat) (m : Nat) (w1 : World) (v vi : Value) (wr : World) : Prop :=
  ∃ k : Nat, vi = .int .i64 k ∧ k ≤ m ∧ Hid (NestI (w1.heap.size + 1) ((cosS mul S m k).map nats) v wr) ∧ Hid (wr.rowIs w1.heap.size 4 m (fun x => .bool (seenB mul S m k x))) ∧ w1.heap.size < wr.heap.size ∧ Below w1.heap.size w1 wr
/-- The marks of one coset. -/
def CsMrk (mul : Nat → Nat → Nat) (p : Nat → Bool) (m k : Nat) (wo : World) (vq : Value) (wr : World) : Prop :=
  ∃ q : Nat, vq = .int .i64 q ∧ q ≤ m ∧ Hid (wr.rowIs wo.heap.size 4 m (fun x => .bool (cmB mul p k q x))) ∧ wo.heap.size < wr.heap.size ∧ Below wo.heap.size wo wr
/-- The coset's row is read off. -/
def CsRd (F G : Nat → Bool) (m s : Nat) (wo : World) (v vq : Value) (wr : World) : Prop :=
  ∃ q : Nat, vq = .int .i64 q ∧ q ≤ m ∧ wr.ownsRow wo.heap.size 3 1 v (rowN F q).length (cellsI (rowN F q)) ∧ Hid (wr.rowIs s 4 m (fun x => .bool (G x || (decide (x < q) && F x)))) ∧ Hid (wo.grownBy wr (some s))

set_option maxRecDepth 100000 in
set_option maxHeartbeats 6400000 in
theorem implCs_any (d : Int) (v : Value) (B2 : Nat) (zs : List Fm) (Gr : List (List Int)) (ok : Bool) (w : World) (hzl : zs.length ≤ 2000000) (h : CdL d zs Gr ok) (ho : w.ownsRow B2 36 3 v zs.length (cellsF zs)) :
    Calls Tryz.prog 42 #[.int .i64 d, v] w (RetNi Gr ok w) := by
  have hS0 := subgroup_any d (clsL d) zs v B2 w rfl hzl ho
  clear ho
  rcases h with ⟨hc, rfl, rfl⟩ | ⟨hc, rfl, rfl⟩
  · have hS : Hid (Calls Tryz.prog 115 #[.int .i64 d, v] w fun e w' => e = .returned (.tuple #[.pointer none, .slice none 0 0, .bool false]) ∧ Below w.heap.size w w') := Lib.hid (hS0.mono (fun e w' h => by
      rcases h with ⟨_, a, b⟩ | ⟨a, _⟩
      · exact ⟨a, b⟩
      · rw [hc] at a; cases a))
    clear hS0
    go_enter Tryz.func42, Tryz.ntmps42
    go_wp2_with (go_at_call 115; refine hS.out.mono ?_; rintro e w1 ⟨rfl, hb1⟩; have hz1 := hb1.size)
    go_ret2
    exact ⟨_, rfl, NestI.empty (by omega), (by repeat (first | with_reducible exact Below.refl _ _ | with_reducible assumption | with_reducible apply Below.drew | with_reducible apply below_drewN | (with_reducible apply below_setp; (first | omega | (simp <;> omega))) | (with_reducible apply below_allocp; (first | omega | (simp <;> omega))) | (with_reducible refine below_viap (by assumption) ?_ ?_; (first | omega | (simp <;> omega)))))⟩
  · obtain ⟨i0, hi0, hz0, hz1, hz2⟩ := info_parts infoInt
    obtain ⟨j0, hj0, hy0, hy1, hy2⟩ := info_parts infoSl
    have hl0 := clsL_len d
    have D := dsc_of (by have := hc; simp only [SgS, Bool.and_eq_true] at this; exact this.1)
    obtain ⟨p, hp⟩ : ∃ p, rchB (mulN d (clsL d)) (gensN (clsL d) zs) = p := ⟨_, rfl⟩
    have hspan : spanL (mulN d (clsL d)) (gensN (clsL d) zs) (clsL d).length = (List.range (clsL d).length).filter p := by rw [← hp]; rfl
    rw [hspan]
    have hS1 : Calls Tryz.prog 115 #[.int .i64 d, v] w fun e w' => ∃ G O, e = .returned (.tuple #[.pointer (some ⟨G, 0, none⟩), .slice (some ⟨O, 0, none⟩) (clsL d).length (clsL d).length, .bool true]) ∧ Grp (clsL d) w.heap.size G w' ∧ w.heap.size ≤ O ∧
        w'.rowIs O 4 (clsL d).length (fun i => .bool (rchB (mulN d (clsL d)) (gensN (clsL d) zs) i)) ∧ Below w.heap.size w w' := hS0.mono (fun e w' h => by
      rcases h with ⟨a, _⟩ | ⟨_, b⟩
      · rw [hc] at a; cases a
      · exact b)
    rw [hp] at hS1
    have hS := Lib.hid hS1
    have hT := Lib.hid (fun (i k : Nat) (B G : Nat) (hi : i < (clsL d).length) (hk : k < (clsL d).length) (w : World) hg => gtimes_n d i k (clsL d) B G w D rfl hi hk hg)
    have hcl := Lib.hid (fun (i k : Nat) (hi : i < (clsL d).length) (hk : k < (clsL d).length) => (mulN_eq D rfl hi hk).2)
    generalize mulN d (clsL d) = mul at *
    generalize clsL d = L at *
    clear hS0 hS1 hp hspan D
    have hfull := Lib.hid (fun i x => cmB_full (mul := mul) (m := L.length) p i x)
    generalize (List.range L.length).filter p = S at *
    have hmk := run_make_row' (P := Tryz.prog) 112 4 (.bool false) 1 Tryz.underlying112 infoBool rfl .i64 .i64 L.length (by omega) (by omega)
    go_enter Tryz.func42, Tryz.ntmps42
    go_wp2_with (go_at_call 115; refine hS.out.mono ?_; rintro e w1 ⟨G, O, rfl, hg, hO, hR, hb1⟩; have hz1' := hb1.size; have HG := Lib.hid hg; obtain ⟨base, cap, M, Dm, hblk, howl, _, _⟩ := hg; have cG := hblk.cell; have fG := hblk.frozen; have lG := hblk.lt; have nG := Nat.ne_of_lt lG; have nG2 : ¬ G = w1.heap.size + 1 := (by omega); have lG2 : G < w1.heap.size + 1 := (by omega))
    have HB := Lib.hid hblk
    have HR := Lib.hid hR
    have lO := hR.lt
    clear hR howl
    have hn0 : NestI (w1.heap.size + 1) ((cosS mul S L.length 0).map nats) (.slice (some ⟨w1.heap.size + 1, 0, none⟩) 0 0) ((w1.alloc (.cells (madeCells #[.bool false] L.length) 4)).alloc (.cells #[] 32)) := NestI.emptyq (by simp) (by simp)
    have hs0 : ((w1.alloc (.cells (madeCells #[.bool false] L.length) 4)).alloc (.cells #[] 32)).rowIs w1.heap.size 4 L.length (fun x => .bool (seenB mul S L.length 0 x)) := ((World.rowIs_made w1 (.bool false) L.length 4).alloc _).congr (fun _ _ => by rw [seen_zero])
    have HN0 := Lib.hid hn0
    have HS0 := Lib.hid hs0
    clear hn0 hs0
    go_loopw [10, 39] (fun v i wr => CsOut mul S L.length w1 v i wr) (fun _ i _ => L.length - (intOf i).toNat)
    case atStart => exact ⟨0, rfl, Nat.zero_le _, HN0, HS0, by simp; omega, (by repeat (first | with_reducible exact Below.refl _ _ | with_reducible assumption | with_reducible apply Below.drew | with_reducible apply below_drewN | (with_reducible apply below_setp; (first | omega | (simp <;> omega))) | (with_reducible apply below_allocp; (first | omega | (simp <;> omega))) | (with_reducible refine below_viap (by assumption) ?_ ?_; (first | omega | (simp <;> omega)))))⟩
    case round =>
      clear HN0 HS0
      obtain ⟨k, rfl, hk, hN, hR, hlt0, hbel⟩ := hrel
      have hz := hbel.size
      have hblk2 := HB.out.below hbel lG
      have cG2 := hblk2.cell; have fG2 := hblk2.frozen; have lG3 := hblk2.lt
      by_cases hlt : k < L.length
      · have cR := hR.out.cell hlt
        cases hsk : seenB mul S L.length k k with
        | true =>
          have hNn : Hid (NestI (w1.heap.size + 1) ((cosS mul S L.length (k + 1)).map nats) u10 wr) := Lib.hid (by rw [cosS_yes hsk]; exact hN.out)
          have hRn : Hid (wr.rowIs w1.heap.size 4 L.length (fun x => .bool (seenB mul S L.length (k + 1) x))) := Lib.hid (hR.out.congr (fun x _ => by rw [seen_yes hsk]))
          simp only [hsk] at cR
          clear hN hR hsk
          go_wp2
          go_roundw
          case rel => exact ⟨k + 1, rfl, hlt, hNn, hRn, hlt0, hbel⟩
          case measure => simp [intOf]; omega
        | false =>
          simp only [hsk] at cR
          have nGw : ¬ G = wr.heap.size := by omega
          have lGw : G < wr.heap.size + 1 := by omega
          go_wp2
          obtain ⟨wo, rfl⟩ : ∃ wo : World, wo = wr := ⟨_, rfl⟩
          have hM0 : (wo.alloc (.cells (madeCells #[.bool false] L.length) 4)).rowIs wo.heap.size 4 L.length (fun x => .bool (cmB mul p k 0 x)) := (World.rowIs_made wo (.bool false) L.length 4).congr (fun _ _ => by rw [cmB_zero])
          have HM0 := Lib.hid hM0
          clear hM0
          go_loopw [57] (fun q wr => CsMrk mul p L.length k wo q wr) (fun q _ => L.length - (intOf q).toNat)
          case atStart => exact ⟨0, rfl, Nat.zero_le _, HM0, by simp, (by repeat (first | with_reducible exact Below.refl _ _ | with_reducible assumption | with_reducible apply Below.drew | with_reducible apply below_drewN | (with_reducible apply below_setp; (first | omega | (simp <;> omega))) | (with_reducible apply below_allocp; (first | omega | (simp <;> omega))) | (with_reducible refine below_viap (by assumption) ?_ ?_; (first | omega | (simp <;> omega)))))⟩
          case round =>
            clear HM0
            obtain ⟨q, rfl, hq, hM, hlt2, hbel2⟩ := hrel
            have hz2' := hbel2.size
            have hbA := below_via hbel hbel2 (by omega)
            by_cases hqt : q < L.length
            · have cP := (HR.out.of_block (hbA.block O lO)).cell hqt
              have lOw : O < wr.heap.size := by omega
              cases hpq : p q with
              | false =>
                have hMn : Hid (wr.rowIs wo.heap.size 4 L.length (fun x => .bool (cmB mul p k (q + 1) x))) := Lib.hid (hM.out.congr (fun x _ => by rw [cmB_no hpq]))
                simp only [hpq] at cP
                clear hM hpq
                go_wp2
                go_roundw
                case rel => exact ⟨q + 1, rfl, hqt, hMn, hlt2, hbel2⟩
                case measure => simp [intOf]; omega
              | true =>
                have hT2 := Lib.hid (hT.out k q w.heap.size G hlt hqt wr (HG.out.call hbA))
                have hpm := hcl.out k q hlt hqt
                have hcy := Lib.hid (fun x => cmB_yes (mul := mul) (i := k) hpq x)
                generalize mul k q = y at hT2 hpm hcy
                simp only [hpq] at cP
                clear hpq
                go_wp2_with (go_at_call 116; refine hT2.out.mono ?_; rintro e v5 ⟨rfl, hB5⟩; have hZ5 := hB5.size; have hM5 := hM.out.of_block (hB5.block wo.heap.size hlt2); have cM5 := hM5.cell hpm; have fM5 := hM5.frozen y)
                have hMn : Hid ((v5.setCell ⟨wo.heap.size, y, none⟩ (.bool true)).rowIs wo.heap.size 4 L.length (fun x => .bool (cmB mul p k (q + 1) x))) := Lib.hid ((hM5.set y (.bool true)).congr (fun x _ => by rw [hcy.out x]; by_cases e : x = y <;> simp [e]))
                go_roundw
                case rel => exact ⟨q + 1, rfl, hqt, hMn, by simp; omega, (by repeat (first | with_reducible exact Below.refl _ _ | with_reducible assumption | with_reducible apply Below.drew | with_reducible apply below_drewN | (with_reducible apply below_setp; (first | omega | (simp <;> omega))) | (with_reducible apply below_allocp; (first | omega | (simp <;> omega))) | (with_reducible refine below_viap (by assumption) ?_ ?_; (first | omega | (simp <;> omega)))))⟩
                case measure => simp [intOf]; omega
            · have e : q = L.length := by omega
              have hMf : Hid (wr.rowIs wo.heap.size 4 L.length (fun x => .bool (cosB mul S k x))) := Lib.hid (hM.out.congr (fun x _ => by rw [e, hfull.out]))
              have hRf := Lib.hid (hR.out.of_block (hbel2.block w1.heap.size (by omega)))
              obtain ⟨F, hF⟩ : ∃ F, cosB mul S k = F := ⟨_, rfl⟩
              rw [hF] at hMf
              obtain ⟨Sn, hSn⟩ : ∃ Sn, seenB mul S L.length k = Sn := ⟨_, rfl⟩
              rw [hSn] at hRf
              clear hM
              subst e
              have hgw := Lib.hid (grown_below (some w1.heap.size) hbel2)
              have hle2 : w1.heap.size < wr.heap.size := by omega
              go_wp2
              obtain ⟨wp, rfl⟩ : ∃ wp : World, wp = wr := ⟨_, rfl⟩
              have hR0 : Hid ((wp.alloc (.cells #[] 3)).rowIs w1.heap.size 4 L.length (fun x => .bool (Sn x || (decide (x < 0) && F x)))) := Lib.hid ((hRf.out.alloc _).congr (fun x _ => by simp))
              have hg0 : Hid (wp.grownBy (wp.alloc (.cells #[] 3)) (some w1.heap.size)) := Lib.hid (grown_below _ ((Below.refl _ _).alloc (Nat.le_refl _) _))
              clear hRf hR
              go_loopw [14, 74] (fun v q wr => CsRd F Sn L.length w1.heap.size wp v q wr) (fun _ q _ => L.length - (intOf q).toNat)
              case atStart => exact ⟨0, rfl, Nat.zero_le _, own_empty (Nat.le_refl _), hR0, hg0⟩
              case round =>
                clear hR0 hg0
                obtain ⟨q, rfl, hq, hown, hR, hgr⟩ := hrel
                have hz3 := hgr.out.size
                have hql := rowN_len F q
                by_cases hqt : q < L.length
                · have cM := (hMf.out.of_block (hgr.out.block wo.heap.size hlt2 (fun he => by injection he with he; omega))).cell hqt
                  have lM : wo.heap.size < wr.heap.size := by omega
                  have cS := hR.out.cell hqt
                  have fS := hR.out.frozen q
                  have hrn := rowN_next F q
                  cases hFq : F q with
                  | false =>
                    have hx : rowN F (q + 1) = rowN F q := by rw [hrn, hFq]; rfl
                    have hRn : Hid (wr.rowIs w1.heap.size 4 L.length (fun x => .bool (Sn x || (decide (x < q + 1) && F x)))) := Lib.hid (hR.out.congr (fun x _ => by
                      by_cases e : x = q
                      · subst e; rw [hFq]; simp
                      · rw [show decide (x < q) = decide (x < q + 1) from by congr 1; exact propext ⟨fun h => by omega, fun h => by omega⟩]))
                    have hx2 := Lib.hid hx
                    simp only [hFq] at cM
                    clear hR hFq hrn hx
                    go_wp2
                    go_roundw
                    case rel => exact ⟨q + 1, rfl, hqt, by rw [hx2.out]; exact hown, hRn, hgr⟩
                    case measure => simp [intOf]; omega
                  | true =>
                    have hx := Lib.hid (show rowN F (q + 1) = rowN F q ++ [(q : Int)] by rw [hrn, hFq]; rfl)
                    have hFq2 := Lib.hid hFq
                    have hne : Hid (∀ b, u14.ownBlock = some b → b ≠ w1.heap.size) := Lib.hid (fun b hb => by have := own_ge hown b hb; omega)
                    have hge := own_ge hown
                    generalize rowN F q = Q at hown hx hql
                    have hon1 := own_set_ne (p := ⟨w1.heap.size, q, none⟩) (u := .bool true) (fun b hb => hne.out b hb) hown
                    simp only [hFq] at cM
                    clear hFq hrn
                    go_wp2_with (at_builtin; refine wpList_append_own_at _ rfl (.tmp 83) (.tmp 85) 32 rfl wp.heap.size 3 i0 _ 1 8 Tryz.underlying32 hi0 hz0 hz1 hz2 rfl (by decide) u14 Q.length (cellsI Q) rfl ?_ ⟨wr.heap.size, 0, none⟩ 1 1 [.int .i64 q] rfl rfl ?_ (one1 _) ?_ ?_ ?_ ?_; exact own_alloc hon1; exact cells1 (Blk.new_at (by simp)); (unfold maxLen; omega); omega; (simp; omega); intro x2 w2 hown2 hgr2 _ _)
                    have hRn : Hid (w2.rowIs w1.heap.size 4 L.length (fun x => .bool (Sn x || (decide (x < q + 1) && F x)))) := Lib.hid ((((hR.out.set q (.bool true)).alloc (.cells #[.int .i64 q] 3)).of_block (hgr2.block w1.heap.size (by simp; omega) (fun he => hne.out _ he.symm rfl))).congr (fun x _ => by
                      by_cases e : x = q
                      · subst e; rw [if_pos rfl, hFq2.out]; simp
                      · rw [if_neg e, show decide (x < q) = decide (x < q + 1) from by congr 1; exact propext ⟨fun h => by omega, fun h => by omega⟩]))
                    have hgN : Hid (wp.grownBy w2 (some w1.heap.size)) := Lib.hid (grown_step (grown_step (grown_step hgr.out (grown_set1 wr ⟨w1.heap.size, q, none⟩ (.bool true)) (fun b hb => .inr (by injection hb with hb; exact hb.symm))) (grown_below none ((Below.refl _ _).alloc (Nat.le_refl _) (.cells #[.int .i64 q] 3))) (fun b hb => by cases hb)) hgr2 (fun b hb => .inl (hge b hb)))
                    have hoN := own_snocI hx.out hown2
                    clear hgr2 hown2 hown hon1 hR hgr
                    go_wp2
                    go_roundw
                    case rel => exact ⟨q + 1, rfl, hqt, hoN, hRn, hgN⟩
                    case measure => simp [intOf]; omega
                · have e : q = L.length := by omega
                  have hgA := Lib.hid (grown_step hgw.out hgr.out (fun b hb => .inr (by injection hb with hb; exact hb.symm)))
                  obtain ⟨vs, hnest⟩ := hN.out
                  have hGl : ((cosS mul S L.length k).map nats).length ≤ 2000 := by rw [List.length_map]; exact Nat.le_trans (cosS_len _) (by omega)
                  have hno := hnest.1.kept hgA.out (own_ne hnest.1 (Nat.lt_succ_self _))
                  have hgn := Lib.hid hnest
                  have hnx := Lib.hid (show (cosS mul S L.length (k + 1)).map nats = (cosS mul S L.length k).map nats ++ [rowN F L.length] by rw [cosS_no hsk, List.map_append, ← hF]; rfl)
                  have hsn := Lib.hid (fun x => (seen_no hsk x).trans (by rw [hSn, hF]))
                  subst e
                  obtain ⟨rb, rc, rfl⟩ := own_shape hown
                  generalize rowN F L.length = Q at hown hql hnx
                  generalize (cosS mul S L.length k).map nats = Gk at hno hgn hnx hGl
                  clear hnest hN hsk hMf
                  go_wp2_with (at_builtin; refine wpList_append_own_at _ rfl (.tmp 88) (.tmp 90) 58 rfl (w1.heap.size + 1) 32 j0 _ 1 24 Tryz.underlying58 hj0 hy0 hy1 hy2 rfl (by decide) u10 Gk.length vs rfl ?_ ⟨wr.heap.size, 0, none⟩ 1 1 [.slice rb Q.length rc] rfl rfl ?_ (oneSl _) ?_ ?_ ?_ ?_; exact own_alloc hno; exact cells1 (Blk.new_at (by simp)); (unfold maxLen; omega); omega; (simp; omega); intro x2 w2 hown2 hgr2 _ hloc)
                  have hge := own_ge hno
                  have hgB := grown_step hgA.out (grown_below none ((Below.refl _ _).alloc (Nat.le_refl _) (.cells #[.slice rb Q.length rc] 32))) (fun b hb => by cases hb)
                  have hNn := hgn.out.snoc hgB (Nat.lt_succ_self _) (own_base (by omega) (own_alloc hown)) (by omega) hown2 hgr2 hloc
                  rw [← hnx.out] at hNn
                  have hRn : Hid (w2.rowIs w1.heap.size 4 L.length (fun x => .bool (seenB mul S L.length (k + 1) x))) := Lib.hid (((hR.out.alloc (.cells #[.slice rb Q.length rc] 32)).of_block (hgr2.block w1.heap.size (by simp; omega) (fun he => by have := hge _ he.symm; omega))).congr (fun x _ => by rw [hsn.out]))
                  have hbA : Below w1.heap.size w1 w2 := below_grown (fun b hb => by have := hge b hb; omega) (by simp; omega) hgr2 (Below.grown hbel hgB (by omega) (fun b hb => by injection hb with hb; omega))
                  have hgs := hgr2.size
                  simp at hgs
                  have HNn := Lib.hid hNn
                  clear hgr2 hown2 hown hR hgr hno hNn hgB
                  go_wp2
                  exact ⟨⟨k + 1, rfl, hlt, HNn, hRn, by omega, hbA⟩, by simp [intOf]; omega⟩
      · have e : k = L.length := by omega
        subst e
        have HNe := Lib.hid (hN.out.base (B' := w.heap.size) (by omega))
        clear hN hR
        go_wp2
        go_ret2
        exact ⟨_, rfl, HNe.out, below_via hb1 hbel hz1'⟩
end

section
open Go.RowKit

theorem putI_le : ∀ (P : List Int) (f : Int), (putI P f).length ≤ P.length + 1
  | [], _ => by simp [putI]
  | x :: P, f => by
    have ih := putI_le P f
    unfold putI
    split
    · simp; omega
    · split <;> simp
/-- The row s lies apart from a list of lists. -/
def Apn (v : Value) (vs : List Value) (s : Value) : Prop := ∀ q, s.ownBlock = some q → v.ownBlock ≠ some q ∧ ∀ (i : Nat) (u : Value), vs[i]? = some u → u.ownBlock ≠ some q
theorem NestW.kept2 {B : Nat} {G : List (List Int)} {v s : Value} {vs : List Value} {w w' : World} (h : NestW B G v vs w) (hg : w.grownBy w' s.ownBlock) (hap : Apn v vs s) : NestW B G v vs w' := by
  refine ⟨h.1.kept hg (keep_of (fun q hq he => (hap q he).1 hq)), fun i hi => ?_, h.2.2⟩
  obtain ⟨u, h1, h2, h3⟩ := h.2.1 i hi
  exact ⟨u, h1, h2.kept hg (keep_of (fun q hq he => (hap q he).2 i u h1 hq)), h3⟩
theorem NestW.snoc2 {B : Nat} {G : List (List Int)} {v v' u : Value} {vs : List Value} {wA w2 : World} {g : List Int} (h : NestW B G v vs wA) (hu : wA.ownsRow B 3 1 u g.length (cellsI g)) (hap : Apn v vs u)
    (hown : w2.ownsRow B 32 1 v' (G.length + 1) (vs ++ [u])) (hg : wA.grownBy w2 v.ownBlock) (hloc : v'.ownBlock = v.ownBlock ∨ v'.ownBlock = some wA.heap.size) : NestW B (G ++ [g]) v' (vs ++ [u]) w2 := by
  have hl := h.len
  refine ⟨by rw [List.length_append]; exact hown, fun i hi => ?_, ?_⟩
  · by_cases hlt : i < G.length
    · obtain ⟨x, h1, h2, h3⟩ := h.2.1 i hlt
      refine ⟨x, by rw [List.getElem?_append_left (by omega)]; exact h1, ?_, fun q hq => ?_⟩
      · rw [List.getElem_append_left hlt]
        exact h2.kept hg (keep_of h3)
      · rcases hloc with e | e
        · rw [e]; exact h3 q hq
        · rw [e]; intro he; injection he with he; have := own_lt h2 q hq; omega
    · have e : i = G.length := by rw [List.length_append, List.length_singleton] at hi; omega
      subst e
      refine ⟨u, by rw [← hl]; simp, ?_, fun q hq => ?_⟩
      · rw [List.getElem_append_right (Nat.le_refl _)]
        simp only [Nat.sub_self, List.getElem_cons_zero]
        exact hu.kept hg (keep_of (fun q hq => (hap q hq).1))
      · rcases hloc with e | e
        · rw [e]; exact (hap q hq).1
        · rw [e]; intro he; injection he with he; have := own_lt hu q hq; omega
  · intro i j x y hij hx hy q hq he
    by_cases h1 : i < vs.length
    · rw [List.getElem?_append_left h1] at hx
      by_cases h2 : j < vs.length
      · rw [List.getElem?_append_left h2] at hy
        exact h.2.2 i j x y hij hx hy q hq he
      · have e : j = vs.length := by have := (List.getElem?_eq_some_iff.1 hy).1; rw [List.length_append, List.length_singleton] at this; omega
        subst e
        have e2 : u = y := by simpa using hy
        subst e2
        exact (hap q he).2 i x hx hq
    · have e : i = vs.length := by have := (List.getElem?_eq_some_iff.1 hx).1; rw [List.length_append, List.length_singleton] at this; omega
      subst e
      have e2 : u = x := by simpa using hx
      subst e2
      have h2 : j < vs.length := by have := (List.getElem?_eq_some_iff.1 hy).1; rw [List.length_append, List.length_singleton] at this; omega
      rw [List.getElem?_append_left h2] at hy
      exact (hap q hq).2 j y hy he
/-- The outer loop. -/
def CtOut (mul : Nat → Nat → Nat) (S : List Nat) (m : Nat) (w3 : World) (v s vi : Value) (wr : World) : Prop :=
  ∃ (k : Nat) (X : List Int) (vs : List Value), vi = .int .i64 k ∧ k ≤ m ∧ Hid (NestW w3.heap.size ((cosS mul S m k).map nats) v vs wr) ∧ wr.ownsRow w3.heap.size 3 1 s X.length (cellsI X) ∧
    Hid (∀ x : Nat, (x : Int) ∈ X ↔ seenB mul S m k x = true) ∧ X.length ≤ k * m ∧ Hid (Apn v vs s) ∧ Below w3.heap.size w3 wr
/-- The products of one element. -/
def CtIn (mul : Nat → Nat → Nat) (S : List Nat) (k : Nat) (wo : World) (v vq : Value) (wr : World) : Prop :=
  ∃ (q : Nat) (A : List Int), vq = .int .i64 q ∧ q ≤ S.length ∧ wr.ownsRow wo.heap.size 3 1 v A.length (cellsI A) ∧ Hid (A.Pairwise (· < ·)) ∧ Hid (∀ x : Int, x ∈ A ↔ ∃ t, ∃ h : t < S.length, t < q ∧ x = (mul k S[t] : Nat)) ∧ A.length ≤ q ∧ Below wo.heap.size wo wr

set_option maxRecDepth 100000 in
set_option maxHeartbeats 6400000 in
theorem specCs_any (d : Int) (v : Value) (B2 : Nat) (zs : List Fm) (Gr : List (List Int)) (ok : Bool) (w : World) (hzl : zs.length ≤ 2000000) (h : CdL d zs Gr ok) (ho : w.ownsRow B2 36 3 v zs.length (cellsF zs)) :
    Calls Tryz.prog 43 #[.int .i64 d, v] w (RetNi Gr ok w) := by
  rcases h with ⟨hc, rfl, rfl⟩ | ⟨hc, rfl, rfl⟩
  · have hG := Lib.hid (grListed_eq d zs false v B2 w hc hzl ho)
    clear ho
    go_enter Tryz.func43, Tryz.ntmps43
    go_wp2_with (go_at_call 117; refine hG.out.mono ?_; rintro e w1 ⟨rfl, hb1⟩; have hz1 := hb1.size)
    go_ret2
    exact ⟨_, rfl, NestI.nil, hb1⟩
  · have hG := Lib.hid (grListed_eq d zs true v B2 w hc hzl ho)
    obtain ⟨i0, hi0, hz0, hz1, hz2⟩ := info_parts infoInt
    obtain ⟨j0, hj0, hy0, hy1, hy2⟩ := info_parts infoSl
    have hl0 := clsL_len d
    obtain ⟨hd, h20, hok⟩ := sgS_parts hc
    have D := dsc_of hd
    have hT := Lib.hid (fun w => grTable_any d w D)
    have hI := Lib.hid (fun (w : World) (ho : w.ownsRow B2 36 3 v zs.length (cellsF zs)) => grIndices_any d (clsL d) zs v B2 w D rfl h20 hok ho)
    have hJ := gensN_lt rfl hok
    have hJl := gensN_len (clsL d) zs
    have hS := Lib.hid (fun (B : Nat) (base : Option Addr) (cap : Nat) (v : Value) (B2 : Nat) (w : World) (ht : Tab d (clsL d) B (.slice base (clsL d).length cap) w) ho => grSpan_any d (clsL d) B base cap (gensN (clsL d) zs) v B2 w D rfl ht hJ (by omega) ho)
    have hSl := spanL_len (mulN d (clsL d)) (gensN (clsL d) zs) (clsL d).length
    have hSm := Lib.hid (fun (x : Nat) (hx : x ∈ spanL (mulN d (clsL d)) (gensN (clsL d) zs) (clsL d).length) => (show x < (clsL d).length from List.mem_range.1 (List.mem_filter.1 hx).1))
    have hcl := Lib.hid (fun (i k : Nat) (hi : i < (clsL d).length) (hk : k < (clsL d).length) => (mulN_eq D rfl hi hk).2)
    have hel := Lib.hid (fun (B : Nat) (base : Option Addr) (cap : Nat) (w : World) (ht : Tab d (clsL d) B (.slice base (clsL d).length cap) w) (i k : Nat) (hi : i < (clsL d).length) (hk : k < (clsL d).length) => (show ∃ G g c, base = some ⟨G, 0, none⟩ ∧ G < w.heap.size ∧ w.cell? ⟨G, i, none⟩ = some (.slice (some ⟨g, 0, none⟩) (clsL d).length c) ∧ g < w.heap.size ∧ w.cell? ⟨g, k, none⟩ = some (.int .i64 (mulN d (clsL d) i k : Nat)) from by
      have h := ht.elem hi hk
      rw [(mulN_eq D rfl hi hk).1] at h
      exact h))
    have HO := Lib.hid ho
    generalize spanL (mulN d (clsL d)) (gensN (clsL d) zs) (clsL d).length = S at *
    generalize mulN d (clsL d) = mul at *
    generalize gensN (clsL d) zs = J at *
    obtain ⟨L, hL⟩ : ∃ L, clsL d = L := ⟨_, rfl⟩
    rw [hL] at hT hS hSl hSm hcl hel hl0 ⊢
    clear D hd hJ hJl hok h20 hc ho hL
    have hSn := nats_len S
    go_enter Tryz.func43, Tryz.ntmps43
    go_wp2_with (first
      | (go_at_call 117; refine hG.out.mono ?_; rintro e w1 ⟨rfl, hb1⟩; have hz1' := hb1.size)
      | (go_at_call 118; refine (hT.out _).mono ?_; rintro e w2 ⟨base, cap, rfl, ht2, hb2⟩; have hz2' := hb2.size; have bel2 := below_via hb1 hb2 hz1')
      | (go_at_call 120; refine (hI.out _ (own_call bel2 HO.out)).mono ?_; rintro e w4 ⟨vi, rfl, hoi, hb4⟩; have hz4 := hb4.size; have bel4 := below_via bel2 hb4 (by omega); have ht4 := ht2.call hb4)
      | (go_at_call 119; refine (hS.out _ _ _ _ _ _ ht4 hoi).mono ?_; rintro e w5 ⟨vs, rfl, hos, hb5⟩; have hz5 := hb5.size; have bel5 := below_via bel4 hb5 (by omega); have ht5 := ht4.call hb5; rw [hSn] at hos; obtain ⟨sb, sc, rfl⟩ := own_shape hos))
    have HT := Lib.hid ht5
    have HS := Lib.hid hos
    have hz5' : w.heap.size ≤ w5.heap.size := by omega
    clear ht2 ht4 ht5 hos hoi hb1 hb2 hb4 hb5 bel2 bel4
    go_loopw [8, 9, 27] (fun v s i wr => CtOut mul S L.length w5 v s i wr) (fun _ _ i _ => L.length - (intOf i).toNat)
    case atStart => exact ⟨0, [], [], rfl, Nat.zero_le _, Lib.hid ⟨World.ownsRow_nil _ _ _ _, fun i h => absurd h (Nat.not_lt_zero _), fun i j u u' _ h => by simp at h⟩, World.ownsRow_nil _ _ _ _, Lib.hid (fun x => by rw [seen_zero]; simp), by simp, Lib.hid (fun q hq => by simp [Value.ownBlock] at hq), Below.refl _ _⟩
    case round =>
      obtain ⟨k, X, vs, rfl, hk, hN, hownS, hX, hXl, hAp, hbel⟩ := hrel
      have hz := hbel.size
      by_cases hlt : k < L.length
      · have hkm : k * L.length ≤ 1640 * 1640 := Nat.mul_le_mul (by omega) hl0
        have hhas : hasI X k = seenB mul S L.length k k := by
          unfold hasI
          rw [Bool.eq_iff_iff]
          simp [hX.out k]
        cases hsk : seenB mul S L.length k k with
        | true =>
          have hNn : Hid (NestW w5.heap.size ((cosS mul S L.length (k + 1)).map nats) u8 vs wr) := Lib.hid (by rw [cosS_yes hsk]; exact hN.out)
          have hXn : Hid (∀ x : Nat, (x : Int) ∈ X ↔ seenB mul S L.length (k + 1) x = true) := Lib.hid (fun x => by rw [seen_yes hsk]; exact hX.out x)
          have hXl2 : X.length ≤ (k + 1) * L.length := by rw [Nat.succ_mul]; omega
          rw [hsk] at hhas
          clear hN hX hsk
          go_wp2_with (go_at_call 121; refine (l1Has_any _ _ X k _ (by omega) hownS).mono ?_; rw [hhas]; rintro e v1 ⟨rfl, rfl⟩)
          go_roundw
          case rel => exact ⟨k + 1, X, vs, rfl, hlt, hNn, hownS, hXn, hXl2, hAp, hbel⟩
          case measure => simp [intOf]; omega
        | false =>
          rw [hsk] at hhas
          go_wp2_with (go_at_call 121; refine (l1Has_any _ _ X k _ (by omega) hownS).mono ?_; rw [hhas]; rintro e v1 ⟨rfl, rfl⟩)
          clear hhas
          obtain ⟨wo, rfl⟩ : ∃ wo : World, wo = wr := ⟨_, rfl⟩
          go_loopw [11, 35] (fun v q wr => CtIn mul S k wo v q wr) (fun _ q _ => S.length - (intOf q).toNat)
          case atStart => exact ⟨0, [], rfl, Nat.zero_le _, World.ownsRow_nil _ _ _ _, Lib.hid List.Pairwise.nil, Lib.hid (fun x => by simp), by simp, Below.refl _ _⟩
          case round =>
            obtain ⟨q, A, rfl, hq, hown, hso, hA, hAl, hbel2⟩ := hrel
            have hz2' := hbel2.size
            have hbA := below_via hbel hbel2 (by omega)
            by_cases hqt : q < S.length
            · have hjm := hSm.out S[q] (List.getElem_mem hqt)
              obtain ⟨g2, rfl, l2, k2⟩ := own_elemI (n := S.length) (L := nats S) (by rw [nats_len]; exact own_call hbA HS.out) (k := q) (by rw [nats_len]; exact hqt)
              rw [(nats_get S hqt).2] at k2
              obtain ⟨G, g3, c3, rfl, l3, k3, l4, k4⟩ := hel.out _ _ _ wr (HT.out.call hbA) k S[q] hlt hjm
              have hAn : Hid (∀ x : Int, x ∈ putI A (mul k S[q] : Nat) ↔ ∃ t, ∃ h : t < S.length, t < q + 1 ∧ x = (mul k S[t] : Nat)) := Lib.hid (fun x => by
                rw [mem_putI, hA.out]
                constructor
                · rintro (⟨t, h, h1, e⟩ | e)
                  · exact ⟨t, h, by omega, e⟩
                  · exact ⟨q, hqt, by omega, e⟩
                · rintro ⟨t, h, h1, e⟩
                  by_cases e2 : t = q
                  · subst e2; exact .inr e
                  · exact .inl ⟨t, h, by omega, e⟩)
              have hpl := putI_le A (mul k S[q] : Nat)
              generalize S[q] = j at *
              generalize mul k j = p at *
              have hsn : Hid ((putI A (p : Int)).Pairwise (· < ·)) := Lib.hid (sorted_putI A hso.out)
              clear hA hso
              go_wp2_with (go_at_call 122; refine (l1Put_any _ _ A _ _ (by omega) (by omega) hown).mono ?_; rintro e w6 ⟨x3, rfl, hon3, _, hB3⟩; have hZ3 := hB3.size)
              go_roundw
              case rel => exact ⟨q + 1, putI A p, rfl, hqt, hon3, hsn, hAn, by omega, below_via hbel2 hB3 hz2'⟩
              case measure => simp [intOf]; omega
            · have e : q = S.length := by omega
              have hcos : A = nats (cosN mul S L.length k) := cos_uniq hso.out (fun j hj => hcl.out k j hlt (hSm.out j hj)) (fun x => by
                rw [hA.out]
                constructor
                · rintro ⟨t, h, _, e1⟩
                  exact ⟨S[t], List.getElem_mem h, e1⟩
                · rintro ⟨j, hj, e1⟩
                  obtain ⟨t, h, rfl⟩ := List.getElem_of_mem hj
                  exact ⟨t, h, by omega, e1⟩)
              have hAm := cosN_len (mul := mul) (S := S) (m := L.length) k
              have hAl2 : A.length ≤ L.length := by rw [hcos, nats_len]; exact hAm
              have hmem : Hid (∀ x : Nat, (x : Int) ∈ X ++ A ↔ seenB mul S L.length (k + 1) x = true) := Lib.hid (fun x => by
                have hxA : (x : Int) ∈ A ↔ (decide (x < L.length) && cosB mul S k x) = true := by
                  rw [hcos]
                  constructor
                  · intro h
                    obtain ⟨y, hy, he⟩ := List.mem_map.1 h
                    obtain rfl : y = x := Int.ofNat.inj he
                    obtain ⟨h1, h2⟩ := List.mem_filter.1 hy
                    rw [h2, decide_eq_true (List.mem_range.1 h1)]; rfl
                  · intro h
                    obtain ⟨h1, h2⟩ := Bool.and_eq_true_iff.1 h
                    exact List.mem_map.2 ⟨x, List.mem_filter.2 ⟨List.mem_range.2 (of_decide_eq_true h1), h2⟩, rfl⟩
                rw [seen_no hsk x, List.mem_append, hX.out x, hxA, Bool.or_eq_true])
              have hnx := Lib.hid (show (cosS mul S L.length (k + 1)).map nats = (cosS mul S L.length k).map nats ++ [A] by rw [cosS_no hsk, List.map_append, hcos]; rfl)
              have hGl : ((cosS mul S L.length k).map nats).length ≤ 2000 := by rw [List.length_map]; exact Nat.le_trans (cosS_len _) (by omega)
              have hXl2 : (X ++ A).length ≤ (k + 1) * L.length := by rw [Nat.succ_mul, List.length_append]; omega
              have hNw0 := hN.out.call hbel2
              have hrow := Lib.hid (fun (i : Nat) (u : Value) (hu : vs[i]? = some u) => hN.out.row_lt hu)
              have hvlt := own_lt hN.out.1
              have hvge := own_ge hN.out.1
              have hslt := own_lt hownS
              have hsge := own_ge hownS
              have hownS2 := own_call hbel2 hownS
              obtain ⟨ab, ac, rfl⟩ := own_shape hown
              have hult := own_lt hown
              have huge := own_ge hown
              clear hcos hA hso hAl hX hN hsk hAm hownS
              generalize (cosS mul S L.length k).map nats = Gk at hNw0 hnx hGl
              subst e
              go_wp2_with (first
                | (at_builtin; refine wpList_append_any _ rfl (.tmp 49) (.tmp 50) _ rfl w5.heap.size 3 i0 _ 1 8 Tryz.underlying32 hi0 hz0 hz1 hz2 rfl (by omega) u9 X.length (cellsI X) rfl hownS2 wr.heap.size ab A.length ac (cellsI A) rfl (Reads.of_own hown) (cellsI_one _) (by unfold maxLen; omega) (by omega) (by omega) ?_; intro x9 w6 hon9 hg9 hloc9; have hZ6 := hg9.size; have hNw := hNw0.kept2 hg9 hAp.out; have hu6 := hown.kept hg9 (keep_of (fun q hq he => by have := huge q hq; have := hslt q he; omega)))
                | (at_builtin; refine wpList_append_own_at _ rfl (.tmp 52) (.tmp 54) 58 rfl w5.heap.size 32 j0 _ 1 24 Tryz.underlying58 hj0 hy0 hy1 hy2 rfl (by decide) u8 Gk.length vs rfl ?_ ⟨w6.heap.size, 0, none⟩ 1 1 [.slice ab A.length ac] rfl rfl ?_ (oneSl _) ?_ ?_ ?_ ?_; exact own_alloc hNw.1; exact cells1 (Blk.new_at (by simp)); (unfold maxLen; omega); omega; (simp; omega); intro x8 w7 hown7 hgr7 _ hloc7))
              have hapU : Apn u8 vs (.slice ab A.length ac) := fun q hq => ⟨fun he => by have := huge q hq; have := hvlt q he; omega, fun i u hu he => by have := huge q hq; have := (hrow.out i u hu q he).1; omega⟩
              have hNn := (hNw.alloc (.cells #[.slice ab A.length ac] 32)).snoc2 (own_base hz (own_alloc hu6)) hapU hown7 hgr7 hloc7
              rw [← hnx.out] at hNn
              have hsN : w7.ownsRow w5.heap.size 3 1 x9 (X ++ A).length (cellsI (X ++ A)) := by
                rw [List.length_append, cellsI_append]
                refine (own_alloc hon9).kept hgr7 (keep_of (fun q hq he => ?_))
                have h1 := hvlt q he
                rcases hloc9 with e1 | e1
                · exact (hAp.out q (by rw [← e1]; exact hq)).1 he
                · rw [e1] at hq; injection hq with hq; omega
              have hApn : Apn x8 (vs ++ [.slice ab A.length ac]) x9 := fun q hq => by
                have hx9 : u9.ownBlock = some q ∨ q = wr.heap.size := by
                  rcases hloc9 with e1 | e1
                  · exact .inl (by rw [← e1]; exact hq)
                  · rw [e1] at hq; injection hq with hq; exact .inr hq.symm
                have hq2 : q ≤ wr.heap.size := by
                  rcases hx9 with h | h
                  · have := hslt q h; omega
                  · omega
                refine ⟨fun he => ?_, fun i u hu he => ?_⟩
                · rcases hloc7 with e1 | e1
                  · rw [e1] at he
                    rcases hx9 with h | h
                    · exact (hAp.out q h).1 he
                    · have := hvlt q he; omega
                  · rw [e1] at he; injection he with he; simp at he; omega
                · by_cases hi : i < vs.length
                  · rw [List.getElem?_append_left hi] at hu
                    rcases hx9 with h | h
                    · exact (hAp.out q h).2 i u hu he
                    · have := (hrow.out i u hu q he).1; omega
                  · have e2 : i = vs.length := by have := (List.getElem?_eq_some_iff.1 hu).1; rw [List.length_append, List.length_singleton] at this; omega
                    subst e2
                    have e3 : (.slice ab A.length ac : Value) = u := by simpa using hu
                    subst e3
                    rcases hx9 with h | h
                    · have := hslt q h; have := huge q he; omega
                    · have := hult q he; omega
              have hbN : Below w5.heap.size w5 w7 := below_grown (fun b hb => hvge b hb) (by simp; omega) hgr7 ((below_grown (fun b hb => hsge b hb) (by omega) hg9 hbA).alloc (by omega) _)
              have HNn := Lib.hid hNn
              have HAp := Lib.hid hApn
              clear hgr7 hown7 hown hg9 hon9 hNw hNw0 hu6 hNn hApn hapU hownS2
              go_wp2
              exact ⟨⟨k + 1, X ++ A, _, rfl, hlt, HNn, hsN, hmem, hXl2, HAp, hbN⟩, by simp [intOf]; omega⟩
      · have e : k = L.length := by omega
        subst e
        have HNe : Hid (NestI w.heap.size ((cosS mul S L.length L.length).map nats) u8 wr) := Lib.hid (NestI.base hz5' ⟨vs, hN.out⟩)
        clear hN hX hAp
        go_wp2
        go_ret2
        exact ⟨_, rfl, HNe.out, below_via bel5 hbel hz5'⟩
end

section
open Go.RowKit

theorem MarkI.grown {B n : Nat} {m : Int} {v : Value} {w w' : World} {row : Option Nat} (h : MarkI B m n v w) (hg : w.grownBy w' row) (hne : ∀ q, v.ownBlock = some q → row ≠ some q) : MarkI B m n v w' := by
  rcases h with h | ⟨g, cap, cur, h1, h2, h3, h4⟩
  · exact .inl h
  · exact .inr ⟨g, cap, cur, h1, h2, h3.grown hg (fun he => hne g (by rw [h1]; rfl) he.symm), h4⟩
/-- The number of all integers in the first i lists. -/
def offI : List (List Int) → Nat → Nat
  | _, 0 => 0
  | [], _ + 1 => 0
  | g :: G, i + 1 => g.length + offI G i
theorem offI_next : ∀ (G : List (List Int)) (i : Nat) (h : i < G.length), offI G (i + 1) = offI G i + G[i].length
  | [], i, h => absurd h (Nat.not_lt_zero _)
  | g :: G, 0, _ => by simp [offI]
  | g :: G, i + 1, h => by
    have ih := offI_next G i (by simpa using h)
    simp only [offI, List.getElem_cons_succ] at ih ⊢
    omega
theorem offI_bd {n : Nat} : ∀ (G : List (List Int)) (i : Nat), (∀ g ∈ G, g.length ≤ n) → offI G i ≤ n * i
  | _, 0, _ => by simp [offI]
  | [], i + 1, _ => by simp [offI]
  | g :: G, i + 1, h => by
    have h1 := h g (by simp)
    have ih := offI_bd G i (fun x hx => h x (by simp [hx]))
    simp only [offI]
    have : n * (i + 1) = n * i + n := Nat.mul_succ _ _
    omega
/-- A marked list of lists. -/
def MarkNI (B : Nat) (G : List (List Int)) (v : Value) (w : World) : Prop :=
  ∃ vs, w.ownsRow B 32 1 v G.length vs ∧ ∀ (i : Nat) (h : i < G.length), ∃ u : Value, vs[i]? = some u ∧ MarkI B (1 + offI G i) G[i].length u w
theorem MarkNI.kept {B : Nat} {G : List (List Int)} {v : Value} {w w' : World} (h : MarkNI B G v w) (hb : Below w.heap.size w w') : MarkNI B G v w' := by
  obtain ⟨vs, h1, h2⟩ := h
  refine ⟨vs, own_call hb h1, fun i hi => ?_⟩
  obtain ⟨u, h3, h4⟩ := h2 i hi
  exact ⟨u, h3, h4.kept hb⟩
def MsiSt (B : Nat) (G : List (List Int)) (v : Value) (vs : List Value) (w : World) (vm vi : Value) (wr : World) : Prop :=
  ∃ k : Nat, vi = .int .i64 k ∧ k ≤ G.length ∧ vm = .int .i64 (1 + (offI G k : Int)) ∧ Hid (wr.ownsRow B 32 1 v G.length vs) ∧
    Hid (∀ (i : Nat) (h : i < G.length), ∃ u : Value, vs[i]? = some u ∧ (i < k → MarkI B (1 + offI G i) G[i].length u wr) ∧ (k ≤ i → wr.ownsRow B 3 1 u G[i].length (cellsI G[i]))) ∧ Below B w wr ∧ w.heap.size ≤ wr.heap.size

end
end Go.Proofs.YteehcjjhkphdnaaGreat
