/- Parts FE FS FT laid together by tp.py. -/
import Derived.Lib.FieldsP
import Derived.Lib.Join
import Derived.Lib.Atoi
import Derived.Lib.ItoaMem
import Derived.Laws.RangeString
import Derived.Test.YtlcegkafagdcjaaGreatDoorSk
import Derived.Test.YtlcegkafagdcjaaGreatDoorQG
import Derived.Test.YtlcegkafagdcjaaGreatDoorN5
import Derived.Lib.ConvBytes
import Derived.Lib.UnsafeStr
import Derived.Laws.Cover3
namespace Go.Proofs.YtlcegkafagdcjaaGreatDoor
section
open Go

/-- Up to three digits. -/
def decE (u : Nat) : List UInt8 := if u < 10 then [UInt8.ofNat (48 + u)] else if u < 100 then [UInt8.ofNat (48 + u / 10), UInt8.ofNat (48 + u % 10)] else [UInt8.ofNat (48 + u / 100), UInt8.ofNat (48 + u / 10 % 10), UInt8.ofNat (48 + u % 10)]
theorem decDigits_E {u : Nat} (h : u < 1000) : Lib.decDigits u = decE u := by
  unfold decE
  by_cases h1 : u < 10
  · rw [if_pos h1, Lib.decDigits_one h1]
  rw [if_neg h1]
  by_cases h2 : u < 100
  · rw [if_pos h2, Lib.decDigits_two h1 h2]
  rw [if_neg h2, Lib.decDigits, dif_neg h1, Lib.decDigits_two (by omega) (by omega)]
  simp only [List.cons_append, List.nil_append]
  rw [show u / 10 / 10 = u / 100 by omega]
/-- The numeral of a number from -500 to 500. -/
def itE (n : Int) : List UInt8 := if n < 0 then 45 :: decE n.natAbs else decE n.toNat
theorem itoa_E {n : Int} (h : -500 ≤ n ∧ n ≤ 500) : Lib.itoa n = itE n := by
  unfold Lib.itoa itE
  rw [decDigits_E (by omega), decDigits_E (by omega)]
/-- What parts the numbers of a text. -/
def sepP (x : Nat) : Bool := (x != 45) && (decide (x < 48) || decide (57 < x))
def wOk (l : List UInt8) (n : Int) : Bool := decide (Lib.atoi l = some n) && (decide (l.length ≤ 4) && (decide (1 ≤ l.length) && l.all fun b => decide (b.toNat < 128) && !sepP b.toNat))
theorem w_tab : ((List.range 501).all fun i => wOk (itE (i : Int)) i && wOk (itE (-(i : Int))) (-(i : Int))) = true := by decide +kernel
theorem w_ok {n : Int} (h : -500 ≤ n ∧ n ≤ 500) : Lib.atoi (itE n) = some n ∧ (itE n).length ≤ 4 ∧ 1 ≤ (itE n).length ∧ ∀ b ∈ itE n, b.toNat < 128 ∧ sepP b.toNat = false := by
  have k : wOk (itE n) n = true := by
    have h2 := List.all_eq_true.1 w_tab n.natAbs (List.mem_range.2 (by omega))
    rw [Bool.and_eq_true] at h2
    rcases Int.natAbs_eq n with e | e
    · have := h2.1; rwa [← e] at this
    · have := h2.2; rwa [← e] at this
  unfold wOk at k
  simp only [Bool.and_eq_true, decide_eq_true_eq, List.all_eq_true] at k
  obtain ⟨k1, k2, k3, k4⟩ := k
  refine ⟨k1, k2, k3, fun b hb => ?_⟩
  obtain ⟨h1, h2⟩ := k4 b hb
  exact ⟨h1, by simpa using h2⟩
/-- The pass over the bytes, for a text of bytes below 128. -/
def spL1 (p : Nat → Bool) : List UInt8 → Nat → Option Nat → List (Nat × Nat) → List (Nat × Nat) × Option Nat
  | [], _, st, acc => (acc, st)
  | b :: L, pos, st, acc =>
    if p b.toNat then
      (match st with
       | some a => spL1 p L (pos + 1) none (acc ++ [(a, pos)])
       | none => spL1 p L (pos + 1) none acc)
    else
      (match st with
       | some a => spL1 p L (pos + 1) (some a) acc
       | none => spL1 p L (pos + 1) (some pos) acc)
theorem spans_L (p : Nat → Bool) (s : ByteArray) (ha : ∀ b ∈ s.data.toList, b.toNat < 128) : ∀ (L : List UInt8) (f pos : Nat) (st : Option Nat) (acc : List (Nat × Nat)), s.data.toList.drop pos = L → L.length ≤ f → Lib.spansFromP p s f pos st acc = spL1 p L pos st acc
  | [], f, pos, st, acc, hL, _ => by
    have h1 : ¬ pos < s.size := fun h => by
      have := congrArg List.length hL
      rw [List.length_drop] at this
      simp at this
      have : s.size = s.data.toList.length := by rw [Array.length_toList]; rfl
      omega
    rw [Lib.spansFromP_end p s f pos st acc h1]; rfl
  | b :: L, 0, pos, st, acc, _, hf => by simp at hf
  | b :: L, f + 1, pos, st, acc, hL, hf => by
    have hsz : s.size = s.data.toList.length := by rw [Array.length_toList]; rfl
    have h1 : pos < s.size := by
      have := congrArg List.length hL
      rw [List.length_drop] at this
      simp at this
      omega
    have h1' : pos < s.data.toList.length := by omega
    have hb : s.data.toList[pos] = b := by
      have := List.drop_eq_getElem_cons h1'
      rw [hL] at this
      injection this with e _
      exact e.symm
    have hd : s.data.toList.drop (pos + 1) = L := by
      have := List.drop_eq_getElem_cons h1'
      rw [hL] at this
      injection this with _ e
      exact e.symm
    have hg : (s[pos]'h1) = b := by rw [← hb]; rfl
    have hdec := decode_ascii s pos h1 (by rw [hg, ← hb]; exact ha _ (List.getElem_mem _))
    rw [hg] at hdec
    unfold Lib.spansFromP spL1
    rw [if_pos h1, hdec]
    simp only
    have hf' : L.length ≤ f := by simp at hf; omega
    split
    · cases st with
      | none => exact spans_L p s ha L f (pos + 1) none acc hd hf'
      | some a => exact spans_L p s ha L f (pos + 1) none _ hd hf'
    · cases st with
      | none => exact spans_L p s ha L f (pos + 1) _ acc hd hf'
      | some a => exact spans_L p s ha L f (pos + 1) _ acc hd hf'
/-- Over the bytes of a word. -/
theorem spL1_word {p : Nat → Bool} {R : List UInt8} {acc : List (Nat × Nat)} {a : Nat} : ∀ (W : List UInt8) (pos : Nat), (∀ b ∈ W, p b.toNat = false) → spL1 p (W ++ R) pos (some a) acc = spL1 p R (pos + W.length) (some a) acc
  | [], pos, _ => rfl
  | b :: W, pos, h => by
    rw [List.cons_append, spL1, if_neg (by rw [h b (by simp)]; decide)]
    rw [spL1_word W (pos + 1) (fun c hc => h c (by simp [hc])), show pos + 1 + W.length = pos + (b :: W).length by rw [List.length_cons]; omega]
theorem spL1_start {p : Nat → Bool} {R : List UInt8} {acc : List (Nat × Nat)} (W : List UInt8) (pos : Nat) (h1 : 1 ≤ W.length) (h : ∀ b ∈ W, p b.toNat = false) : spL1 p (W ++ R) pos none acc = spL1 p R (pos + W.length) (some pos) acc := by
  match W, h1 with
  | b :: W, _ =>
    rw [List.cons_append, spL1, if_neg (by rw [h b (by simp)]; decide)]
    rw [spL1_word W (pos + 1) (fun c hc => h c (by simp [hc])), show pos + 1 + W.length = pos + (b :: W).length by rw [List.length_cons]; omega]
/-- The spans of words that stand behind one another, one separator ahead of each but the first. -/
def spW : List (List UInt8) → Nat → List (Nat × Nat)
  | [], _ => []
  | W :: Ws, pos => (pos, pos + W.length) :: spW Ws (pos + W.length + 1)
theorem spL1_tail {p : Nat → Bool} (hp : p 32 = true) : ∀ (Ws : List (List UInt8)) (pos a : Nat) (acc : List (Nat × Nat)), (∀ W ∈ Ws, 1 ≤ W.length ∧ ∀ b ∈ W, p b.toNat = false) →
    ∃ acc' q, spL1 p (Lib.joinTail [32] Ws) pos (some a) acc = (acc', some q) ∧ acc' ++ [(q, pos + (Lib.joinTail [32] Ws).length)] = acc ++ [(a, pos)] ++ spW Ws (pos + 1)
  | [], pos, a, acc, _ => ⟨acc, a, rfl, by simp [Lib.joinTail, spW]⟩
  | W :: Ws, pos, a, acc, h => by
    obtain ⟨h1, h2⟩ := h W (by simp)
    have e : Lib.joinTail [32] (W :: Ws) = 32 :: (W ++ Lib.joinTail [32] Ws) := by simp [Lib.joinTail]
    obtain ⟨acc', q, k1, k2⟩ := spL1_tail hp Ws (pos + 1 + W.length) (pos + 1) (acc ++ [(a, pos)]) (fun V hV => h V (by simp [hV]))
    refine ⟨acc', q, ?_, ?_⟩
    · rw [e, spL1, if_pos (by exact hp)]
      rw [spL1_start W (pos + 1) h1 h2, k1]
    · rw [e]
      have : pos + (32 :: (W ++ Lib.joinTail [32] Ws)).length = pos + 1 + W.length + (Lib.joinTail [32] Ws).length := by simp; omega
      rw [this, k2, spW]
      simp [List.append_assoc]
theorem spL1_join {p : Nat → Bool} (hp : p 32 = true) {W : List UInt8} {Ws : List (List UInt8)} (h : ∀ V ∈ W :: Ws, 1 ≤ V.length ∧ ∀ b ∈ V, p b.toNat = false) :
    ∃ acc q, spL1 p (Lib.join (W :: Ws) [32]) 0 none [] = (acc, some q) ∧ acc ++ [(q, (Lib.join (W :: Ws) [32]).length)] = spW (W :: Ws) 0 := by
  obtain ⟨h1, h2⟩ := h W (by simp)
  rw [Lib.join_cons]
  obtain ⟨acc, q, k1, k2⟩ := spL1_tail hp Ws (0 + W.length) 0 [] (fun V hV => h V (by simp [hV]))
  refine ⟨acc, q, ?_, ?_⟩
  · rw [spL1_start W 0 h1 h2, k1]
  · rw [List.length_append, show W.length + (Lib.joinTail [32] Ws).length = 0 + W.length + (Lib.joinTail [32] Ws).length by omega, k2]
    simp [spW]
theorem take_word {P W R : List UInt8} : (((P ++ W ++ R).take (P.length + W.length)).drop P.length) = W := by
  rw [List.take_append_of_le_length (by simp), List.take_of_length_le (by simp)]
  simp
theorem spW_words : ∀ (Ws : List (List UInt8)) (P R : List UInt8) (S : List UInt8), S = P ++ Lib.joinTail [32] Ws ++ R → (spW Ws (P.length + 1)).map (fun x => (S.take x.2).drop x.1) = Ws
  | [], _, _, _, _ => rfl
  | W :: Ws, P, R, S, h => by
    have e : Lib.joinTail [32] (W :: Ws) = [32] ++ W ++ Lib.joinTail [32] Ws := by simp [Lib.joinTail]
    rw [spW, List.map_cons]
    congr 1
    · rw [h, e]
      have := take_word (P := P ++ [32]) (W := W) (R := Lib.joinTail [32] Ws ++ R)
      simp only [List.length_append, List.length_cons, List.length_nil, List.append_assoc] at this ⊢
      simpa using this
    · have := spW_words Ws (P ++ [32] ++ W) R S (by rw [h, e]; simp [List.append_assoc])
      refine Eq.trans ?_ this
      have e2 : (P ++ [32] ++ W).length = P.length + 1 + W.length := by rw [List.length_append, List.length_append]; rfl
      rw [e2]
/-- The fields of numbers that are joined by blanks are the numbers. -/
theorem fields_join {W : List UInt8} {Ws : List (List UInt8)} (h : ∀ V ∈ W :: Ws, 1 ≤ V.length ∧ ∀ b ∈ V, b.toNat < 128 ∧ sepP b.toNat = false) :
    Lib.goFieldsP sepP ⟨(Lib.join (W :: Ws) [32]).toArray⟩ = (W :: Ws).map fun V => (⟨V.toArray⟩ : ByteArray) := by
  obtain ⟨acc, q, k1, k2⟩ := spL1_join (p := sepP) (by decide) (W := W) (Ws := Ws) (fun V hV => ⟨(h V hV).1, fun b hb => ((h V hV).2 b hb).2⟩)
  obtain ⟨S, hS⟩ : ∃ S, Lib.join (W :: Ws) [32] = S := ⟨_, rfl⟩
  have hasc : ∀ b ∈ S, b.toNat < 128 := by
    rw [← hS, Lib.join_cons]
    intro b hb
    rcases List.mem_append.1 hb with hb | hb
    · exact ((h W (by simp)).2 b hb).1
    · unfold Lib.joinTail at hb
      obtain ⟨V, hV, hb⟩ := List.mem_flatten.1 hb
      obtain ⟨U, hU, rfl⟩ := List.mem_map.1 hV
      rcases List.mem_append.1 hb with hb | hb
      · simp at hb; subst hb; decide
      · exact ((h U (by simp [hU])).2 b hb).1
  have hw : (spW (W :: Ws) 0).map (fun x => (S.take x.2).drop x.1) = W :: Ws := by
    rw [spW, List.map_cons]
    congr 1
    · rw [← hS, Lib.join_cons]; simp
    · have := spW_words Ws W [] S (by rw [← hS, Lib.join_cons]; simp)
      refine Eq.trans ?_ this
      rw [show 0 + W.length + 1 = W.length + 1 by omega]
  rw [hS] at k1 k2 ⊢
  have hsz : (ByteArray.mk S.toArray).size = S.length := by simp [ByteArray.size]
  unfold Lib.goFieldsP Lib.spansOfP
  rw [spans_L sepP ⟨S.toArray⟩ (by simpa using hasc) S _ 0 none [] (by simp) (by rw [hsz]; exact Nat.le_refl _), k1]
  unfold Lib.closeSpans
  simp only
  rw [hsz, k2]
  have key : ∀ x : Nat × Nat, (ByteArray.mk S.toArray).extract x.1 x.2 = (⟨((S.take x.2).drop x.1).toArray⟩ : ByteArray) := fun x => by
    apply ByteArray.ext
    rw [ByteArray.data_extract]
    simp [List.extract, List.drop_take]
  rw [List.map_congr_left (fun x _ => key x)]
  conv => rhs; rw [← hw]
  rw [List.map_map]; rfl
end

section
open Go.RowKit

/-- The table of the powers of ten, which the library's numerals lean on. -/
def PowT (w : World) : Prop := Lib.TabIs Tryz.prog w "internal/strconv.uint64pow10" .u64 Lib.pow10Tab
theorem PowT.below {w w' : World} (h : PowT w) (hb : Below w.heap.size w w') : PowT w' := by
  unfold PowT Lib.TabIs World.var? at h ⊢
  obtain ⟨g, hg⟩ : ∃ g, Tryz.prog.globalNamed "internal/strconv.uint64pow10" = g := ⟨_, rfl⟩
  rw [hg] at h ⊢
  cases g with
  | none => cases h
  | some g =>
    simp only [Option.bind_some] at h ⊢
    have hlt : g < w.heap.size := by
      rcases Nat.lt_or_ge g w.heap.size with h' | h'
      · exact h'
      · rw [Array.getElem?_eq_none h'] at h; cases h
    rw [hb.block g hlt]
    exact h
theorem below_itoa (w : World) (k : Nat) (os : Array Obj) : Below w.heap.size w (Sort.grow (w.drewN k) os) :=
  ⟨rfl, rfl, rfl, by show w.heap.size ≤ (w.heap ++ os).size; rw [Array.size_append]; omega, fun j hj => by show (w.heap ++ os)[j]? = w.heap[j]?; exact Array.getElem?_append_left hj⟩
theorem below_atoi (w : World) (e : TypeId) (s : ByteArray) : Below w.heap.size w (Lib.bytesWorld w e s) :=
  Lib.below_freeze ((Below.drew (Below.refl _ w)).alloc (Nat.le_refl _) _) (p := ⟨w.heap.size, _, none⟩) (Nat.le_refl _) 1
theorem itoaE_any (n : Int) (w : World) (h : -500 ≤ n ∧ n ≤ 500) (hT : PowT w) : Calls Tryz.prog 71 #[.int .i64 n] w fun e w' => e = .returned (.string ⟨(itE n).toArray⟩) ∧ Below w.heap.size w w' := by
  refine (Tryz.strconv_Itoa n (by omega) (by omega) w hT).mono ?_
  rintro e w' ⟨rfl, k, os, rfl⟩
  rw [itoa_E h]
  exact ⟨rfl, below_itoa w k os⟩
theorem atoiE_any (n : Int) (w : World) (h : -500 ≤ n ∧ n ≤ 500) : Calls Tryz.prog 75 #[.string ⟨(itE n).toArray⟩] w fun e w' => e = .returned (.tuple #[.int .i64 n, .nilIface]) ∧ Below w.heap.size w w' := by
  obtain ⟨h1, h2, h3, h4⟩ := w_ok h
  have hs : (ByteArray.mk (itE n).toArray).size ≤ 18 := by
    have : (ByteArray.mk (itE n).toArray).size = (itE n).length := by simp [ByteArray.size]
    omega
  refine (Tryz.strconv_Atoi ⟨(itE n).toArray⟩ n hs (by simpa using h1) w).mono ?_
  rintro e w' ⟨rfl, t, rfl⟩
  exact ⟨rfl, below_atoi w _ t⟩
/-- The words of a cube's text, and the text. -/
def cuW (k : Cu) : List (List UInt8) := (cuL k).map itE
def cuS (k : Cu) : ByteArray := ⟨(Lib.join (cuW k) [32]).toArray⟩
def strV (W : List (List UInt8)) : List Value := W.map fun x => .string ⟨x.toArray⟩
theorem strV_append (L K : List (List UInt8)) : strV (L ++ K) = strV L ++ strV K := by simp [strV]
theorem strV_get (L : List (List UInt8)) (i : Nat) (h : i < L.length) : (strV L)[i]? = some (.string ⟨L[i].toArray⟩) := by simp [strV, h]
theorem infoStr : (Tryz.prog.info? 9).map (fun i => (i.zero, i.size, i.bytes)) = some (some (.string ⟨#[]⟩), 1, 16) := by kernel_rfl
theorem own_elemS {w : World} {B : Nat} {e : TypeId} {base : Option Addr} {n cap : Nat} {L : List (List UInt8)} (h : w.ownsRow B e 1 (.slice base n cap) L.length (strV L)) {k : Nat} (hk : k < L.length) :
    ∃ g, base = some ⟨g, 0, none⟩ ∧ g < w.heap.size ∧ w.cell? ⟨g, k, none⟩ = some (.string ⟨L[k].toArray⟩) := by
  rcases own_form h with ⟨hv, h0⟩ | ⟨g, c, hv, h1, h2, h3⟩
  · omega
  · injection hv with e1 e2 e3
    exact ⟨g, e1, h2, h3 _ _ (strV_get L k hk)⟩
theorem cuL_bd {k : Cu} (h : cuB k = true) : ∀ x ∈ cuL k, -500 ≤ x ∧ x ≤ 500 := by
  unfold cuB at h
  rw [List.all_eq_true] at h
  intro x hx
  have := h x hx
  simpa using this
theorem join_bd : ∀ (L : List (List UInt8)), (∀ W ∈ L, W.length ≤ 4) → (Lib.join L [32]).length ≤ 5 * L.length
  | [], _ => by simp [Lib.join]
  | W :: Ws, h => by
    have ht : ∀ (K : List (List UInt8)), (∀ W ∈ K, W.length ≤ 4) → (Lib.joinTail [32] K).length ≤ 5 * K.length := by
      intro K
      induction K with
      | nil => intro _; simp [Lib.joinTail]
      | cons V K ih =>
        intro hK
        have e : Lib.joinTail [32] (V :: K) = 32 :: (V ++ Lib.joinTail [32] K) := by simp [Lib.joinTail]
        have h1 := ih (fun U hU => hK U (by simp [hU]))
        have h2 := hK V (by simp)
        rw [e]
        simp only [List.length_cons, List.length_append]
        omega
    rw [Lib.join_cons, List.length_append, List.length_cons]
    have h1 := ht Ws (fun U hU => h U (by simp [hU]))
    have h2 := h W (by simp)
    omega
theorem join_own {w : World} {B : Nat} {v : Value} {L : List (List UInt8)} (h : w.ownsRow B 9 1 v L.length (strV L)) (hL : 1 ≤ L.length) :
    ∃ g c, v = .slice (some ⟨g, 0, none⟩) L.length c ∧ g < w.heap.size ∧ L.length ≤ c ∧ ∀ (j : Nat) x, (L.map fun x => (⟨x.toArray⟩ : ByteArray))[j]? = some x → w.cell? ⟨g, 0 + j, none⟩ = some (.string x) := by
  obtain ⟨hl, ⟨rfl, h0⟩ | ⟨g, cap, cur, rfl, h1, h2, h3, h4, h5, h6⟩⟩ := h
  · omega
  · have hown : w.ownsRow B 9 1 (.slice (some ⟨g, 0, none⟩) L.length cap) L.length (strV L) := ⟨hl, .inr ⟨g, cap, cur, rfl, h1, h2, h3, h4, h5, h6⟩⟩
    refine ⟨g, cap, rfl, ?_, h3, fun j x hx => ?_⟩
    · rcases Nat.lt_or_ge g w.heap.size with h' | h'
      · exact h'
      · rw [Array.getElem?_eq_none h'] at h2; cases h2
    · have hj : j < L.length := by
        rcases Nat.lt_or_ge j L.length with h' | h'
        · exact h'
        · rw [List.getElem?_eq_none (by simpa using h')] at hx; cases hx
      obtain ⟨g', e1, _, e3⟩ := own_elemS hown hj
      injection e1 with e1
      injection e1 with e1 _ _
      subst e1
      rw [List.getElem?_map, List.getElem?_eq_getElem hj] at hx
      injection hx with hx
      rw [Nat.zero_add, e3, ← hx]
set_option maxRecDepth 100000 in
set_option maxHeartbeats 6400000 in
theorem cubeText_any (k : Cu) (w : World) (h : cuB k = true) (hT : PowT w) : Calls Tryz.prog 37 #[.agg #[.int .i64 k.a, .int .i64 k.b, .int .i64 k.c, .int .i64 k.d, .int .i64 k.e, .int .i64 k.f, .int .i64 k.g, .int .i64 k.h]] w fun e w' => e = .returned (.string (cuS k)) ∧ Below w.heap.size w w' := by
  have hx : ∀ i (_ : i < 8) (w : World), (Instr.index 60 (.agg #[.int .i64 k.a, .int .i64 k.b, .int .i64 k.c, .int .i64 k.d, .int .i64 k.e, .int .i64 k.f, .int .i64 k.g, .int .i64 k.h]) (.int .i64 (i : Nat))).run Tryz.prog w = .ok (.int .i64 (cuN k i)) w := by
    intro i hi w
    rcases (show i = 0 ∨ i = 1 ∨ i = 2 ∨ i = 3 ∨ i = 4 ∨ i = 5 ∨ i = 6 ∨ i = 7 by omega) with rfl | rfl | rfl | rfl | rfl | rfl | rfl | rfl <;> kernel_rfl
  obtain ⟨i0, hi0, iz0, iz1, iz2⟩ := info_parts infoStr
  have hE := Lib.hid (fun w => entries_any k w)
  have HX := Lib.hid hx
  have HB := Lib.hid (cuB_iff.1 h)
  have hW8 : (cuW k).length = 8 := rfl
  have hWg : ∀ i, i < 8 → (cuW k).take (i + 1) = (cuW k).take i ++ [itE (cuN k i)] := by
    intro i hi
    rw [List.take_add_one, List.getElem?_eq_getElem (by omega)]
    congr 1
    simp [cuW, cuN, cuL]
    rcases (show i = 0 ∨ i = 1 ∨ i = 2 ∨ i = 3 ∨ i = 4 ∨ i = 5 ∨ i = 6 ∨ i = 7 by omega) with rfl | rfl | rfl | rfl | rfl | rfl | rfl | rfl <;> rfl
  have hJl : (Lib.join (cuW k) [32]).length ≤ 40 := by
    have := join_bd (cuW k) (fun W hW => by
      unfold cuW at hW
      obtain ⟨n, hn, rfl⟩ := List.mem_map.1 hW
      exact (w_ok (cuL_bd h n hn)).2.1)
    omega
  have HJ := Lib.hid (show ∀ w' v, Below w.heap.size w w' → w'.ownsRow w.heap.size 9 1 v 8 (strV (cuW k)) → ∃ g c, v = .slice (some ⟨g, 0, none⟩) 8 c ∧ Calls Tryz.prog 72 #[.slice (some ⟨g, 0, none⟩) 8 c, .string ⟨#[32]⟩] w' fun e w'' => e = .returned (.string (cuS k)) ∧ Below w'.heap.size w' w'' from fun w' v _ ho => by
    obtain ⟨g, c, rfl, hg, hc, hcell⟩ := join_own (L := cuW k) (by rw [hW8]; exact ho) (by omega)
    refine ⟨g, c, by rw [hW8], ?_⟩
    have hl : ((cuW k).map fun x => (⟨x.toArray⟩ : ByteArray)).length = 8 := by rw [List.length_map]; exact hW8
    have hm : ((cuW k).map fun x => (⟨x.toArray⟩ : ByteArray)).map (·.data.toList) = cuW k := by rfl
    have hj := Tryz.strings_Join g 0 c ((cuW k).map fun x => (⟨x.toArray⟩ : ByteArray)) ⟨#[32]⟩ w' hcell hg (by rw [hl]; omega) (by rw [hl]; omega) (by rw [hm]; exact Nat.le_trans hJl (by decide))
    rw [hl, hm] at hj
    exact hj)
  have HG := Lib.hid hWg
  have HT := Lib.hid hT
  have HW := Lib.hid hW8
  clear h hx hW8 hWg hJl hT
  generalize cuW k = WL at *
  generalize cuS k = SS at *
  go_enter Tryz.func37, Tryz.ntmps37
  go_wp2_with (go_at_call 25; (with_reducible refine (hE.out _).mono ?_); rintro e v1 ⟨rfl, hc1⟩)
  have hz1 := hc1.size
  (try simp at hz1)
  have ho1 : v1.ownsRow w.heap.size 9 1 (.slice (some ⟨w.heap.size + 1, 0, none⟩) 0 0) 0 [] := own_call hc1 (by first | exact own_empty (by simp) | (have := own_empty (w := w.alloc (.cells #[.int .i64 k.a, .int .i64 k.b, .int .i64 k.c, .int .i64 k.d, .int .i64 k.e, .int .i64 k.f, .int .i64 k.g, .int .i64 k.h] 25)) (B := w.heap.size) (e := 9) (sz := 1) (by simp); simpa using this))
  have hb1 : Below w.heap.size w v1 := (by repeat (first | with_reducible (first | exact Below.refl _ _ | assumption | apply Below.drew | apply below_drewN) | (with_reducible (first | apply below_setp | apply below_allocp); (first | omega | (simp <;> omega))) | (with_reducible refine below_viap (by assumption) ?_ ?_; (first | omega | (simp <;> omega)))))
  clear hc1
  go_loopw [3, 9] (fun v3 v9 wr => ∃ j : Nat, v9 = .int .i64 j ∧ j ≤ 8 ∧ wr.ownsRow w.heap.size 9 1 v3 j (strV (WL.take j)) ∧ Below w.heap.size w wr) (fun _ v9 _ => 8 - (intOf v9).toNat)
  case atStart => exact ⟨0, rfl, by omega, ho1, hb1⟩
  case round =>
    obtain ⟨j, rfl, hj, hown, hbel⟩ := hrel
    obtain ⟨b0, c0, rfl⟩ := own_shape hown
    by_cases hlt : j < 8
    · have hxi := HX.out j hlt
      have hxb := HB.out j hlt
      have hgn := HG.out j hlt
      have hI := Lib.hid (fun w hT => itoaE_any (cuN k j) w hxb hT)
      have HTr := Lib.hid (HT.out.below hbel)
      generalize cuN k j = x at *
      have HN := Lib.hid hgn
      have kI : (j : Int) < 8 := by omega
      clear hgn hxb
      go_wp2_with (first
        | (go_at_call 71; (with_reducible refine (hI.out _ HTr.out).mono ?_); rintro e w1 ⟨rfl, hc⟩; have hz := hc.size; have howl := own_call hc hown; have hbl : Below w.heap.size w w1 := below_via hbel hc hbel.size; have hzl := hbl.size)
        | (at_builtin; refine wpList_append_own _ rfl (.tmp 12) (.tmp 15) 99 rfl w.heap.size 9 i0 _ 1 16 Tryz.underlying99 hi0 iz0 iz1 iz2 rfl (by decide) (.slice b0 j c0) j (strV (WL.take j)) rfl ?_ ⟨w1.heap.size, 0, none⟩ 1 1 [.string ⟨(itE x).toArray⟩] rfl rfl ?_ (by intro u hu; simp at hu; subst hu; rfl) ?_ ?_ ?_ ?_; exact (by repeat (first | with_reducible assumption | with_reducible apply own_alloc | with_reducible apply own_drew | with_reducible apply own_drewN | (with_reducible refine own_setp (by assumption) ?_ ?_; (first | omega | (simp <;> omega))) | (with_reducible refine own_call (by assumption) ?_))); exact cells1 (Blk.new _ _ _); (unfold maxLen; omega); omega; (have := hbl.size; simp; omega); intro v2 w2 hown2 hg2 _))
      have hb2 : Below w.heap.size w w2 := below_grown (own_ge howl) (by have := hbl.size; simp; omega) hg2 (by repeat (first | with_reducible (first | exact Below.refl _ _ | assumption | apply Below.drew | apply below_drewN) | (with_reducible (first | apply below_setp | apply below_allocp); (first | omega | (simp <;> omega))) | (with_reducible refine below_viap (by assumption) ?_ ?_; (first | omega | (simp <;> omega)))))
      have ho2 : w2.ownsRow w.heap.size 9 1 v2 (j + 1) (strV (WL.take (j + 1))) := by rw [HN.out, strV_append]; exact hown2
      clear hg2 hown2 hown hbel howl hbl hc
      go_wp2
      go_roundw
      case rel => exact ⟨j + 1, by go_num, by omega, ho2, hb2⟩
      case measure => (first | (simp [intOf]; done) | (simp [intOf]; omega))
    · obtain rfl : j = 8 := by omega
      have hfull : WL.take 8 = WL := List.take_of_length_le (by have := HW.out; omega)
      rw [hfull] at hown
      obtain ⟨g, c, hv, hJ⟩ := HJ.out _ _ hbel hown
      rw [hv]
      have hJ2 := Lib.hid hJ
      clear HX HB HG HJ hJ
      go_wp2_with (go_at_call 72; (with_reducible refine hJ2.out.mono ?_); rintro e w1 ⟨rfl, hc⟩)
      go_ret
      exact ⟨rfl, below_via hbel hc hbel.size⟩
end

section
open Go.RowKit

def txtI (L : List Int) : ByteArray := ⟨(Lib.join (L.map itE) [32]).toArray⟩
theorem cuS_txt (k : Cu) : cuS k = txtI (cuL k) := rfl
set_option maxRecDepth 100000 in
set_option maxHeartbeats 1600000 in
/-- The closure: what parts the numbers. -/
theorem sepClo_any (W : World) (x : Nat) (_hx : x ≤ 1114111) : Calls Tryz.prog 74 #[.int .i32 (x : Int)] W fun e w' => e = .returned (.bool (sepP x)) ∧ ∃ q, w' = W.drewN q := by
  by_cases h1 : x = 45
  · have hv : sepP x = false := by subst h1; rfl
    rw [hv]
    subst h1
    go_enter Tryz.func74, Tryz.ntmps74
    go_wp2
    go_ret
    exact ⟨ret_bool (by first | rfl | (simp; done) | (simp; omega)), ⟨0, rfl⟩⟩
  · have k1 : ((x : Int) == 45) = false := by rw [beq_eq_false_iff_ne]; omega
    have k2 : (x != 45) = true := by simp [h1]
    by_cases h2 : x < 48
    · have hv : sepP x = true := by unfold sepP; rw [k2, decide_eq_true h2]; rfl
      rw [hv]
      have k3 : (x : Int) < 48 := by omega
      clear k2 hv
      go_enter Tryz.func74, Tryz.ntmps74
      go_wp2
      go_ret
      exact ⟨ret_bool (by first | rfl | (simp; done) | (simp; omega)), ⟨0, rfl⟩⟩
    · have k3 : ¬ (x : Int) < 48 := by omega
      by_cases h3 : 57 < x
      · have hv : sepP x = true := by unfold sepP; rw [k2, decide_eq_false h2, decide_eq_true h3]; rfl
        rw [hv]
        have k4 : (57 : Int) < x := by omega
        clear k2 hv
        go_enter Tryz.func74, Tryz.ntmps74
        go_wp2
        go_ret
        exact ⟨ret_bool (by first | rfl | (simp; done) | (simp; omega)), ⟨0, rfl⟩⟩
      · have hv : sepP x = false := by unfold sepP; rw [k2, decide_eq_false h2, decide_eq_false h3]; rfl
        rw [hv]
        have k4 : ¬ (57 : Int) < x := by omega
        clear k2 hv
        go_enter Tryz.func74, Tryz.ntmps74
        go_wp2
        go_ret
        exact ⟨ret_bool (by first | rfl | (simp; done) | (simp; omega)), ⟨0, rfl⟩⟩
theorem fieldsE_any (L : List Int) (w : World) (hL : ∀ x ∈ L, -500 ≤ x ∧ x ≤ 500) (h1 : 1 ≤ L.length) (h2 : L.length ≤ 1000) : Calls Tryz.prog 73 #[.string (txtI L), .func (.func 74) #[] #[]] w fun e w' =>
    ∃ A, e = .returned (.slice (some ⟨A, 0, none⟩) L.length L.length) ∧ w.heap.size ≤ A ∧ w'.ownsRow w.heap.size 9 1 (.slice (some ⟨A, 0, none⟩) L.length L.length) L.length (strV (L.map itE)) ∧ Below w.heap.size w w' := by
  have hw : ∀ V ∈ L.map itE, 1 ≤ V.length ∧ ∀ b ∈ V, b.toNat < 128 ∧ sepP b.toNat = false := fun V hV => by
    obtain ⟨n, hn, rfl⟩ := List.mem_map.1 hV
    have := w_ok (hL n hn)
    exact ⟨this.2.2.1, this.2.2.2⟩
  have hg : Lib.goFieldsP sepP (txtI L) = (L.map itE).map fun V => (⟨V.toArray⟩ : ByteArray) := by
    cases L with
    | nil => simp at h1
    | cons x L => exact fields_join hw
  have hs : (txtI L).size ≤ 4294967296 := by
    have h3 := join_bd (L.map itE) (fun V hV => by
      obtain ⟨n, hn, rfl⟩ := List.mem_map.1 hV
      exact (w_ok (hL n hn)).2.1)
    have h4 : (txtI L).size = (Lib.join (L.map itE) [32]).length := by simp [txtI, ByteArray.size]
    rw [List.length_map] at h3
    omega
  have hc := Tryz.strings_FieldsFunc_runes 74 #[] (enters_of Tryz.func74 (by kernel_rfl) rfl) sepP (txtI L) w hs (fun W x hx _ => sepClo_any W x hx)
  rw [hg] at hc
  have hl : ((L.map itE).map fun V => (⟨V.toArray⟩ : ByteArray)).length = L.length := by rw [List.length_map, List.length_map]
  have hm : ((L.map itE).map fun V => (⟨V.toArray⟩ : ByteArray)).map Value.string = strV (L.map itE) := by rw [List.map_map]; rfl
  rw [hl, hm] at hc
  exact hc
/-- The list so far beside the row of words. -/
def LiW (X : List Int) (n B2 : Nat) (xs : List Value) (vp : Value) (w : World) (v : Value) (wr : World) : Prop :=
  wr.ownsRow w.heap.size 3 1 v X.length (cellsI X) ∧ wr.ownsRow B2 9 1 vp n xs ∧ Apart v vp ∧ Below w.heap.size w wr
set_option maxRecDepth 100000 in
set_option maxHeartbeats 6400000 in
theorem integersIn_any (L : List Int) (w : World) (hL : ∀ x ∈ L, -500 ≤ x ∧ x ≤ 500) (h1 : 1 ≤ L.length) (h2 : L.length ≤ 1000) : Calls Tryz.prog 38 #[.string (txtI L)] w (RetI L w) := by
  obtain ⟨i0, hi0, iz0, iz1, iz2⟩ := info_parts infoInt
  have hF := Lib.hid (fun w => fieldsE_any L w hL h1 h2)
  obtain ⟨SS, hSS⟩ : ∃ SS, txtI L = SS := ⟨_, rfl⟩
  rw [hSS] at hF ⊢
  have HL := Lib.hid hL
  clear hSS hL
  go_enter Tryz.func38, Tryz.ntmps38
  go_wp2_with (go_at_call 73; (with_reducible refine (hF.out _).mono ?_); rintro e v1 ⟨A, rfl, hA, hoS, hc1⟩)
  have hz1 := hc1.size
  (try simp at hz1)
  (try simp at hA)
  have ho1 : v1.ownsRow w.heap.size 3 1 (.slice (some ⟨w.heap.size, 0, none⟩) 0 0) 0 [] := own_call hc1 (own_empty (Nat.le_refl _))
  have hb1 : Below w.heap.size w v1 := (by repeat (first | with_reducible (first | exact Below.refl _ _ | assumption | apply Below.drew | apply below_drewN) | (with_reducible (first | apply below_setp | apply below_allocp); (first | omega | (simp <;> omega))) | (with_reducible refine below_viap (by assumption) ?_ ?_; (first | omega | (simp <;> omega)))))
  have hap : Apart (.slice (some ⟨w.heap.size, 0, none⟩) 0 0) (.slice (some ⟨A, 0, none⟩) L.length L.length) := .inr (by simp [Value.ownBlock]; omega)
  have hst : LiW (L.take 0) L.length (w.alloc (.cells #[] 3)).heap.size (strV (L.map itE)) (.slice (some ⟨A, 0, none⟩) L.length L.length) w (.slice (some ⟨w.heap.size, 0, none⟩) 0 0) v1 := ⟨ho1, hoS, hap, hb1⟩
  clear hc1 ho1 hoS hap hb1
  generalize (w.alloc (.cells #[] 3)).heap.size = B2 at *
  go_loopw [3, 12] (fun v3 v12 wr => ∃ j : Nat, v12 = .int .i64 j ∧ j ≤ L.length ∧ LiW (L.take j) L.length B2 (strV (L.map itE)) (.slice (some ⟨A, 0, none⟩) L.length L.length) w v3 wr) (fun _ v12 _ => L.length - (intOf v12).toNat)
  case atStart => exact ⟨0, rfl, by omega, hst⟩
  case round =>
    clear hst hF
    obtain ⟨j, rfl, hj, hown, howS, hap, hbel⟩ := hrel
    obtain ⟨b0, c0, rfl⟩ := own_shape hown
    by_cases hlt : j < L.length
    · have hln : (L.take j).length = j := by rw [List.length_take]; omega
      have hsn : L.take (j + 1) = L.take j ++ [L[j]] := by rw [List.take_add_one, List.getElem?_eq_getElem hlt]; rfl
      obtain ⟨gA, eA, lA, cA⟩ := own_elemS (L := L.map itE) (by rw [List.length_map]; exact howS) (k := j) (by rw [List.length_map]; exact hlt)
      injection eA with eA
      injection eA with eA _ _
      subst eA
      rw [List.getElem_map] at cA
      have hI := Lib.hid (fun w => atoiE_any L[j] w (HL.out _ (List.getElem_mem _)))
      have HSn := Lib.hid hsn
      rw [hln] at hown hap
      generalize L[j] = x at *
      have kI : (j : Int) < (L.length : Int) := by omega
      have hZ := hbel.size
      clear hsn
      go_wp2_with (first
        | (go_at_call 75; (with_reducible refine (hI.out _).mono ?_); rintro e w1 ⟨rfl, hc⟩; have hz := hc.size; have howl := own_call hc hown; have hows := own_call hc howS; have hbl : Below w.heap.size w w1 := below_via hbel hc hbel.size; have hzl := hbl.size)
        | (at_builtin; refine wpList_append_own_at _ rfl (.tmp 24) (.tmp 26) 54 rfl w.heap.size 3 i0 _ 1 8 Tryz.underlying54 hi0 iz0 iz1 iz2 rfl (by decide) (.slice b0 j c0) j (cellsI (L.take j)) rfl ?_ ⟨w1.heap.size, 0, none⟩ 1 1 [.int .i64 x] rfl rfl ?_ (one1 _) ?_ ?_ ?_ ?_; exact own_alloc howl; exact cells1 (Blk.new _ _ _); (unfold maxLen; omega); omega; (simp; omega); intro v2 w2 hown2 hg2 _ hloc))
      have hb2 : Below w.heap.size w w2 := below_grown (own_ge howl) (by simp; omega) hg2 (by repeat (first | with_reducible (first | exact Below.refl _ _ | assumption | apply Below.drew | apply below_drewN) | (with_reducible (first | apply below_setp | apply below_allocp); (first | omega | (simp <;> omega))) | (with_reducible refine below_viap (by assumption) ?_ ?_; (first | omega | (simp <;> omega)))))
      have ho2 : w2.ownsRow w.heap.size 3 1 v2 (L.take (j + 1)).length (cellsI (L.take (j + 1))) := own_snocI HSn.out (by rw [hln]; exact hown2)
      have hs5 := own_alloc (o := .cells #[.int .i64 x] 3) hows
      have hs2 := hs5.kept hg2 hap
      have hap2 := apart_next hap hs5 (Nat.le_refl _) hloc
      clear hg2 hown2 hown howS hap hbel howl hows hbl hc hs5 hloc
      go_wp2
      go_roundw
      case rel => exact ⟨j + 1, by go_num, by omega, ho2, hs2, hap2, hb2⟩
      case measure => (first | (simp [intOf]; done) | (simp [intOf]; omega))
    · obtain rfl : j = L.length := by omega
      rw [List.take_length] at hown
      have hn : ¬ ((L.length : Int) < (L.length : Int)) := by omega
      clear HL
      go_wp2
      go_ret
      exact ⟨_, rfl, hown, hbel⟩
set_option maxRecDepth 100000 in
set_option maxHeartbeats 6400000 in
theorem implCT_yes (k : Cu) (w : World) (h : cuB k = true) (hT : PowT w) : Calls Tryz.prog 11 #[.agg #[.int .i64 k.a, .int .i64 k.b, .int .i64 k.c, .int .i64 k.d, .int .i64 k.e, .int .i64 k.f, .int .i64 k.g, .int .i64 k.h]] w fun e w' => e = .returned (.tuple #[.string (cuS k), .bool true]) ∧ Below w.heap.size w w' := by
  have hI := Lib.hid (fun w => isCube_yes k w h)
  have hC := Lib.hid (fun w hT => cubeText_any k w h hT)
  have HT := Lib.hid hT
  clear h hT
  generalize cuS k = SS at *
  go_enter Tryz.func11, Tryz.ntmps11
  go_wp2_with (first | (go_at_call 23; (with_reducible refine (hI.out _).mono ?_); rintro e v1 ⟨rfl, hB1⟩; have hZ1 := hB1.size; (try simp at hZ1); (try have zl1 : w.heap.size < v1.heap.size := by omega); (try have ze1 : w.heap.size ≤ v1.heap.size := by omega); (try have zn1 : ¬ w.heap.size = v1.heap.size := by omega); (try have zm1 : ¬ v1.heap.size = w.heap.size := by omega); have hX1 : Blk v1 (w.heap.size) 25 #[.int .i64 k.a, .int .i64 k.b, .int .i64 k.c, .int .i64 k.d, .int .i64 k.e, .int .i64 k.f, .int .i64 k.g, .int .i64 k.h] := Blk.call (by (repeat (first | with_reducible assumption | (with_reducible apply Blk.new_at; (first | rfl | (simp; done))) | with_reducible (first | apply Blk.store3 | apply Blk.store4) | (with_reducible apply Blk.farp; (first | omega | (simp <;> omega))) | with_reducible (first | apply Blk.allocp | apply Blk.drew | apply Blk.drewN)))) hB1; obtain ⟨cX1, fX1, lX1, mX1, nX1⟩ := hX1.all5) | (go_at_call 37; have hTv := HT.out.below (show Below w.heap.size w v1 from (by repeat (first | with_reducible (first | exact Below.refl _ _ | assumption | apply Below.drew | apply below_drewN) | (with_reducible (first | apply below_setp | apply below_allocp); (first | omega | (simp <;> omega))) | (with_reducible refine below_viap (by assumption) ?_ ?_; (first | omega | (simp <;> omega)))))); (with_reducible refine (hC.out _ hTv).mono ?_); rintro e v2 ⟨rfl, hB2⟩))
  go_ret2
  exact ⟨rfl, (by repeat (first | with_reducible (first | exact Below.refl _ _ | assumption | apply Below.drew | apply below_drewN) | (with_reducible (first | apply below_setp | apply below_allocp); (first | omega | (simp <;> omega))) | (with_reducible refine below_viap (by assumption) ?_ ?_; (first | omega | (simp <;> omega)))))⟩
set_option maxRecDepth 100000 in
set_option maxHeartbeats 6400000 in
theorem implPC_yes (k : Cu) (w : World) (h : cuB k = true) (hT : PowT w) : Calls Tryz.prog 12 #[.string (cuS k)] w fun e w' => e = .returned (.tuple #[.agg #[.int .i64 k.a, .int .i64 k.b, .int .i64 k.c, .int .i64 k.d, .int .i64 k.e, .int .i64 k.f, .int .i64 k.g, .int .i64 k.h], .bool true]) ∧ Below w.heap.size w w' := by
  have hI := Lib.hid (fun w => integersIn_any (cuL k) w (cuL_bd h) (by simp [cuL]) (by simp [cuL]))
  have hC := Lib.hid (fun w hT => cubeText_any k w h hT)
  have hE := Lib.hid (fun w => ecube_yes k w h)
  have hA : ∀ g c w, (Instr.arrayAt 60 (.slice (some ⟨g, 0, none⟩) 8 c)).run Tryz.prog w = .ok (.pointer (some ⟨g, 0, none⟩)) w := fun g c w => run_arrayAt w _ _ 8 _ 8 c Tryz.underlying60 (Nat.le_refl _)
  have HT := Lib.hid hT
  rw [← cuS_txt] at hI
  clear h hT
  generalize cuS k = SS at *
  go_enter Tryz.func12, Tryz.ntmps12
  go_wp2_with (go_at_call 38; (with_reducible refine (hI.out _).mono ?_); rintro e v1 ⟨v, rfl, ho1, hc1⟩; refine Hid.out ?_)
  have hz1 := hc1.size
  (try simp at hz1)
  have hR1 : Blk v1 w.heap.size 25 #[.int .i64 0, .int .i64 0, .int .i64 0, .int .i64 0, .int .i64 0, .int .i64 0, .int .i64 0, .int .i64 0] := Blk.call (by (repeat (first | with_reducible assumption | (with_reducible apply Blk.new_at; (first | rfl | (simp; done))) | with_reducible (first | apply Blk.store3 | apply Blk.store4) | (with_reducible apply Blk.farp; (first | omega | (simp <;> omega))) | with_reducible (first | apply Blk.allocp | apply Blk.drew | apply Blk.drewN)))) hc1
  obtain ⟨cR1, fR1, lR1, mR1, nR1⟩ := hR1.all5
  have hb1 : Below w.heap.size w v1 := (by repeat (first | with_reducible (first | exact Below.refl _ _ | assumption | apply Below.drew | apply below_drewN) | (with_reducible (first | apply below_setp | apply below_allocp); (first | omega | (simp <;> omega))) | (with_reducible refine below_viap (by assumption) ?_ ?_; (first | omega | (simp <;> omega)))))
  clear hc1
  obtain ⟨g, cap, rfl, hg1, hcl⟩ : ∃ g cap, v = .slice (some ⟨g, 0, none⟩) 8 cap ∧ g < v1.heap.size ∧ ∀ (j : Nat) u, (cellsI (cuL k))[j]? = some u → v1.cell? ⟨g, j, none⟩ = some u := by
    rcases own_form ho1 with ⟨hv, h0⟩ | ⟨g, c, hv, h1, h2, h3⟩
    · simp [cuL] at h0
    · exact ⟨g, c, hv, h2, h3⟩
  have c0 := hcl 0 _ rfl
  have c1 := hcl 1 _ rfl
  have c2 := hcl 2 _ rfl
  have c3 := hcl 3 _ rfl
  have c4 := hcl 4 _ rfl
  have c5 := hcl 5 _ rfl
  have c6 := hcl 6 _ rfl
  have c7 := hcl 7 _ rfl
  have hAg := hA g cap
  clear hcl ho1 hI
  have e8 : ((8 : Int) == 8) = true := rfl
  refine Lib.hid ?_
  go_wp2_with (first
    | (go_at_call 27; (with_reducible refine (hE.out _).mono ?_); rintro e v2 ⟨rfl, hc2⟩; have hz2 := hc2.size; (try simp at hz2); have hR2 : Blk v2 w.heap.size 25 #[.int .i64 0, .int .i64 0, .int .i64 0, .int .i64 0, .int .i64 0, .int .i64 0, .int .i64 0, .int .i64 0] := Blk.call (by (repeat (first | with_reducible assumption | (with_reducible apply Blk.new_at; (first | rfl | (simp; done))) | with_reducible (first | apply Blk.store3 | apply Blk.store4) | (with_reducible apply Blk.farp; (first | omega | (simp <;> omega))) | with_reducible (first | apply Blk.allocp | apply Blk.drew | apply Blk.drewN)))) hc2; obtain ⟨cR2, fR2, lR2, mR2, nR2⟩ := hR2.all5; have hb2 : Below w.heap.size w v2 := below_via hb1 hc2 hb1.size; have hTv := HT.out.below hb2)
    | (go_at_call 37; (with_reducible refine (hC.out _ (HT.out.below ((by repeat (first | with_reducible (first | exact Below.refl _ _ | assumption | apply Below.drew | apply below_drewN) | (with_reducible (first | apply below_setp | apply below_allocp); (first | omega | (simp <;> omega))) | (with_reducible refine below_viap (by assumption) ?_ ?_; (first | omega | (simp <;> omega)))))))).mono ?_); rintro e v3 ⟨rfl, hc3⟩; have hz3 := hc3.size; (try simp at hz3); have hR3 : Blk v3 w.heap.size 25 #[.int .i64 0, .int .i64 0, .int .i64 0, .int .i64 0, .int .i64 0, .int .i64 0, .int .i64 0, .int .i64 0] := Blk.call (by (repeat (first | with_reducible assumption | (with_reducible apply Blk.new_at; (first | rfl | (simp; done))) | with_reducible (first | apply Blk.store3 | apply Blk.store4) | (with_reducible apply Blk.farp; (first | omega | (simp <;> omega))) | with_reducible (first | apply Blk.allocp | apply Blk.drew | apply Blk.drewN)))) hc3; obtain ⟨cR3, fR3, lR3, mR3, nR3⟩ := hR3.all5; have hK3 : Blk v3 v2.heap.size 25 #[.int .i64 k.a, .int .i64 k.b, .int .i64 k.c, .int .i64 k.d, .int .i64 k.e, .int .i64 k.f, .int .i64 k.g, .int .i64 k.h] := Blk.call (by (repeat (first | with_reducible assumption | (with_reducible apply Blk.new_at; (first | rfl | (simp; done))) | with_reducible (first | apply Blk.store3 | apply Blk.store4) | (with_reducible apply Blk.farp; (first | omega | (simp <;> omega))) | with_reducible (first | apply Blk.allocp | apply Blk.drew | apply Blk.drewN)))) hc3; obtain ⟨cK3, fK3, lK3, mK3, nK3⟩ := hK3.all5))
  exact bodyPost_ret (v := .tuple #[.agg #[.int .i64 k.a, .int .i64 k.b, .int .i64 k.c, .int .i64 k.d, .int .i64 k.e, .int .i64 k.f, .int .i64 k.g, .int .i64 k.h], .bool true]) (by simp [results, Tryz.results12, go_sem, *]) rfl ⟨rfl, (by repeat (first | with_reducible (first | exact Below.refl _ _ | assumption | apply Below.drew | apply below_drewN) | (with_reducible (first | apply below_setp | apply below_allocp); (first | omega | (simp <;> omega))) | (with_reducible refine below_viap (by assumption) ?_ ?_; (first | omega | (simp <;> omega)))))⟩
end
end Go.Proofs.YtlcegkafagdcjaaGreatDoor
