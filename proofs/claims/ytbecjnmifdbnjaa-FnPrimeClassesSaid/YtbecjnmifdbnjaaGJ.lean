/- Plain facts: the Jacobi symbol at an odd prime that divides a discriminant of at most 2000 multiplies (checked by the kernel over the powers of a primitive root). gen_GJ.py wrote this. -/
import Derived.Test.YtbecjnmifdbnjaaN1
namespace Go.Proofs.Ytbecjnmifdbnjaa

/-- The symbol as 1 (plus), 2 (minus) or another number. -/
def jC (k : Nat) : Nat → Nat → Nat := Nat.rec (fun _ _ => 0) (fun _ ih a n =>
  Nat.rec (Nat.rec 0 (fun m _ => Nat.rec 1 (fun _ _ => 0) m) n) (fun _ _ =>
   bif (a % 2).beq 0 then (bif (n % 8).beq 1 then ih (a / 2) n else bif (n % 8).beq 7 then ih (a / 2) n else 3 - ih (a / 2) n) else (bif (a % 4).beq 3 then (bif (n % 4).beq 3 then 3 - ih (n % a) a else ih (n % a) a) else ih (n % a) a)) a) k
/-- The powers of g from x on have the signs s, the other one, s, and so on; none is 1 but the first of all, and the one behind them is 1. -/
def pwC (q g : Nat) (n : Nat) : Nat → Nat → Bool := Nat.rec (fun x _ => x.beq 1) (fun n ih x s =>
  bif (jC (x + 1) x q).beq s then (bif (n + 2).beq q then ih (g * x % q) (3 - s) else bif x.beq 1 then false else ih (g * x % q) (3 - s)) else false) n
def tabQ0 : List (Nat × Nat) := [
  (3, 2), (5, 2), (7, 3), (11, 2), (13, 2), (17, 3), (19, 2), (23, 5), (29, 2), (31, 3), (37, 2), (41, 6), (43, 3), (47, 5), (53, 2), (59, 2), (61, 2), (67, 2), (71, 7), (73, 5),
  (79, 3), (83, 2), (89, 3), (97, 5), (101, 2), (103, 5), (107, 2), (109, 6), (113, 3), (127, 3), (131, 2), (137, 3), (139, 2), (149, 2), (151, 6), (157, 5), (163, 2), (167, 5),
  (173, 2), (179, 2), (181, 2), (191, 19), (193, 5), (197, 2), (199, 3), (211, 2), (223, 3), (227, 2), (229, 6), (233, 3), (239, 7), (241, 7), (251, 6), (257, 3), (263, 5), (269, 2),
  (271, 6), (277, 5), (281, 3), (283, 3), (293, 2), (307, 5), (311, 17), (313, 10), (317, 2), (331, 3), (337, 10), (347, 2), (349, 2), (353, 3), (359, 7), (367, 6)]
theorem tabQ0_ok : (tabQ0.all fun p => pwC p.1 p.2 (p.1 - 1) 1 1) = true := by decide +kernel
def tabQ1 : List (Nat × Nat) := [
  (373, 2), (379, 2), (383, 5), (389, 2), (397, 5), (401, 3), (409, 21), (419, 2), (421, 2), (431, 7), (433, 5), (439, 15), (443, 2), (449, 3), (457, 13), (461, 2), (463, 3), (467,
  2), (479, 13), (487, 3), (491, 2), (499, 7), (503, 5), (509, 2), (521, 3), (523, 2)]
theorem tabQ1_ok : (tabQ1.all fun p => pwC p.1 p.2 (p.1 - 1) 1 1) = true := by decide +kernel
def tabQ2 : List (Nat × Nat) := [
  (541, 2), (547, 2), (557, 2), (563, 2), (569, 3), (571, 3), (577, 5), (587, 2), (593, 3), (599, 7), (601, 7), (607, 3), (613, 2), (617, 3), (619, 2), (631, 3), (641, 3), (643, 11),
  (647, 5), (653, 2)]
theorem tabQ2_ok : (tabQ2.all fun p => pwC p.1 p.2 (p.1 - 1) 1 1) = true := by decide +kernel
def tabQ3 : List (Nat × Nat) := [
  (659, 2), (661, 2), (683, 5), (691, 3), (719, 11), (727, 5), (739, 3), (743, 5), (751, 3), (787, 2), (811, 3), (823, 3), (827, 2), (839, 11), (859, 2)]
theorem tabQ3_ok : (tabQ3.all fun p => pwC p.1 p.2 (p.1 - 1) 1 1) = true := by decide +kernel
def tabQ4 : List (Nat × Nat) := [
  (863, 5), (883, 2), (887, 5), (907, 2), (911, 17), (919, 7), (947, 2), (967, 5), (971, 6), (983, 5), (991, 6), (1019, 2)]
theorem tabQ4_ok : (tabQ4.all fun p => pwC p.1 p.2 (p.1 - 1) 1 1) = true := by decide +kernel
def tabQ5 : List (Nat × Nat) := [
  (1031, 14), (1039, 3), (1051, 7), (1063, 3), (1087, 3), (1091, 2), (1103, 5), (1123, 2), (1151, 17), (1163, 5)]
theorem tabQ5_ok : (tabQ5.all fun p => pwC p.1 p.2 (p.1 - 1) 1 1) = true := by decide +kernel
def tabQ6 : List (Nat × Nat) := [
  (1171, 2), (1187, 2), (1223, 5), (1231, 3), (1259, 2), (1279, 3), (1283, 2), (1291, 2), (1303, 6)]
theorem tabQ6_ok : (tabQ6.all fun p => pwC p.1 p.2 (p.1 - 1) 1 1) = true := by decide +kernel
def tabQ7 : List (Nat × Nat) := [
  (1307, 2), (1319, 13), (1327, 3), (1367, 5), (1399, 13), (1423, 3), (1427, 2), (1439, 7)]
theorem tabQ7_ok : (tabQ7.all fun p => pwC p.1 p.2 (p.1 - 1) 1 1) = true := by decide +kernel
def tabQ8 : List (Nat × Nat) := [
  (1447, 3), (1451, 2), (1459, 3), (1471, 6), (1483, 2), (1487, 5), (1499, 2), (1511, 11)]
theorem tabQ8_ok : (tabQ8.all fun p => pwC p.1 p.2 (p.1 - 1) 1 1) = true := by decide +kernel
def tabQ9 : List (Nat × Nat) := [
  (1523, 2), (1531, 2), (1543, 5), (1559, 19), (1567, 3), (1571, 2), (1579, 3)]
theorem tabQ9_ok : (tabQ9.all fun p => pwC p.1 p.2 (p.1 - 1) 1 1) = true := by decide +kernel
def tabQ10 : List (Nat × Nat) := [
  (1583, 5), (1607, 5), (1619, 2), (1627, 3), (1663, 3), (1667, 2), (1699, 3)]
theorem tabQ10_ok : (tabQ10.all fun p => pwC p.1 p.2 (p.1 - 1) 1 1) = true := by decide +kernel
def tabQ11 : List (Nat × Nat) := [
  (1723, 3), (1747, 2), (1759, 6), (1783, 10), (1787, 2), (1811, 6)]
theorem tabQ11_ok : (tabQ11.all fun p => pwC p.1 p.2 (p.1 - 1) 1 1) = true := by decide +kernel
def tabQ12 : List (Nat × Nat) := [
  (1823, 5), (1831, 3), (1847, 5), (1867, 2), (1871, 14), (1879, 6)]
theorem tabQ12_ok : (tabQ12.all fun p => pwC p.1 p.2 (p.1 - 1) 1 1) = true := by decide +kernel
def tabQ13 : List (Nat × Nat) := [
  (1907, 2), (1931, 2), (1951, 3), (1979, 2), (1987, 2), (1999, 3)]
theorem tabQ13_ok : (tabQ13.all fun p => pwC p.1 p.2 (p.1 - 1) 1 1) = true := by decide +kernel
def tabQ : List (Nat × Nat) := tabQ0 ++ (tabQ1 ++ (tabQ2 ++ (tabQ3 ++ (tabQ4 ++ (tabQ5 ++ (tabQ6 ++ (tabQ7 ++ (tabQ8 ++ (tabQ9 ++ (tabQ10 ++ (tabQ11 ++ (tabQ12 ++ (tabQ13)))))))))))))
def hasDiv (q : Nat) : Bool := (List.range 45).any fun r => (r + 2 < q) && (q % (r + 2) == 0)
theorem tabQ_all : ((List.range 2001).all fun q => q < 3 || q % 2 == 0 || hasDiv q || (decide (667 ≤ q) && q % 4 == 1) || tabQ.any fun p => p.1 == q) = true := by decide +kernel
theorem tabQ_ok {p : Nat × Nat} (h : p ∈ tabQ) : pwC p.1 p.2 (p.1 - 1) 1 1 = true := by
  unfold tabQ at h
  simp only [List.mem_append] at h
  rcases h with h | h | h | h | h | h | h | h | h | h | h | h | h | h
  · exact List.all_eq_true.1 tabQ0_ok p h
  · exact List.all_eq_true.1 tabQ1_ok p h
  · exact List.all_eq_true.1 tabQ2_ok p h
  · exact List.all_eq_true.1 tabQ3_ok p h
  · exact List.all_eq_true.1 tabQ4_ok p h
  · exact List.all_eq_true.1 tabQ5_ok p h
  · exact List.all_eq_true.1 tabQ6_ok p h
  · exact List.all_eq_true.1 tabQ7_ok p h
  · exact List.all_eq_true.1 tabQ8_ok p h
  · exact List.all_eq_true.1 tabQ9_ok p h
  · exact List.all_eq_true.1 tabQ10_ok p h
  · exact List.all_eq_true.1 tabQ11_ok p h
  · exact List.all_eq_true.1 tabQ12_ok p h
  · exact List.all_eq_true.1 tabQ13_ok p h
end Go.Proofs.Ytbecjnmifdbnjaa
