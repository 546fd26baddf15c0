/- Pixels as numbers, their means, the next level: plain Lean. No condition. -/
import Derived.Test.YtaaiimlaklpjpaaImgG
namespace Go.Proofs.Ytaaiimlaklpjpaa
open Go
set_option linter.unusedVariables false
set_option linter.unusedSimpArgs false
set_option maxRecDepth 100000

/-- A pixel's number, the first byte lowest. -/
def num : List UInt8 → Nat
  | [] => 0
  | b :: t => b.toNat + 256 * num t
theorem num_snoc (l : List UInt8) (b : UInt8) : num (l ++ [b]) = num l + b.toNat * 256 ^ l.length := by
  induction l with
  | nil => simp [num]
  | cons a l ih => simp only [List.cons_append, num, ih, List.length_cons, Nat.pow_succ, Nat.mul_add]; rw [show 256 * (b.toNat * 256 ^ l.length) = b.toNat * (256 ^ l.length * 256) by rw [Nat.mul_comm 256, Nat.mul_assoc]]; omega
theorem num_lt (l : List UInt8) : num l < 256 ^ l.length := by
  induction l with
  | nil => simp [num]
  | cons a l ih => have := a.toNat_lt; simp only [num, List.length_cons, Nat.pow_succ]; omega

def bitsOf (f : Int) : List Nat :=
  if f = 1 then [8, 8, 8, 8] else if f = 2 then [5, 6, 5] else if f = 3 then [4, 4, 4, 4] else if f = 4 then [1, 5, 5, 5] else if f = 7 then [8, 8] else [8]
def szOf (f : Int) : Nat := (sizeI f).toNat

/-- The mean of one channel. -/
def chMean (ns : List Nat) (at_ k : Nat) : Nat := ((ns.map fun n => n / 2 ^ at_ % 2 ^ k).sum + ns.length / 2) / ns.length
def meanGo (ns : List Nat) : List Nat → Nat → Nat → Nat
  | [], _, m => m
  | k :: ks, at_, m => meanGo ns ks (at_ + k) (m + chMean ns at_ k * 2 ^ at_)
def meanN (bits : List Nat) (ns : List Nat) : Nat := meanGo ns bits 0 0
theorem sum_le (ns : List Nat) (at_ k : Nat) : (ns.map fun n => n / 2 ^ at_ % 2 ^ k).sum ≤ ns.length * (2 ^ k - 1) := by
  induction ns with
  | nil => simp
  | cons a l ih =>
    have h : a / 2 ^ at_ % 2 ^ k < 2 ^ k := Nat.mod_lt _ (Nat.two_pow_pos k)
    simp only [List.map_cons, List.sum_cons, List.length_cons, Nat.add_mul, Nat.one_mul]
    omega
theorem chMean_lt (ns : List Nat) (at_ k : Nat) : chMean ns at_ k < 2 ^ k := by
  have hp := Nat.two_pow_pos k
  unfold chMean
  rcases Nat.eq_zero_or_pos ns.length with h | h
  · rw [h]; simpa using hp
  · have := sum_le ns at_ k
    rw [Nat.div_lt_iff_lt_mul h]
    have h2 : 2 ^ k * ns.length = ns.length * (2 ^ k - 1) + ns.length := by
      rw [Nat.mul_comm, ← Nat.mul_succ]; congr 1; omega
    omega
def leB (size m : Nat) : List UInt8 := (List.range size).map fun j => UInt8.ofNat (m / 256 ^ j)
theorem leB_length (size m : Nat) : (leB size m).length = size := by simp [leB]
theorem leB_zero (size : Nat) : leB size 0 = List.replicate size 0 := by
  simp [leB, List.eq_replicate_iff]

/-- How many columns or rows of a side of w lie under one of the next. -/
def two (w : Nat) : Nat := if w = 1 then 1 else 2
def pix (W : Nat) (B : List UInt8) (sz a b : Nat) : List UInt8 := (B.drop ((b * W + a) * sz)).take sz
def four (W H : Nat) (B : List UInt8) (sz x y : Nat) : List (List UInt8) := (List.range (two H)).flatMap fun j => (List.range (two W)).map fun i => pix W B sz (2 * x + i) (2 * y + j)
def nextW (w : Nat) : Nat := max (w / 2) 1
def meanB (sz : Nat) (bits : List Nat) (l : List (List UInt8)) : List UInt8 := leB sz (meanN bits (l.map num))
def rowB (sz : Nat) (bits : List Nat) (W H : Nat) (B : List UInt8) (y n : Nat) : List UInt8 := (List.range n).flatMap fun x => meanB sz bits (four W H B sz x y)
def halfB (sz : Nat) (bits : List Nat) (W H : Nat) (B : List UInt8) (m : Nat) : List UInt8 := (List.range m).flatMap fun y => rowB sz bits W H B y (nextW W)
theorem rowB_succ (sz : Nat) (bits : List Nat) (W H : Nat) (B : List UInt8) (y n : Nat) : rowB sz bits W H B y (n + 1) = rowB sz bits W H B y n ++ meanB sz bits (four W H B sz n y) := by
  simp [rowB, List.range_succ, List.flatMap_append]
theorem halfB_succ (sz : Nat) (bits : List Nat) (W H : Nat) (B : List UInt8) (m : Nat) : halfB sz bits W H B (m + 1) = halfB sz bits W H B m ++ rowB sz bits W H B m (nextW W) := by
  simp [halfB, List.range_succ, List.flatMap_append]
theorem meanB_length (sz : Nat) (bits : List Nat) (l : List (List UInt8)) : (meanB sz bits l).length = sz := by simp [meanB, leB_length]
theorem rowB_length (sz : Nat) (bits : List Nat) (W H : Nat) (B : List UInt8) (y n : Nat) : (rowB sz bits W H B y n).length = n * sz := by
  induction n with
  | zero => simp [rowB]
  | succ n ih => rw [rowB_succ, List.length_append, ih, meanB_length, Nat.add_mul]; omega
theorem halfB_length (sz : Nat) (bits : List Nat) (W H : Nat) (B : List UInt8) (m : Nat) : (halfB sz bits W H B m).length = m * nextW W * sz := by
  induction m with
  | zero => simp [halfB]
  | succ n ih => rw [halfB_succ, List.length_append, ih, rowB_length, Nat.add_mul, Nat.add_mul, Nat.one_mul]
theorem pix_length {W H sz a b : Nat} {B : List UInt8} (hB : B.length = W * H * sz) (ha : a < W) (hb : b < H) : (pix W B sz a b).length = sz ∧ (b * W + a) * sz + sz ≤ B.length := by
  have h1 : b * W + a + 1 ≤ W * H := by
    have : (b + 1) * W ≤ H * W := Nat.mul_le_mul_right _ hb
    rw [Nat.add_mul, Nat.one_mul] at this
    rw [Nat.mul_comm W H]; omega
  have h2 : (b * W + a + 1) * sz ≤ W * H * sz := Nat.mul_le_mul_right _ h1
  rw [Nat.add_mul, Nat.one_mul] at h2
  refine ⟨?_, by omega⟩
  simp [pix]; omega
theorem two_side {w x : Nat} (h0 : 1 ≤ w) (hp : w = 1 ∨ w % 2 = 0) (hx : x < nextW w) : 2 * x + two w ≤ w := by
  unfold nextW at hx; unfold two; split <;> omega

/-- The next level's bytes: y rows, and x pixels of the row behind. -/
def partB (sz : Nat) (bits : List Nat) (W H : Nat) (B : List UInt8) (y x : Nat) : List UInt8 := halfB sz bits W H B y ++ rowB sz bits W H B y x
theorem partB_succ (sz : Nat) (bits : List Nat) (W H : Nat) (B : List UInt8) (y x : Nat) : partB sz bits W H B y (x + 1) = partB sz bits W H B y x ++ meanB sz bits (four W H B sz x y) := by
  rw [partB, rowB_succ, ← List.append_assoc]; rfl
theorem partB_end (sz : Nat) (bits : List Nat) (W H : Nat) (B : List UInt8) (y : Nat) : partB sz bits W H B y (nextW W) = partB sz bits W H B (y + 1) 0 := by
  rw [partB, ← halfB_succ, partB]; exact (List.append_nil _).symm
theorem partB_half (sz : Nat) (bits : List Nat) (W H : Nat) (B : List UInt8) (y : Nat) : partB sz bits W H B y 0 = halfB sz bits W H B y := List.append_nil _
theorem partB_length (sz : Nat) (bits : List Nat) (W H : Nat) (B : List UInt8) (y x : Nat) : (partB sz bits W H B y x).length = (y * nextW W + x) * sz := by
  rw [partB, List.length_append, halfB_length, rowB_length, Nat.add_mul]
/-- The numbers of the pixels under one: j rows, and i of the row behind. -/
def numsB (W : Nat) (B : List UInt8) (sz x y j i : Nat) : List Nat :=
  ((List.range j).flatMap fun j => (List.range (two W)).map fun i => num (pix W B sz (2 * x + i) (2 * y + j))) ++ (List.range i).map fun i => num (pix W B sz (2 * x + i) (2 * y + j))
theorem numsB_succ (W : Nat) (B : List UInt8) (sz x y j i : Nat) : numsB W B sz x y j (i + 1) = numsB W B sz x y j i ++ [num (pix W B sz (2 * x + i) (2 * y + j))] := by
  simp [numsB, List.range_succ]
theorem numsB_end (W : Nat) (B : List UInt8) (sz x y j : Nat) : numsB W B sz x y j (two W) = numsB W B sz x y (j + 1) 0 := by
  simp [numsB, List.range_succ, List.flatMap_append]
theorem numsB_len (W : Nat) (B : List UInt8) (sz x y j i : Nat) : (numsB W B sz x y j i).length = j * two W + i := by
  unfold numsB
  rw [List.length_append, List.length_map, List.length_range]
  congr 1
  induction j with
  | zero => simp
  | succ j ih => rw [List.range_succ, List.flatMap_append, List.length_append, ih]; simp [Nat.add_mul]
theorem numsB_four (W H : Nat) (B : List UInt8) (sz x y : Nat) : numsB W B sz x y (two H) 0 = (four W H B sz x y).map num := by
  simp only [numsB, four, List.range_zero, List.map_nil, List.append_nil, List.map_flatMap, List.map_map]
  rfl
theorem numsB_lt (W : Nat) (B : List UInt8) (sz x y j i : Nat) (hz : sz ≤ 4) : ∀ n ∈ numsB W B sz x y j i, n < 4294967296 := by
  have key : ∀ a b, num (pix W B sz a b) < 4294967296 := by
    intro a b
    refine Nat.lt_of_lt_of_le (num_lt _) ?_
    refine Nat.le_trans (Nat.pow_le_pow_right (by decide) (?_ : _ ≤ 4)) (by decide)
    simp [pix]; omega
  intro n hn
  unfold numsB at hn
  rcases List.mem_append.1 hn with h | h
  · obtain ⟨a, _, h⟩ := List.mem_flatMap.1 h
    obtain ⟨b, _, rfl⟩ := List.mem_map.1 h
    exact key _ _
  · obtain ⟨b, _, rfl⟩ := List.mem_map.1 h
    exact key _ _
theorem two_or (w : Nat) : (two w = 1 ∧ w = 1) ∨ (two w = 2 ∧ w ≠ 1) := by unfold two; split <;> simp_all
theorem bits_ok : ∀ f : Int, 1 ≤ f ∧ f ≤ 7 → (bitsOf f).sum = 8 * szOf f ∧ 1 ≤ szOf f ∧ szOf f ≤ 4 ∧ (∀ k ∈ bitsOf f, 1 ≤ k ∧ k ≤ 8) ∧ (bitsOf f).length ≤ 4 ∧ sizeI f = szOf f := by
  intro f hf
  have hsplit : f = 1 ∨ f = 2 ∨ f = 3 ∨ f = 4 ∨ f = 5 ∨ f = 6 ∨ f = 7 := by omega
  rcases hsplit with rfl | rfl | rfl | rfl | rfl | rfl | rfl <;> decide
theorem sum_take {l : List Nat} {i : Nat} (h : i < l.length) : (l.take (i + 1)).sum = (l.take i).sum + l[i] := by
  rw [List.take_succ_eq_append_getElem h, List.sum_append, List.sum_cons, List.sum_nil, Nat.add_zero]
theorem sum_take_le (l : List Nat) (i : Nat) : (l.take i).sum ≤ l.sum := by
  have := congrArg List.sum (List.take_append_drop i l)
  rw [List.sum_append] at this
  omega
theorem meanGo_snoc (ns : List Nat) (k : Nat) : ∀ (l : List Nat) (at_ m : Nat), meanGo ns (l ++ [k]) at_ m = meanGo ns l at_ m + chMean ns (at_ + l.sum) k * 2 ^ (at_ + l.sum)
  | [], at_, m => by simp [meanGo]
  | a :: l, at_, m => by simp only [List.cons_append, meanGo, meanGo_snoc ns k l, List.sum_cons, Nat.add_assoc]
theorem meanGo_lt (ns : List Nat) : ∀ (l : List Nat) (at_ m : Nat), m < 2 ^ at_ → meanGo ns l at_ m < 2 ^ (at_ + l.sum)
  | [], at_, m, h => by simpa [meanGo] using h
  | a :: l, at_, m, h => by
    simp only [meanGo, List.sum_cons, ← Nat.add_assoc]
    refine meanGo_lt ns l _ _ ?_
    have h1 := chMean_lt ns at_ a
    have h2 : (chMean ns at_ a + 1) * 2 ^ at_ ≤ 2 ^ a * 2 ^ at_ := Nat.mul_le_mul_right _ h1
    rw [← Nat.pow_add, Nat.add_mul, Nat.one_mul] at h2
    rw [Nat.add_comm at_ a]
    omega
def meanT (ns bits : List Nat) (i : Nat) : Nat := meanGo ns (bits.take i) 0 0
theorem meanT_succ (ns : List Nat) {bits : List Nat} {i : Nat} (h : i < bits.length) : meanT ns bits (i + 1) = meanT ns bits i + chMean ns (bits.take i).sum bits[i] * 2 ^ (bits.take i).sum := by
  rw [meanT, List.take_succ_eq_append_getElem h, meanGo_snoc, Nat.zero_add]; rfl
theorem meanT_lt (ns bits : List Nat) (i : Nat) : meanT ns bits i < 2 ^ (bits.take i).sum := by
  have := meanGo_lt ns (bits.take i) 0 0 (by decide)
  rwa [Nat.zero_add] at this
theorem meanT_end (ns bits : List Nat) : meanT ns bits bits.length = meanN bits ns := by rw [meanT, List.take_length]; rfl
theorem leB_succ (k m : Nat) : leB (k + 1) m = leB k m ++ [UInt8.ofNat (m / 256 ^ k)] := by simp [leB, List.range_succ]
theorem or_shift {m at_ q : Nat} (h : m < 2 ^ at_) : m ||| q * 2 ^ at_ = m + q * 2 ^ at_ := by
  rw [Nat.or_comm, nat_join at_ (q * 2 ^ at_) m (by simp) h, Nat.add_comm]
def u32s (l : List Nat) : List Value := l.map fun (n : Nat) => .int .u32 n
/-- The sum over the first t numbers, with half a number ahead. -/
def sumT (ns : List Nat) (at_ k t : Nat) : Nat := ns.length / 2 + ((ns.take t).map fun n => n / 2 ^ at_ % 2 ^ k).sum
theorem sumT_succ (ns : List Nat) (at_ k : Nat) {t : Nat} (h : t < ns.length) : sumT ns at_ k (t + 1) = sumT ns at_ k t + ns[t] / 2 ^ at_ % 2 ^ k := by
  rw [sumT, sumT, List.take_succ_eq_append_getElem h]
  simp only [List.map_append, List.map_cons, List.map_nil, List.sum_append, List.sum_cons, List.sum_nil]
  omega
theorem sumT_end (ns : List Nat) (at_ k : Nat) : sumT ns at_ k ns.length / ns.length = chMean ns at_ k := by
  rw [sumT, List.take_length, chMean, Nat.add_comm]
theorem sumT_le (ns : List Nat) (at_ k t : Nat) (ht : t ≤ ns.length) : sumT ns at_ k t ≤ ns.length + ns.length * 2 ^ k := by
  have := sum_le (ns.take t) at_ k
  rw [List.length_take, Nat.min_eq_left ht] at this
  have h2 : t * (2 ^ k - 1) ≤ ns.length * 2 ^ k := Nat.mul_le_mul ht (Nat.sub_le _ _)
  unfold sumT
  omega

/-- Powers of 2 up to 64. -/
def powB (n : Nat) : Bool := [1, 2, 4, 8, 16, 32, 64].contains n
theorem powB_even : ∀ n, n < 65 → powB n = true → n = 1 ∨ n % 2 = 0 := by decide
theorem powB_half : ∀ n, n < 65 → 1 < n → n % 2 = 0 → powB n = powB (n / 2) := by decide
theorem powB_end : ∀ n, n < 65 → 1 ≤ n → ¬ (1 < n ∧ n % 2 = 0) → decide (n = 1) = powB n := by decide
theorem powB_next : ∀ n, n < 65 → powB n = true → powB (nextW n) = true := by decide
theorem nextW_lt : ∀ n, n < 65 → 1 < n → nextW n < n ∧ 1 ≤ nextW n := by decide
theorem powB_and : ∀ n, n < 65 → 1 ≤ n → decide (n &&& (n - 1) = 0) = powB n := by decide
theorem four_four (W H : Nat) (B : List UInt8) (sz x y : Nat) : (List.range 4).filterMap (fun k => if k % 2 < two W ∧ k / 2 < two H then some (pix W B sz (2 * x + k % 2) (2 * y + k / 2)) else none) = four W H B sz x y := by
  unfold four two
  by_cases hW : W = 1 <;> by_cases hH : H = 1 <;> simp [hW, hH, List.range_succ, List.range_zero]
end Go.Proofs.Ytaaiimlaklpjpaa
