/- Plain words of the codec: numbers as bytes, checksums. No program in sight. -/
namespace Go.Proofs.YthhpcilinkebeaaDoor

/-- the n lowest bytes of v, the lowest first -/
def lowB (v n : Nat) : List UInt8 := (List.range n).map fun k => UInt8.ofNat (v / 256 ^ k)
theorem lowB_length (v n : Nat) : (lowB v n).length = n := by simp [lowB]
theorem lowB_succ (v n : Nat) : lowB v (n + 1) = lowB v n ++ [UInt8.ofNat (v / 256 ^ n)] := by simp [lowB, List.range_succ]

/-- a number in its shortest form -/
def numF : Nat → Nat → List UInt8
  | 0, v => [UInt8.ofNat v]
  | k + 1, v => if v < 128 then [UInt8.ofNat v] else UInt8.ofNat (v % 128 + 128) :: numF k (v / 128)
def numB (v : Nat) : List UInt8 := numF 9 v

/-- the first m bytes of a number that has more -/
def numP (v m : Nat) : List UInt8 := (List.range m).map fun k => UInt8.ofNat (v / 128 ^ k % 128 + 128)
theorem numP_length (v m : Nat) : (numP v m).length = m := by simp [numP]
theorem numP_succ (v m : Nat) : numP v (m + 1) = numP v m ++ [UInt8.ofNat (v / 128 ^ m % 128 + 128)] := by simp [numP, List.range_succ]
theorem numF_walk : ∀ (f v m : Nat), m ≤ f → (∀ k, k < m → 128 ≤ v / 128 ^ k) → v / 128 ^ m < 128 → numF f v = numP v m ++ [UInt8.ofNat (v / 128 ^ m)]
  | 0, v, m, hm, _, _ => by
    obtain rfl : m = 0 := by omega
    simp [numF, numP]
  | f + 1, v, 0, _, _, h => by
    have h' : v < 128 := by simpa using h
    simp [numF, numP, h']
  | f + 1, v, m + 1, hm, hk, h => by
    have h0 : ¬ v < 128 := by have := hk 0 (by omega); simp at this; omega
    have e : ∀ k, v / 128 ^ (k + 1) = v / 128 / 128 ^ k := fun k => by rw [Nat.pow_succ, Nat.mul_comm, Nat.div_div_eq_div_mul]
    have ih := numF_walk f (v / 128) m (by omega) (fun k hk' => by rw [← e]; exact hk (k + 1) (by omega)) (by rw [← e]; exact h)
    simp only [numF, if_neg h0, ih, e]
    have e2 : numP v (m + 1) = UInt8.ofNat (v % 128 + 128) :: numP (v / 128) m := by
      simp only [numP, List.range_succ_eq_map, List.map_cons, List.map_map]
      congr 1
      · simp
      · apply List.map_congr_left
        intro k _
        simp only [Function.comp, e]
    rw [e2]
    rfl
theorem numB_walk (v m : Nat) (hv : v < 18446744073709551616) (hk : ∀ k, k < m → 128 ≤ v / 128 ^ k) (h : v / 128 ^ m < 128) : numB v = numP v m ++ [UInt8.ofNat (v / 128 ^ m)] := by
  refine numF_walk 9 v m ?_ hk h
  rcases Nat.lt_or_ge 9 m with h9 | h9
  · have := hk 9 h9
    have h2 : v / 128 ^ 9 ≤ 18446744073709551615 / 128 ^ 9 := Nat.div_le_div_right (by omega)
    simp at h2 this
    omega
  · exact h9
theorem num_le9 {v m : Nat} (hv : v < 18446744073709551616) (h : 128 ≤ v / 128 ^ m) : m < 9 := by
  rcases Nat.lt_or_ge m 9 with h9 | h9
  · exact h9
  · have h1 : v / 128 ^ m ≤ v / 128 ^ 9 := Nat.div_le_div_left (Nat.pow_le_pow_right (by omega) h9) (by decide)
    have h2 : v / 128 ^ 9 ≤ 18446744073709551615 / 128 ^ 9 := Nat.div_le_div_right (by omega)
    simp at h2
    omega
theorem numF_length : ∀ f v, (numF f v).length ≤ f + 1 ∧ 1 ≤ (numF f v).length
  | 0, v => by simp [numF]
  | f + 1, v => by
    have := numF_length f (v / 128)
    unfold numF
    split
    · simp
    · simp only [List.length_cons]; omega
theorem or128 (y : Nat) (h : y < 256) : y ||| 128 = y % 128 + 128 := by
  have : ∀ y : Fin 256, y.val ||| 128 = y.val % 128 + 128 := by decide +kernel
  exact this ⟨y, h⟩

/-- bytes as a number, the lowest first -/
def leN : List UInt8 → Nat
  | [] => 0
  | b :: l => b.toNat + 256 * leN l
theorem leN_lt : ∀ l : List UInt8, leN l < 256 ^ l.length
  | [] => by simp [leN]
  | b :: l => by
    have h := leN_lt l
    have hb := b.toNat_lt
    simp only [leN, List.length_cons, Nat.pow_succ]
    omega

/-- one bit of the remainder -/
def bit1 (c : Nat) : Nat := if c % 2 = 1 then (c / 2) ^^^ 2197175160 else c / 2
def bitN : Nat → Nat → Nat
  | 0, c => c
  | n + 1, c => bit1 (bitN n c)
def tabT (i : Nat) : Nat := bitN 4 i
def nib (c : Nat) : Nat := (c / 16) ^^^ tabT (c % 16)
def crcStep (c : Nat) (b : UInt8) : Nat := nib (nib (c ^^^ b.toNat))
def refStep (c : Nat) (b : UInt8) : Nat := bitN 8 (c ^^^ b.toNat)
def crcB (l : List UInt8) : Nat := (l.foldl crcStep 4294967295) ^^^ 4294967295
def refB (l : List UInt8) : Nat := (l.foldl refStep 4294967295) ^^^ 4294967295

theorem bit1_lt {c : Nat} (h : c < 4294967296) : bit1 c < 4294967296 := by
  unfold bit1
  split
  · exact Nat.xor_lt_two_pow (n := 32) (by omega) (by omega)
  · omega
theorem bitN_lt (n : Nat) {c : Nat} (h : c < 4294967296) : bitN n c < 4294967296 := by
  induction n with
  | zero => exact h
  | succ n ih => exact bit1_lt ih
theorem nib_lt {c : Nat} (h : c < 4294967296) : nib c < 4294967296 :=
  Nat.xor_lt_two_pow (n := 32) (by omega) (bitN_lt 4 (by omega))
theorem xorb_lt {c : Nat} (h : c < 4294967296) (b : UInt8) : c ^^^ b.toNat < 4294967296 :=
  Nat.xor_lt_two_pow (n := 32) (by omega) (by have := b.toNat_lt; omega)
theorem crcStep_lt {c : Nat} (h : c < 4294967296) (b : UInt8) : crcStep c b < 4294967296 := nib_lt (nib_lt (xorb_lt h b))
theorem refStep_lt {c : Nat} (h : c < 4294967296) (b : UInt8) : refStep c b < 4294967296 := bitN_lt 8 (xorb_lt h b)
theorem crcFold_lt : ∀ (l : List UInt8) {c : Nat}, c < 4294967296 → l.foldl crcStep c < 4294967296
  | [], _, h => h
  | b :: l, _, h => crcFold_lt l (crcStep_lt h b)
theorem refFold_lt : ∀ (l : List UInt8) {c : Nat}, c < 4294967296 → l.foldl refStep c < 4294967296
  | [], _, h => h
  | b :: l, _, h => refFold_lt l (refStep_lt h b)
theorem crcB_lt (l : List UInt8) : crcB l < 4294967296 := Nat.xor_lt_two_pow (n := 32) (crcFold_lt l (by omega)) (by omega)
theorem refB_lt (l : List UInt8) : refB l < 4294967296 := Nat.xor_lt_two_pow (n := 32) (refFold_lt l (by omega)) (by omega)

theorem xor_div2 (x y : Nat) : (x ^^^ y) / 2 = (x / 2) ^^^ (y / 2) := by
  apply Nat.eq_of_testBit_eq
  intro i
  simp [Nat.testBit_div_two, Nat.testBit_xor]
theorem xor_mod2 (x y : Nat) : (x ^^^ y) % 2 = (x % 2 + y % 2) % 2 := by
  have h := Nat.testBit_xor x y 0
  simp only [Nat.testBit_zero] at h
  rcases Nat.mod_two_eq_zero_or_one x with hx | hx <;> rcases Nat.mod_two_eq_zero_or_one y with hy | hy <;> rcases Nat.mod_two_eq_zero_or_one (x ^^^ y) with hz | hz <;> simp_all
theorem xor3 (a b p : Nat) : (a ^^^ p) ^^^ (b ^^^ p) = a ^^^ b := by
  apply Nat.eq_of_testBit_eq
  intro i
  simp only [Nat.testBit_xor]
  cases a.testBit i <;> cases b.testBit i <;> cases p.testBit i <;> rfl
theorem bit1_xor (x y : Nat) : bit1 (x ^^^ y) = bit1 x ^^^ bit1 y := by
  unfold bit1
  rw [xor_div2]
  have hm := xor_mod2 x y
  rcases Nat.mod_two_eq_zero_or_one x with hx | hx <;> rcases Nat.mod_two_eq_zero_or_one y with hy | hy <;> rw [hx, hy] at hm <;> simp only [hx, hy, hm, Nat.zero_add, Nat.reduceAdd, Nat.reduceMod, if_true, reduceIte, Nat.zero_ne_one]
  · rw [Nat.xor_assoc]
  · rw [Nat.xor_assoc, Nat.xor_assoc, Nat.xor_comm (y / 2)]
  · exact (xor3 _ _ _).symm
theorem bitN_xor (n x y : Nat) : bitN n (x ^^^ y) = bitN n x ^^^ bitN n y := by
  induction n with
  | zero => rfl
  | succ n ih => simp only [bitN, ih, bit1_xor]
theorem bit1_two (q : Nat) : bit1 (2 * q) = q := by simp [bit1]
theorem bitN4_16 (q : Nat) : bitN 4 (16 * q) = q := by
  have e : 16 * q = 2 * (2 * (2 * (2 * q))) := by omega
  rw [e]
  simp only [bitN, bit1_two]
theorem split16 (c : Nat) : c = (16 * (c / 16)) ^^^ (c % 16) := by
  apply Nat.eq_of_testBit_eq
  intro i
  rw [Nat.testBit_xor, show (16 : Nat) = 2 ^ 4 from rfl, Nat.testBit_two_pow_mul, Nat.testBit_mod_two_pow, Nat.testBit_div_two_pow]
  by_cases h : i < 4
  · simp [h, show ¬ 4 ≤ i by omega]
  · simp [h, show 4 ≤ i by omega]
theorem nib_eq (c : Nat) : nib c = bitN 4 c := by
  conv => rhs; rw [split16 c, bitN_xor, bitN4_16]
  rfl
theorem bitN_add (n m c : Nat) : bitN (n + m) c = bitN n (bitN m c) := by
  induction n with
  | zero => simp [bitN]
  | succ n ih => rw [Nat.succ_add]; simp only [bitN, ih]
theorem step_eq (c : Nat) (b : UInt8) : crcStep c b = refStep c b := by
  unfold crcStep refStep
  rw [nib_eq, nib_eq, ← bitN_add]
theorem crc_eq (l : List UInt8) : crcB l = refB l := by
  unfold crcB refB
  rw [show crcStep = refStep from funext fun c => funext fun b => step_eq c b]


/-- a number at the front: its value, its length, the error -/
def rdF (i v : Nat) : List UInt8 → Nat × Nat × Nat
  | [] => (0, 0, 21)
  | c :: l => if i = 9 ∧ 1 < c.toNat then (0, 0, 22) else
    if c.toNat < 128 then (if c.toNat = 0 ∧ 0 < i then (0, 0, 22) else (v + c.toNat % 128 * 2 ^ (7 * i), i + 1, 0)) else rdF (i + 1) (v + c.toNat % 128 * 2 ^ (7 * i)) l
def rdNum (l : List UInt8) : Nat × Nat × Nat := rdF 0 0 l
theorem and127 (y : Nat) (h : y < 256) : y &&& 127 = y % 128 := by
  have : ∀ y : Fin 256, y.val &&& 127 = y.val % 128 := by decide +kernel
  exact this ⟨y, h⟩
theorem rdF_step (i v : Nat) (c : UInt8) (hv : v < 2 ^ (7 * i)) : v + c.toNat % 128 * 2 ^ (7 * i) < 2 ^ (7 * (i + 1)) := by
  have h1 : c.toNat % 128 ≤ 127 := by have := Nat.mod_lt c.toNat (show 128 > 0 by omega); omega
  have h2 : 2 ^ (7 * (i + 1)) = 128 * 2 ^ (7 * i) := by rw [Nat.mul_add, Nat.pow_add]; omega
  have h3 : c.toNat % 128 * 2 ^ (7 * i) ≤ 127 * 2 ^ (7 * i) := Nat.mul_le_mul_right _ h1
  omega

theorem rdF_ok : ∀ (l : List UInt8) (i v : Nat), i ≤ 9 → v < 2 ^ (7 * i) → (rdF i v l).2.2 = 0 → i < (rdF i v l).2.1 ∧ (rdF i v l).2.1 ≤ i + l.length ∧ (rdF i v l).2.1 ≤ 10 ∧ (rdF i v l).1 < 18446744073709551616
  | [], i, v, _, _, h => by simp [rdF] at h
  | c :: l, i, v, hi, hv, h => by
    have hc := c.toNat_lt
    unfold rdF at h ⊢
    by_cases h1 : i = 9 ∧ 1 < c.toNat
    · simp [h1] at h
    · rw [if_neg h1] at h ⊢
      have hst := rdF_step i v c hv
      by_cases h2 : c.toNat < 128
      · rw [if_pos h2] at h ⊢
        by_cases h3 : c.toNat = 0 ∧ 0 < i
        · simp [h3] at h
        · rw [if_neg h3]
          refine ⟨by show i < i + 1; omega, by show i + 1 ≤ i + (l.length + 1); omega, by show i + 1 ≤ 10; omega, ?_⟩
          show v + c.toNat % 128 * 2 ^ (7 * i) < _
          by_cases h9 : i = 9
          · subst h9
            have : c.toNat % 128 ≤ 1 := Nat.le_trans (Nat.mod_le _ _) (by omega)
            simp only [Nat.reduceMul, Nat.reducePow] at hv ⊢
            omega
          · have h63 : 2 ^ (7 * (i + 1)) ≤ 2 ^ 63 := Nat.pow_le_pow_right (by omega) (by omega)
            simp only [Nat.reducePow] at h63
            omega
      · rw [if_neg h2] at h ⊢
        have h9 : i < 9 := by omega
        have ih := rdF_ok l (i + 1) _ (by omega) hst h
        simp only [List.length_cons]
        omega
theorem rdNum_ok {l : List UInt8} (h : (rdNum l).2.2 = 0) : 0 < (rdNum l).2.1 ∧ (rdNum l).2.1 ≤ l.length ∧ (rdNum l).2.1 ≤ 10 ∧ (rdNum l).1 < 18446744073709551616 := by
  have := rdF_ok l 0 0 (by omega) (by simp) h
  simp only [Nat.zero_add] at this
  exact this
theorem rdF_err : ∀ (l : List UInt8) (i v : Nat), (rdF i v l).2.2 = 0 ∨ (rdF i v l).2.2 = 21 ∨ (rdF i v l).2.2 = 22
  | [], i, v => by simp [rdF]
  | c :: l, i, v => by
    unfold rdF
    split
    · simp
    · split
      · split <;> simp
      · exact rdF_err l _ _

/-- bytes with their length ahead: what stands there, where it ends, the error -/
def rdBytes (most : Int) (l : List UInt8) : List UInt8 × Nat × Nat :=
  if (rdNum l).2.2 ≠ 0 then ([], 0, (rdNum l).2.2)
  else if max most 0 < ((rdNum l).1 : Int) then ([], 0, 3)
  else if l.length - (rdNum l).2.1 < (rdNum l).1 then ([], 0, 21)
  else ((l.drop (rdNum l).2.1).take (rdNum l).1, (rdNum l).2.1 + (rdNum l).1, 0)

end Go.Proofs.YthhpcilinkebeaaDoor
