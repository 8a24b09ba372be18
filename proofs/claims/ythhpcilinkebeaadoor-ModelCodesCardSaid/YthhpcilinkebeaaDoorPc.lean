/- Plain: numbers are read as they were written; how they grow. -/
import Derived.Test.YthhpcilinkebeaaDoorPa
namespace Go.Proofs.YthhpcilinkebeaaDoor

theorem ofNat_toNat {v : Nat} (h : v < 256) : (UInt8.ofNat v).toNat = v := by rw [UInt8.toNat_ofNat', Nat.mod_eq_of_lt (by omega)]

theorem rdF_numF : ∀ (f v i acc : Nat) (r : List UInt8), i + f = 9 → v < 2 ^ (64 - 7 * i) → (v ≠ 0 ∨ i = 0) → rdF i acc (numF f v ++ r) = (acc + v * 2 ^ (7 * i), i + (numF f v).length, 0)
  | 0, v, i, acc, r, hi, hv, h0 => by
    obtain rfl : i = 9 := by omega
    have hv2 : v < 2 := by simpa using hv
    have hv1 : v = 1 := by omega
    subst hv1
    simp [numF, rdF]
  | f + 1, v, i, acc, r, hi, hv, h0 => by
    unfold numF
    by_cases hs : v < 128
    · rw [if_pos hs]
      simp only [List.singleton_append, rdF, ofNat_toNat (show v < 256 by omega), List.length_singleton]
      rw [if_neg (by omega), if_pos hs, if_neg (by omega), Nat.mod_eq_of_lt hs]
    · rw [if_neg hs]
      have hb : v % 128 + 128 < 256 := by have := Nat.mod_lt v (show 128 > 0 by omega); omega
      simp only [List.cons_append, rdF, ofNat_toNat hb, List.length_cons]
      rw [if_neg (by omega), if_neg (by omega), Nat.add_mod_right, Nat.mod_mod]
      have hq : v / 128 < 2 ^ (64 - 7 * (i + 1)) := by
        rw [Nat.div_lt_iff_lt_mul (by omega)]
        refine Nat.lt_of_lt_of_le hv ?_
        rw [show (128 : Nat) = 2 ^ 7 from rfl, ← Nat.pow_add]
        exact Nat.pow_le_pow_right (by omega) (by omega)
      rw [rdF_numF f (v / 128) (i + 1) _ r (by omega) hq (Or.inl (by omega))]
      have hp : 2 ^ (7 * (i + 1)) = 128 * 2 ^ (7 * i) := by rw [show 7 * (i + 1) = 7 + 7 * i by omega, Nat.pow_add]
      have hdm := Nat.div_add_mod v 128
      congr 1
      · rw [hp]
        conv => rhs; rw [← hdm]
        rw [Nat.add_mul, ← Nat.mul_assoc, Nat.mul_comm (v / 128) 128]
        omega
      · congr 1; omega

theorem rdNum_numB (v : Nat) (hv : v < 18446744073709551616) (r : List UInt8) : rdNum (numB v ++ r) = (v, (numB v).length, 0) := by
  have := rdF_numF 9 v 0 0 r (by omega) (by simpa using hv) (Or.inr rfl)
  simpa [rdNum, numB] using this

theorem numF_mono : ∀ (f n m : Nat), n ≤ m → (numF f n).length ≤ (numF f m).length
  | 0, _, _, _ => by simp [numF]
  | f + 1, n, m, h => by
    unfold numF
    by_cases hn : n < 128 <;> by_cases hm : m < 128
    · simp [hn, hm]
    · simp [hn, hm]
    · omega
    · simp only [if_neg hn, if_neg hm, List.length_cons]
      have := numF_mono f (n / 128) (m / 128) (Nat.div_le_div_right h)
      omega
theorem numF_pos1 (f v : Nat) : 1 ≤ (numF f v).length := by cases f <;> unfold numF <;> (try split) <;> simp
theorem numF_le10 : ∀ (f v : Nat), (numF f v).length ≤ f + 1
  | 0, _ => by simp [numF]
  | f + 1, v => by
    unfold numF
    split
    · simp
    · have := numF_le10 f (v / 128); simp; omega
theorem numB_take (n m : Nat) (hn : n < 18446744073709551616) (hm : m < 18446744073709551616) (h : numB n = (numB m).take (numB n).length) : n = m := by
  have h1 : numB m = numB n ++ (numB m).drop (numB n).length := by
    conv => lhs; rw [← List.take_append_drop (numB n).length (numB m), ← h]
  have h2 := rdNum_numB n hn ((numB m).drop (numB n).length)
  rw [← h1] at h2
  have h3 := rdNum_numB m hm []
  rw [List.append_nil, h2] at h3
  injection h3
end Go.Proofs.YthhpcilinkebeaaDoor
