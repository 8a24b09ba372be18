/- Plain: pages tell their heads and their bodies apart. -/
import Derived.Test.YtppfjdohajomoaaPb
namespace Go.Proofs.Ytppfjdohajomoaa

theorem lowB_inj {a b n : Nat} (ha : a < 256 ^ n) (hb : b < 256 ^ n) (h : lowB a n = lowB b n) : a = b := by
  induction n generalizing a b with
  | zero => simp at ha hb; omega
  | succ n ih =>
    rw [lowB_succ, lowB_succ] at h
    obtain ⟨h1, h2⟩ := List.append_inj h (by simp [lowB_length])
    have h3 : a % 256 ^ n = b % 256 ^ n := by
      refine ih (Nat.mod_lt _ (Nat.pow_pos (by omega))) (Nat.mod_lt _ (Nat.pow_pos (by omega))) ?_
      have key : ∀ v : Nat, lowB (v % 256 ^ n) n = lowB v n := fun v => by
        unfold lowB
        refine List.map_congr_left fun k hk => ?_
        have hk' : k < n := by simpa using hk
        apply UInt8.toNat_inj.1
        rw [UInt8.toNat_ofNat', UInt8.toNat_ofNat']
        have e : (256 : Nat) ^ n = 256 ^ k * 256 ^ (n - k) := by rw [← Nat.pow_add]; congr 1; omega
        rw [e, Nat.mod_mul_right_div_self]
        have e2 : (256 : Nat) ^ (n - k) = 2 ^ 8 * 256 ^ (n - k - 1) := by rw [show (2 : Nat) ^ 8 = 256 from rfl, ← Nat.pow_succ']; congr 1; omega
        rw [e2, Nat.mod_mul_right_mod]
      rw [key, key]
      exact h1
    have h4 : a / 256 ^ n = b / 256 ^ n := by
      have hp : 0 < 256 ^ n := Nat.pow_pos (by omega)
      have e1 : a / 256 ^ n < 256 := by rw [Nat.div_lt_iff_lt_mul hp, Nat.mul_comm, ← Nat.pow_succ]; exact ha
      have e2 : b / 256 ^ n < 256 := by rw [Nat.div_lt_iff_lt_mul hp, Nat.mul_comm, ← Nat.pow_succ]; exact hb
      have h5 := congrArg UInt8.toNat (List.singleton_inj.1 h2)
      rw [UInt8.toNat_ofNat', UInt8.toNat_ofNat', Nat.mod_eq_of_lt (by omega), Nat.mod_eq_of_lt (by omega)] at h5
      exact h5
    have h5 := Nat.div_add_mod a (256 ^ n)
    have h6 := Nat.div_add_mod b (256 ^ n)
    rw [h4, h3] at h5
    omega

theorem pageB_inj {s1 r1 h1 s2 r2 h2 n : Nat} {x1 x2 : List UInt8} (a1 : s1 < 256 ^ 8) (a2 : s2 < 256 ^ 8) (b1 : r1 < 256 ^ 4) (b2 : r2 < 256 ^ 4) (c1 : h1 < 256 ^ 1) (c2 : h2 < 256 ^ 1)
    (d1 : x1.length < 256 ^ 2) (d2 : x2.length < 256 ^ 2) (h : pageB s1 r1 h1 x1 n = pageB s2 r2 h2 x2 n) : s1 = s2 ∧ r1 = r2 ∧ h1 = h2 ∧ x1 = x2 := by
  unfold pageB pageT at h
  obtain ⟨_, h⟩ := List.append_inj h (by simp [lowB_length])
  simp only [List.append_assoc] at h
  obtain ⟨e1, h⟩ := List.append_inj h (by simp [lowB_length])
  obtain ⟨e2, h⟩ := List.append_inj h (by simp [lowB_length])
  obtain ⟨e3, h⟩ := List.append_inj h (by simp [lowB_length])
  obtain ⟨e4, h⟩ := List.append_inj h (by simp [lowB_length])
  have e5 := lowB_inj d1 d2 e4
  obtain ⟨e6, _⟩ := List.append_inj h e5
  exact ⟨lowB_inj a1 a2 e1, lowB_inj b1 b2 e2, lowB_inj c1 c2 e3, e6⟩
end Go.Proofs.Ytppfjdohajomoaa
