/- The codec's small functions: lowest bytes, bytes as a number, room, sameness. -/
import Derived.Test.YtadgaphgomagkaaFc
import Derived.Deep.QuietTactic
import Derived.BigQuiet
namespace Go.Proofs.Ytadgaphgomagkaa
open Go.RowKit
set_option maxHeartbeats 1000000
set_option maxRecDepth 100000

theorem Low_any (A : Option Addr) (c v n base : Nat) (xs : List Value) (m : Nat) (w : World) (hown : w.ownsRow base 5 1 (.slice A m c) m xs) (hb : base ≤ w.heap.size)
    (hm : m + n ≤ 140737488355328) (hn : n ≤ 8) :
    Calls Try.prog 69 #[.slice A m c, .int .u64 v, .int .i64 n] w fun e w' => ∃ A' c', e = .returned (.slice A' (m + n) c') ∧
      w'.ownsRow base 5 1 (.slice A' (m + n) c') (m + n) (xs ++ byts (lowB v n)) ∧ Grew w w' (.slice A m c) (.slice A' (m + n) c') := by
  go_enter Try.func69, Try.ntmps69
  go_wp2
  go_loopw [0, 7] (fun b i wr => ∃ (k : Nat) (A' : Option Addr) (c' : Nat), k ≤ n ∧ i = .int .i64 k ∧ b = .slice A' (m + k) c' ∧
      wr.ownsRow base 5 1 (.slice A' (m + k) c') (m + k) (xs ++ byts (lowB v k)) ∧ Grew w wr (.slice A m c) (.slice A' (m + k) c')) (fun _ i _ => n - (intOf i).toNat)
  case atStart => exact ⟨0, A, c, by omega, rfl, rfl, by simpa [lowB, byts] using hown, Grew.refl _ _⟩
  case round =>
    obtain ⟨k, A', c', hk, rfl, rfl, ho, hg⟩ := hrel
    by_cases hlt : k < n
    · have hE : byt (UInt8.ofNat (v / 256 ^ k)) = .int .u8 ((v : Int) / 2 ^ (8 * k) % 256) := by
        have e : 256 ^ k = 2 ^ (8 * k) := by rw [Nat.pow_mul]
        simp [byt, e]
      have HE := Lib.hid hE
      clear hE
      go_wp2_with (first | (at_builtin; refine wpList_app _ rfl _ _ rfl slB base (.slice A' (m + k) c') _ _ rfl (ho.alloc _) _ _ _ _ rfl rfl (Rd.one _ _ _) (by simp [Value.oneCell']) (by unfold maxLen; omega) (by omega) (by have := hg.grown.size; simp; omega) ?_; intro A2 c2 w2 ho2 hg2))
      go_roundw
      case rel => exact ⟨k + 1, A2, c2, by omega, by go_num, rfl, by rw [lowB_succ, byts_append, ← List.append_assoc]; rw [show byts [UInt8.ofNat (v / 256 ^ k)] = [.int .u8 ((v : Int) / 2 ^ (8 * k) % 256)] from by rw [← HE.out]; rfl]; exact ho2, (hg.alloc _).trans hg2⟩
      case measure => simp [intOf]; omega
    · have hkn : k = n := by omega
      subst hkn
      go_wp2
      go_ret
      exact ⟨A', c', rfl, ho, hg⟩

/-- the room of a page -/
def roomN (n : Int) : Int := if n < 32 then 0 else if 65536 < n then 0 else n - 19
theorem or64_join (y b : Nat) (hy : y < 72057594037927936) (hb : b < 256) : bits .or .u64 ((y : Int) * 256) (b : Int) = ((b + 256 * y : Nat) : Int) := by
  have h := u64_or_nat (y * 256) b (by omega) (by omega)
  rw [nat_join 8 (y * 256) b (by simp) (by omega)] at h
  push_cast at h
  rw [h]
  push_cast
  omega

theorem leN_drop (l : List UInt8) (k : Nat) (hk : k < l.length) : leN (l.drop k) = l[k].toNat + 256 * leN (l.drop (k + 1)) := by
  rw [List.drop_eq_getElem_cons hk]
  rfl

theorem refLow_any (A : Option Addr) (c n : Nat) (l : List UInt8) (w : World) (hr : Rd w A (byts l)) (hn : n ≤ l.length) (hl : n ≤ 8) :
    Calls Try.prog 73 #[.slice A l.length c, .int .i64 n] w fun e w' => e = .returned (.int .u64 (leN (l.take n) : Nat)) ∧ w = w' := by
  have hT : (l.take n).length = n := by simp; omega
  go_enter Try.func73, Try.ntmps73
  have HT := Lib.hid hT
  clear hT
  go_wp2
  go_loop [5, 6] (fun a i => ∃ k : Nat, k ≤ n ∧ i = .int .i64 ((k : Int) - 1) ∧ a = .int .u64 (leN ((l.take n).drop k) : Nat)) (fun _ i => (intOf i + 1).toNat)
  case atStart => exact ⟨n, by omega, rfl, by simp [leN]⟩
  case round =>
    obtain ⟨k, hk, rfl, rfl⟩ := hrel
    have hd := leN_lt ((l.take n).drop k)
    rcases k with _ | k
    · rw [List.drop_zero]
      go_wp2
      go_ret
      exact ⟨rfl, rfl⟩
    · obtain ⟨ad, rfl, hb, hcell⟩ := hr.at_ (k := k) (by rw [byts_length]; omega)
      have hc1 : w.cell? (ad.add k) = some (.int .u8 (l[k].toNat : Int)) := by rw [hcell]; simp [byts, byt]
      have hb8 : l[k].toNat < 256 := l[k].toNat_lt
      have hs := leN_drop (l.take n) k (by have := HT.out; omega)
      rw [List.getElem_take] at hs
      have hy : leN ((l.take n).drop (k + 1)) < 72057594037927936 := by
        refine Nat.lt_of_lt_of_le hd ?_
        rw [List.length_drop, HT.out]
        exact Nat.le_trans (Nat.pow_le_pow_right (by omega) (show n - (k + 1) ≤ 7 by omega)) (by decide)
      have hj := or64_join _ _ hy hb8
      rw [← hs] at hj
      clear hs hd hcell
      generalize leN ((l.take n).drop (k + 1)) = y at *
      generalize l[k] = b at *
      have e1 : ((k + 1 : Nat) : Int) - 1 = (k : Int) := by omega
      rw [e1]
      go_wp2
      go_round
      case rel => exact ⟨k, by omega, rfl, rfl⟩
      case measure => simp [intOf]
end Go.Proofs.Ytadgaphgomagkaa
