/- The codec's small functions. -/
import Derived.Test.YtppfjdohajomoaaRows
import Derived.Test.YtppfjdohajomoaaWa
import Derived.Test.YtppfjdohajomoaaPa
namespace Go.Proofs.Ytppfjdohajomoaa
open Go.RowKit

theorem slB : SlT Try.prog 38 5 (.int .u8 0) 1 1 := ⟨Try.underlying38, by kernel_rfl, rfl, by decide⟩

set_option maxHeartbeats 400000 in
theorem low_any (A : Option Addr) (c v n base : Nat) (xs : List Value) (m : Nat) (w : World) (hown : w.ownsRow base 5 1 (.slice A m c) m xs) (hb : base ≤ w.heap.size) (hv : v < 18446744073709551616)
    (hm : m + n ≤ 140737488355328) :
    Calls Try.prog 70 #[.slice A m c, .int .u64 v, .int .i64 n] w fun e w' => ∃ A' c', e = .returned (.slice A' (m + n) c') ∧
      w'.ownsRow base 5 1 (.slice A' (m + n) c') (m + n) (xs ++ byts (lowB v n)) ∧ Grew w w' (.slice A m c) (.slice A' (m + n) c') := by
  go_enter Try.func70, Try.ntmps70
  go_wp2
  go_loopw [0, 1, 8] (fun b x i wr => ∃ (k : Nat) (A' : Option Addr) (c' : Nat), k ≤ n ∧ i = .int .i64 k ∧ x = .int .u64 (v / 256 ^ k : Nat) ∧ b = .slice A' (m + k) c' ∧
      wr.ownsRow base 5 1 (.slice A' (m + k) c') (m + k) (xs ++ byts (lowB v k)) ∧ Grew w wr (.slice A m c) (.slice A' (m + k) c')) (fun _ _ i _ => n - (intOf i).toNat)
  case atStart => exact ⟨0, A, c, by omega, rfl, by simp, rfl, by simpa [lowB, byts] using hown, Grew.refl _ _⟩
  case round =>
    obtain ⟨k, A', c', hk, rfl, rfl, rfl, ho, hg⟩ := hrel
    by_cases hlt : k < n
    · generalize hx : v / 256 ^ k = x at *
      have hxv : x < 18446744073709551616 := by rw [← hx]; exact Nat.lt_of_le_of_lt (Nat.div_le_self _ _) hv
      go_wp2_with (first | (at_builtin; refine wpList_app _ rfl _ _ rfl slB base (.slice A' (m + k) c') _ _ rfl (ho.alloc _) _ _ _ _ rfl rfl (Rd.one _ _ _) (by simp [Value.oneCell']) (by unfold maxLen; omega) (by omega) (by have := hg.grown.size; simp; omega) ?_; intro A2 c2 w2 ho2 hg2))
      go_roundw
      case rel => exact ⟨k + 1, A2, c2, by omega, by go_num, by rw [← hx, Nat.pow_succ, ← Nat.div_div_eq_div_mul]; rfl, rfl, by rw [lowB_succ, hx, byts_append, ← List.append_assoc]; simpa [byts, byt, Nat.add_assoc] using ho2, (hg.alloc _).trans hg2⟩
      case measure => simp [intOf]; omega
    · have hkn : k = n := by omega
      subst hkn
      go_wp2
      go_ret
      exact ⟨A', c', rfl, ho, hg⟩
end Go.Proofs.Ytppfjdohajomoaa
