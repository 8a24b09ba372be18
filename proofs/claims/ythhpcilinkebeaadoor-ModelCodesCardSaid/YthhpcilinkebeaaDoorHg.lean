/- The abstract array: do blocks lie within a volume? -/
import Derived.Test.YthhpcilinkebeaaDoorHf
namespace Go.Proofs.YthhpcilinkebeaaDoor
open Go.RowKit Go.Maps
set_option maxHeartbeats 4000000
set_option maxRecDepth 100000

theorem within_any (V size : Nat) (s b : Value) (at_ n : Int) (w : World) (h : Blk w V 95 #[.int .i64 (size : Nat), s, b]) (hs : size ≤ 1048576) (ha : I64 at_) {R : Nat} (hR : withinV size at_ n = R) :
    Calls Tryd.prog 53 #[.pointer (some ⟨V, 0, none⟩), .int .i64 at_, .int .i64 n] w fun e w' => e = .returned (.int .i64 (R : Nat)) ∧ w' = w := by
  have c0 := h.cell 0
  obtain ⟨ha1, ha2⟩ := ha
  have key : ∃ t, (t = decide (at_ < 0 ∨ n < 1 ∨ (size : Int) < at_ ∨ (size : Int) - at_ < n)) ∧ R = whenV t 1 := ⟨_, rfl, hR.symm⟩
  obtain ⟨t, ht, rfl⟩ := key
  have hw := when_any t 1 w
  rcases (show at_ < 0 ∨ (¬ at_ < 0 ∧ n < 1) ∨ (¬ at_ < 0 ∧ ¬ n < 1 ∧ (size : Int) < at_) ∨ (¬ at_ < 0 ∧ ¬ n < 1 ∧ ¬ (size : Int) < at_) by omega) with h1 | ⟨h1, h2⟩ | ⟨h1, h2, h3⟩ | ⟨h1, h2, h3⟩
  · have : t = true := by rw [ht]; simp [h1]
    subst this
    clear ht hR
    go_enter Tryd.func53, Tryd.ntmps53
    go_wp2_with fail
    refine hw.mono ?_
    rintro e w2 ⟨rfl, rfl⟩
    go_wp2_with fail
    go_ret
    exact ⟨rfl, rfl⟩
  · have : t = true := by rw [ht]; simp [h2]
    subst this
    clear ht hR
    go_enter Tryd.func53, Tryd.ntmps53
    go_wp2_with fail
    refine hw.mono ?_
    rintro e w2 ⟨rfl, rfl⟩
    go_wp2_with fail
    go_ret
    exact ⟨rfl, rfl⟩
  · have : t = true := by rw [ht]; simp [h3]
    subst this
    clear ht hR
    go_enter Tryd.func53, Tryd.ntmps53
    go_wp2_with fail
    refine hw.mono ?_
    rintro e w2 ⟨rfl, rfl⟩
    go_wp2_with fail
    go_ret
    exact ⟨rfl, rfl⟩
  · obtain ⟨d, hd⟩ : ∃ d, (size : Int) - at_ = d := ⟨_, rfl⟩
    have kw : IntKind.i64.wrap ((size : Int) - at_) = d := by rw [IntWalk.i64_in _ (by omega)]; omega
    have ht2 : t = decide (d < n) := by rw [ht, hd]; simp [h1, h2, h3]
    have HD := Lib.hid hd
    clear hd ht hR
    by_cases h4 : d < n
    · have : t = true := by rw [ht2]; simp [h4]
      subst this
      clear ht2
      go_enter Tryd.func53, Tryd.ntmps53
      go_wp2_with fail
      refine hw.mono ?_
      rintro e w2 ⟨rfl, rfl⟩
      go_wp2_with fail
      go_ret
      exact ⟨rfl, rfl⟩
    · have : t = false := by rw [ht2]; simp [h4]
      subst this
      clear ht2
      go_enter Tryd.func53, Tryd.ntmps53
      go_wp2_with fail
      refine hw.mono ?_
      rintro e w2 ⟨rfl, rfl⟩
      go_wp2_with fail
      go_ret
      exact ⟨rfl, rfl⟩
end Go.Proofs.YthhpcilinkebeaaDoor
