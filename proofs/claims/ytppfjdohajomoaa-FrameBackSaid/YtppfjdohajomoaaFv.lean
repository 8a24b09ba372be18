/- The law FrameSums. -/
import Derived.Test.YtppfjdohajomoaaFu
import Derived.Deep.RegionHeld3
import Derived.Deep.RegionWith
import Derived.Deep.DeepCutAuto
import Derived.Deep.CutBlock
namespace Go.Proofs.Ytppfjdohajomoaa
open Go.RowKit
set_option maxHeartbeats 2000000
set_option maxRecDepth 100000

theorem frameSums_any (A : Option Addr) (c : Nat) (ps : List Sb) (w : World) (hr : Rd w A (ps.map Sb.val)) (hl : ps.length ≤ 5864062014806) (hok : ∀ s ∈ ps, s.ok w) :
    Calls Try.prog 4 #[.slice A ps.length c] w fun e w' => e = .returned (.bool true) ∧ Below w.heap.size w w' := by
  have hsum : ∀ W, Below w.heap.size w W → Calls Try.prog 24 #[.slice A ps.length c] W fun e w' => e = .returned (.int .u32 (crcB (flat ps) : Nat)) ∧ Below W.heap.size W w' := fun W hW =>
    sum_any A c ps W (hr.below hW) hl fun s hs => Sb.ok_below (hok s hs) hW
  have hjoin : ∀ W, Below w.heap.size w W → Calls Try.prog 23 #[.slice A ps.length c] W fun e w' => ∃ A' c', e = .returned (.tuple #[.slice A' (joinL ps).length c', .bool (joinOk ps)]) ∧ Rd w' A' (byts (joinL ps)) ∧ Below W.heap.size W w' := fun W hW =>
    (joined_any A c ps W (hr.below hW) hl fun s hs => Sb.ok_below (hok s hs) hW).mono fun e w' h => by
      obtain ⟨A', c', he, ho, hb⟩ := h
      exact ⟨A', c', he, Rd.of_own ho, hb⟩
  by_cases hJ : joinOk ps = true
  · have hjl : (joinL ps).length ≤ 65536 := by
      unfold joinL; rw [if_pos hJ]
      simp only [joinOk, decide_eq_true_eq] at hJ
      rcases hJ with rfl | h
      · simp [flat]
      · exact h.2
    have href : ∀ (W : World) (A' : Option Addr) (c' : Nat), Rd W A' (byts (joinL ps)) → Calls Try.prog 25 #[.slice A' (joinL ps).length c'] W fun e w' => e = .returned (.int .u32 (crcB (flat ps) : Nat)) ∧ W = w' := fun W A' c' h => by
      have h1 := refSum_any A' c' (joinL ps) W h (by omega)
      have h2 : joinL ps = flat ps := by unfold joinL; rw [if_pos hJ]
      rw [h2, ← crc_eq] at h1
      rw [h2]
      exact h1
    rw [hJ] at hjoin
    generalize (joinL ps) = L at *
    generalize crcB (flat ps) = D at *
    clear hJ
    have hdd : ((D : Int) == (D : Int)) = true := by simp
    go_enter Try.func4, Try.ntmps4
    go_wp2_with (first
      | (go_at_call 22; refine (known_any _).mono ?_; rintro e w1 ⟨rfl, hb1⟩)
      | (go_at_call 23; refine (hjoin _ hb1).mono ?_; rintro e w2 ⟨A', c', rfl, hr2, hb2⟩; have hb12 : Below w.heap.size w w2 := hb1.trans (hb2.mono hb1.size))
      | (go_at_call 24; refine (hsum _ hb12).mono ?_; rintro e w3 ⟨rfl, hb3⟩)
      | (go_at_call 25; refine (href _ _ _ (hr2.below hb3)).mono ?_; rintro e w4 ⟨rfl, rfl⟩))
    go_ret
    exact ⟨rfl, hb12.trans (hb3.mono hb12.size)⟩
  · have hJ' : joinOk ps = false := by simpa using hJ
    rw [hJ'] at hjoin
    clear hJ hJ'
    generalize (joinL ps) = L at *
    go_enter Try.func4, Try.ntmps4
    go_wp2_with (first
      | (go_at_call 22; refine (known_any _).mono ?_; rintro e w1 ⟨rfl, hb1⟩)
      | (go_at_call 23; refine (hjoin _ hb1).mono ?_; rintro e w2 ⟨A', c', rfl, hr2, hb2⟩; have hb12 : Below w.heap.size w w2 := hb1.trans (hb2.mono hb1.size)))
    go_ret
    exact ⟨rfl, hb12⟩
end Go.Proofs.Ytppfjdohajomoaa
