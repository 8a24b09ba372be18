/- slices.Grow, slices.Concat of bytes. -/
import Derived.Test.YtadgaphgomagkaaVa
namespace Go.Proofs.Ytadgaphgomagkaa
open Go.RowKit
set_option maxHeartbeats 2000000
set_option maxRecDepth 100000

theorem grow_any (n : Nat) (w : World) (hn : n ≤ 140737488355328) :
    Calls Try.prog 94 #[.slice none 0 0, .int .i64 (n : Nat)] w fun e w' => ∃ A' c', e = .returned (.slice A' 0 c') ∧ w'.ownsRow w.heap.size 5 1 (.slice A' 0 c') 0 [] ∧ Below w.heap.size w w' := by
  by_cases h0 : n = 0
  · subst h0
    go_enter Try.func94, Try.ntmps94
    go_wp2
    go_ret
    exact ⟨none, 0, rfl, World.ownsRow_nil _ _ _ _, Below.refl _ _⟩
  · have h1 : (0 : Int) < (n : Int) := by omega
    have hs : 0 ≤ n := by omega
    go_enter Try.func94, Try.ntmps94
    go_wp2_with (at_builtin; refine wpList_appz _ rfl _ _ rfl slB rfl rfl .i64 .i64 Try.underlying3 w.heap.size (.slice none 0 0) 0 [] rfl (World.ownsRow_nil _ _ _ _) n rfl (by unfold maxLen; omega) (by omega) (Nat.le_refl _) ?_; intro A2 c2 w2 ho2 hg2)
    go_ret
    refine ⟨A2, c2, rfl, ?_, hg2.fresh⟩
    have := own_take ho2 (m := 0) (by omega)
    simpa using this

theorem concat_any (A : Option Addr) (c : Nat) (ps : List Sb) (w : World) (hr : Rd w A (ps.map Sb.val)) (hl : ps.length ≤ 1000) (hok : ∀ s ∈ ps, s.ok w) (hf : (flat ps).length ≤ 140737488355328) :
    Calls Try.prog 51 #[.slice A ps.length c] w fun e w' => ∃ A' c', e = .returned (.slice A' (flat ps).length c') ∧ w'.ownsRow w.heap.size 5 1 (.slice A' (flat ps).length c') (flat ps).length (byts (flat ps)) ∧ Below w.heap.size w w' := by
  have hg := grow_any (flat ps).length w hf
  have hfl : ∀ k (hk : k < ps.length), (flat (ps.take k)).length + ps[k].l.length = (flat (ps.take (k + 1))).length ∧ (flat (ps.take (k + 1))).length ≤ (flat ps).length := by
    intro k hk
    have e1 := flat_take ps k hk
    have e2 : flat ps = flat (ps.take (k + 1)) ++ flat (ps.drop (k + 1)) := by unfold flat; rw [← List.flatMap_append, List.take_append_drop]
    refine ⟨by rw [e1, List.length_append], by rw [e2, List.length_append]; omega⟩
  go_enter Try.func51, Try.ntmps51
  go_wp2
  go_loop [3, 11] (fun a i => ∃ k : Nat, k ≤ ps.length ∧ i = .int .i64 k ∧ a = .int .i64 ((flat (ps.take k)).length : Nat)) (fun _ i => ps.length - (intOf i).toNat)
  case atStart => exact ⟨0, by omega, rfl, rfl⟩
  case round =>
    obtain ⟨k, hk, rfl, rfl⟩ := hrel
    by_cases hlt : k < ps.length
    · obtain ⟨ad, rfl, hb, hcell⟩ := hr.at_ (k := k) (by simpa using hlt)
      have hc1 : w.cell? (ad.add k) = some (ps[k]).val := by rw [hcell]; simp
      obtain ⟨f1, f2⟩ := hfl k hlt
      generalize ps[k] = p at *
      obtain ⟨Ap, cp, lp⟩ := p
      simp only [Sb.val] at *
      have r1 : (k : Int) < (ps.length : Int) := by omega
      generalize (flat (ps.take k)).length = y at *
      generalize hy2 : (flat (ps.take (k + 1))).length = y2 at *
      have r2 : ¬ (y : Int) + (lp.length : Int) < 0 := by omega
      clear hcell hg hfl hr hok
      go_wp2
      refine ⟨⟨k + 1, by omega, by go_num, ?_⟩, by simp only [intOf]; omega⟩
      rw [hy2, ← f1]
      go_num
    · obtain rfl : k = ps.length := by omega
      have r1 : ¬ (ps.length : Int) < (ps.length : Int) := by omega
      rw [List.take_length]
      go_wp2_with fail
      refine hg.mono ?_
      rintro e w1 ⟨A1, c1, rfl, ho1, hb1⟩
      clear hg
      go_wp2_with fail
      go_loopg [6, 27] ps.length (fun m s6 s27 wr => ∃ (k : Nat) (A' : Option Addr) (c' : Nat), m = ps.length - k ∧ k ≤ ps.length ∧ s27 = .int .i64 (k : Nat) ∧ s6 = .slice A' (flat (ps.take k)).length c' ∧ wr.ownsRow w.heap.size 5 1 (.slice A' (flat (ps.take k)).length c') (flat (ps.take k)).length (byts (flat (ps.take k))) ∧ Below w.heap.size w wr)
      case atStart => exact ⟨0, A1, c1, rfl, by omega, rfl, rfl, ho1, hb1⟩
      case round =>
        clear ho1 hb1
        obtain ⟨k, A', c', rfl, hk, rfl, rfl, ho, hb⟩ := hrel
        by_cases hlt : k < ps.length
        · obtain ⟨ad, rfl, hbl, hcell⟩ := (hr.below hb).at_ (k := k) (by simpa using hlt)
          have hc1 : wr.cell? (ad.add k) = some (ps[k]).val := by rw [hcell]; simp
          obtain ⟨f1, f2⟩ := hfl k hlt
          have hft := flat_take ps k hlt
          obtain ⟨hp1, hp2, hp3⟩ := Sb.ok_below (hok _ (List.getElem_mem hlt)) hb
          generalize ps[k] = p at *
          obtain ⟨Ap, cp, lp⟩ := p
          simp only [Sb.val] at *
          have r1 : (k : Int) < (ps.length : Int) := by omega
          have HY := Lib.hid hft
          generalize flat (ps.take k) = y at *
          generalize hy2 : flat (ps.take (k + 1)) = y2 at *
          have HY2 := Lib.hid hy2
          clear hy2
          clear hcell hft hfl
          have hsz := hb.size
          have HBL := Lib.hid (byts_length lp)
          go_wp2_with (at_builtin; refine wpList_app _ rfl _ _ rfl slB w.heap.size (.slice A' y.length c') y.length (byts y) rfl ho Ap lp.length cp (byts lp) rfl (by rw [HBL.out, Nat.mul_one]) hp1 (byts_one lp) (by unfold maxLen; omega) (by omega) hsz ?_; intro A4 c4 w4 ho4 hg4)
          go_roundg (ps.length - (k + 1))
          case measure => omega
          case rel =>
            refine ⟨k + 1, A4, c4, rfl, by omega, by go_num, by rw [HY2.out], ?_, hg4.under ho (Nat.le_refl _) hsz |> fun h => hb.trans h⟩
            rw [HY2.out, HY.out, byts_append, List.length_append]
            exact ho4
        · obtain rfl : k = ps.length := by omega
          rw [List.take_length] at ho ⊢
          go_wp2_with fail
          go_ret
          exact ⟨A', c', rfl, ho, hb⟩
end Go.Proofs.Ytadgaphgomagkaa
