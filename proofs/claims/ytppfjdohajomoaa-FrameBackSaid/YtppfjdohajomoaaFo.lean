/- Records are read: all ways. -/
import Derived.Test.YtppfjdohajomoaaFn
namespace Go.Proofs.Ytppfjdohajomoaa
open Go.RowKit
set_option maxHeartbeats 1000000
set_option maxRecDepth 100000

theorem readRecord_any (A : Option Addr) (c : Nat) (l : List UInt8) (w : World) (hr : Rd w A (byts l)) (hl : l.length ≤ 140737488351232) (hlc : l.length ≤ c) :
    Calls Try.prog 54 #[.slice A l.length c] w (RecPost w (rdRec l)) := by
  have hnum := readNumber_any A c l w hr hl
  have hok := @rdNum_ok l
  have herr := rdF_err l 0 0
  generalize hR : rdRec l = R
  have HR := Lib.hid hR
  clear hR
  change Hid ((if (rdNum l).2.2 ≠ 0 then (0, [], 0, (rdNum l).2.2) else if 16777216 < (rdNum l).1 then (0, [], 0, 3) else if l.length < (rdNum l).2.1 + (rdNum l).1 + 12 then (0, [], 0, 21)
    else if leN (cutB l (rdNum l).2.1 4) ≠ crcB (cutB l ((rdNum l).2.1 + 4) (8 + (rdNum l).1)) then (0, [], 0, 23)
    else (leN (cutB l ((rdNum l).2.1 + 4) 8), cutB l ((rdNum l).2.1 + 12) (rdNum l).1, (rdNum l).2.1 + 12 + (rdNum l).1, 0)) = R) at HR
  change (rdNum l).2.2 = 0 ∨ (rdNum l).2.2 = 21 ∨ (rdNum l).2.2 = 22 at herr
  generalize rdNum l = N at *
  obtain ⟨n, p, er⟩ := N
  dsimp only at *
  by_cases he : er = 0
  · obtain ⟨hp0, hp1, hp2, hn⟩ := hok he
    clear hok herr
    subst he
    have hR1 := HR.out
    clear HR
    rw [if_neg (by simp)] at hR1
    by_cases h1 : 16777216 < n
    · rw [if_pos h1] at hR1
      subst hR1
      go_enter Try.func54, Try.ntmps54
      go_wp2_with (go_at_call 50; refine hnum.mono ?_; rintro e w1 ⟨rfl, rfl⟩)
      refine bodyPost_ret (results_tmp4 rfl _ _ _) rfl ?_
      exact RecPost.bad _ 3 _ (Below.refl _ _)
    · rw [if_neg h1] at hR1
      by_cases h2 : l.length < p + n + 12
      · rw [if_pos h2] at hR1
        subst hR1
        have h2' : (l.length : Int) - (p : Int) < (n : Int) + 12 := by omega
        go_enter Try.func54, Try.ntmps54
        go_wp2_with (go_at_call 50; refine hnum.mono ?_; rintro e w1 ⟨rfl, rfl⟩)
        refine bodyPost_ret (results_tmp4 rfl _ _ _) rfl ?_
        exact RecPost.bad _ 21 _ (Below.refl _ _)
      · rw [if_neg h2] at hR1
        by_cases h3 : leN (cutB l p 4) = crcB (cutB l (p + 4) (8 + n))
        · rw [if_neg (by simp [h3])] at hR1
          subst hR1
          refine (readRecord_good A c l n p (p + 4) (p + 12) (p + 12 + n) w hr hl hlc hp0 hp2 (by omega) (by omega) rfl rfl rfl hnum h3).mono ?_
          rintro e w' ⟨A', c', out, rfl, h4, h5, h6⟩
          exact ⟨A', c', out, rfl, h4, h5, h6⟩
        · rw [if_pos h3] at hR1
          subst hR1
          refine (readRecord_bad A c l n p (p + 4) (p + 12 + n) w hr hl hlc hp0 hp2 (by omega) (by omega) rfl rfl hnum h3).mono ?_
          rintro e w' ⟨rfl, h6⟩
          exact RecPost.bad _ 23 _ h6
  · have hR1 := HR.out
    rw [if_pos he] at hR1
    subst hR1
    have he' : ((er : Int) != 0) = true := by rw [bne_iff_ne]; omega
    clear HR hok herr he
    go_enter Try.func54, Try.ntmps54
    go_wp2_with (go_at_call 50; refine hnum.mono ?_; rintro e w1 ⟨rfl, rfl⟩)
    refine bodyPost_ret (results_tmp4 rfl _ _ _) rfl ?_
    exact RecPost.bad _ er _ (Below.refl _ _)
end Go.Proofs.Ytppfjdohajomoaa
