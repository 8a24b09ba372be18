/- Bytes with their length ahead are read. -/
import Derived.Test.YtadgaphgomagkaaFk
namespace Go.Proofs.Ytadgaphgomagkaa
open Go.RowKit
set_option maxHeartbeats 1000000
set_option maxRecDepth 100000

theorem run_max_int {P : Program} (ts : Array TypeId) (t : TypeId) (k k' : IntKind) (x y : Int) (W : World) : (Builtin.max_ ts t #[.int k x, .int k' y]).run P W = .ok (.int k (max x y)) W := by
  have e : (if y > x then y else x) = max x y := by omega
  simp [Builtin.max_, Builtin.max2, Sem.run_pure]
  omega
theorem readBytes_any (A : Option Addr) (c : Nat) (l : List UInt8) (most : Int) (w : World) (hr : Rd w A (byts l)) (hl : l.length ≤ 140737488351232) (hlc : l.length ≤ c) (hm1 : most ≤ 9223372036854775807) (hm0 : -9223372036854775808 ≤ most) :
    Calls Try.prog 108 #[.slice A l.length c, .int .i64 most] w fun e w' => ∃ A' c' out, e = .returned (.tuple #[.slice A' out.length c', .int .i64 ((rdBytes most l).2.1 : Nat), .int .i64 ((rdBytes most l).2.2 : Nat)]) ∧ out = (rdBytes most l).1 ∧
      w'.ownsRow w.heap.size 5 1 (.slice A' out.length c') out.length (byts out) ∧ Below w.heap.size w w' := by
  have hnum := readNumber_any A c l w hr hl
  have hok := @rdNum_ok l
  have herr := rdF_err l 0 0
  generalize hR : rdBytes most l = R
  have HR := Lib.hid hR
  clear hR
  change Hid ((if (rdNum l).2.2 ≠ 0 then ([], 0, (rdNum l).2.2) else if max most 0 < ((rdNum l).1 : Int) then ([], 0, 3) else if l.length - (rdNum l).2.1 < (rdNum l).1 then ([], 0, 21) else ((l.drop (rdNum l).2.1).take (rdNum l).1, (rdNum l).2.1 + (rdNum l).1, 0)) = R) at HR
  change (rdNum l).2.2 = 0 ∨ (rdNum l).2.2 = 21 ∨ (rdNum l).2.2 = 22 at herr
  generalize rdNum l = N at *
  obtain ⟨n, p, er⟩ := N
  dsimp only at *
  by_cases he : er = 0
  · obtain ⟨hp0, hp1, hp2, hn⟩ := hok he
    clear hok herr
    subst he
    have hR1 := HR.out
    rw [if_neg (by simp)] at hR1
    obtain ⟨mx, hmx⟩ : ∃ mx : Int, mx = max most 0 := ⟨_, rfl⟩
    have hmx0 : 0 ≤ mx := by omega
    have hmx1 : mx ≤ 9223372036854775807 := by omega
    rw [← hmx] at hR1
    have hmax : ∀ W, (Builtin.max_ #[3, 3] 3 #[.int .i64 most, .int .i64 0]).run Try.prog W = .ok (.int .i64 mx) W := by
      intro W
      rw [hmx]
      exact run_max_int _ _ _ _ _ _ _
    have HMX := Lib.hid hmx
    clear HR hmx
    by_cases h1 : mx < (n : Int)
    · rw [if_pos h1] at hR1
      subst hR1
      go_enter Try.func108, Try.ntmps108
      go_wp2_with (go_at_call 109; refine hnum.mono ?_; rintro e w1 ⟨rfl, rfl⟩)
      go_ret3
      exact ⟨none, 0, [], rfl, rfl, World.ownsRow_nil _ _ _ _, Below.refl _ _⟩
    · rw [if_neg h1] at hR1
      by_cases h2 : l.length - p < n
      · rw [if_pos h2] at hR1
        subst hR1
        have h2' : (l.length : Int) - (p : Int) < (n : Int) := by omega
        go_enter Try.func108, Try.ntmps108
        go_wp2_with (go_at_call 109; refine hnum.mono ?_; rintro e w1 ⟨rfl, rfl⟩)
        go_ret3
        exact ⟨none, 0, [], rfl, rfl, World.ownsRow_nil _ _ _ _, Below.refl _ _⟩
      · rw [if_neg h2] at hR1
        subst hR1
        have h2' : ¬ (l.length : Int) - (p : Int) < (n : Int) := by omega
        have hrd := (hr.drop p c (by rw [byts_length]; exact hlc)).take n
        generalize hA1 : (if c = p then A else A.map (·.add p)) = A1 at *
        have hq : ((byts l).drop p).take n = byts ((l.drop p).take n) := by simp [byts]
        rw [hq] at hrd
        have hql : ((l.drop p).take n).length = n := by simp; omega
        generalize (l.drop p).take n = out at *
        have HQ := Lib.hid hql
        clear hq hql
        have hclone := clone_any A1 (c - p) out w hrd (by rw [HQ.out]; omega)
        rw [HQ.out] at hclone
        go_enter Try.func108, Try.ntmps108
        go_wp2_with (first | (go_at_call 109; refine hnum.mono ?_; rintro e w1 ⟨rfl, rfl⟩) | (go_at_call 55; refine hclone.mono ?_; rintro e w2 ⟨A2, c2, rfl, ho2, hb2⟩))
        go_ret3
        exact ⟨A2, c2, out, by rw [HQ.out]; rfl, rfl, by rw [HQ.out]; exact ho2, hb2⟩
  · have hR1 := HR.out
    rw [if_pos he] at hR1
    subst hR1
    have he' : ((er : Int) != 0) = true := by rw [bne_iff_ne]; omega
    clear HR hok herr he
    go_enter Try.func108, Try.ntmps108
    go_wp2_with (go_at_call 109; refine hnum.mono ?_; rintro e w1 ⟨rfl, rfl⟩)
    go_ret3
    exact ⟨none, 0, [], rfl, rfl, World.ownsRow_nil _ _ _ _, Below.refl _ _⟩

theorem refReadBytes_any (A : Option Addr) (c : Nat) (l : List UInt8) (most : Int) (w : World) (hr : Rd w A (byts l)) (hl : l.length ≤ 140737488351232) (hlc : l.length ≤ c) (hm1 : most ≤ 9223372036854775807) (hm0 : -9223372036854775808 ≤ most) :
    Calls Try.prog 99 #[.slice A l.length c, .int .i64 most] w fun e w' => ∃ A' c' out, e = .returned (.tuple #[.slice A' out.length c', .int .i64 ((rdBytes most l).2.1 : Nat), .int .i64 ((rdBytes most l).2.2 : Nat)]) ∧ out = (rdBytes most l).1 ∧ Rd w A' (byts out) ∧ w = w' := by
  have hnum := refReadNumber_any A c l w hr hl
  have hok := @rdNum_ok l
  have herr := rdF_err l 0 0
  generalize hR : rdBytes most l = R
  have HR := Lib.hid hR
  clear hR
  change Hid ((if (rdNum l).2.2 ≠ 0 then ([], 0, (rdNum l).2.2) else if max most 0 < ((rdNum l).1 : Int) then ([], 0, 3) else if l.length - (rdNum l).2.1 < (rdNum l).1 then ([], 0, 21) else ((l.drop (rdNum l).2.1).take (rdNum l).1, (rdNum l).2.1 + (rdNum l).1, 0)) = R) at HR
  change (rdNum l).2.2 = 0 ∨ (rdNum l).2.2 = 21 ∨ (rdNum l).2.2 = 22 at herr
  generalize rdNum l = N at *
  obtain ⟨n, p, er⟩ := N
  dsimp only at *
  by_cases he : er = 0
  · obtain ⟨hp0, hp1, hp2, hn⟩ := hok he
    clear hok herr
    subst he
    have hR1 := HR.out
    rw [if_neg (by simp)] at hR1
    obtain ⟨mx, hmx⟩ : ∃ mx : Int, mx = max most 0 := ⟨_, rfl⟩
    have hmx0 : 0 ≤ mx := by omega
    have hmx1 : mx ≤ 9223372036854775807 := by omega
    rw [← hmx] at hR1
    have hm00 : mx = 0 ∧ most ≤ 0 ∨ mx = most ∧ 0 ≤ most := by omega
    have hmax : ∀ W, (Builtin.max_ #[3, 3] 3 #[.int .i64 most, .int .i64 0]).run Try.prog W = .ok (.int .i64 mx) W := by
      intro W
      rw [hmx]
      exact run_max_int _ _ _ _ _ _ _
    have HMX := Lib.hid hm00
    clear HR hmx hm00 hmax
    have hH1 : most < 0 → mx = 0 := by have := HMX.out; omega
    have hH2 : 0 ≤ most → mx = most := by have := HMX.out; omega
    by_cases h1 : mx < (n : Int)
    · rw [if_pos h1] at hR1
      subst hR1
      go_enter Try.func99, Try.ntmps99
      go_wp2_with (go_at_call 100; refine hnum.mono ?_; rintro e w1 ⟨rfl, rfl⟩)
      all_goals
        go_ret3
        exact ⟨none, 0, [], rfl, rfl, Rd.none_, rfl⟩
    · rw [if_neg h1] at hR1
      by_cases h2 : l.length - p < n
      · rw [if_pos h2] at hR1
        subst hR1
        have h2' : (l.length : Int) - (p : Int) < (n : Int) := by omega
        go_enter Try.func99, Try.ntmps99
        go_wp2_with (go_at_call 100; refine hnum.mono ?_; rintro e w1 ⟨rfl, rfl⟩)
        all_goals
          go_ret3
          exact ⟨none, 0, [], rfl, rfl, Rd.none_, rfl⟩
      · rw [if_neg h2] at hR1
        subst hR1
        have h2' : ¬ (l.length : Int) - (p : Int) < (n : Int) := by omega
        have hrd := (hr.drop p c (by rw [byts_length]; exact hlc)).take n
        generalize hA1 : (if c = p then A else A.map (·.add p)) = A1 at *
        have hq : ((byts l).drop p).take n = byts ((l.drop p).take n) := by simp [byts]
        rw [hq] at hrd
        have hql : ((l.drop p).take n).length = n := by simp; omega
        generalize (l.drop p).take n = out at *
        have HQ := Lib.hid hql
        clear hq hql
        go_enter Try.func99, Try.ntmps99
        go_wp2_with (go_at_call 100; refine hnum.mono ?_; rintro e w1 ⟨rfl, rfl⟩)
        all_goals
          go_ret3
          exact ⟨A1, c - p, out, by rw [HQ.out, show p + n - p = n from by omega]; rfl, rfl, hrd, rfl⟩
  · have hR1 := HR.out
    rw [if_pos he] at hR1
    subst hR1
    have he' : ((er : Int) != 0) = true := by rw [bne_iff_ne]; omega
    clear HR hok herr he
    go_enter Try.func99, Try.ntmps99
    go_wp2_with (go_at_call 100; refine hnum.mono ?_; rintro e w1 ⟨rfl, rfl⟩)
    go_ret3
    exact ⟨none, 0, [], rfl, rfl, Rd.none_, rfl⟩
end Go.Proofs.Ytadgaphgomagkaa
