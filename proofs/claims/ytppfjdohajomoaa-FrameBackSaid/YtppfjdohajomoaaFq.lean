/- The reference's records are read. -/
import Derived.Test.YtppfjdohajomoaaFo
import Derived.Test.YtppfjdohajomoaaWb
namespace Go.Proofs.Ytppfjdohajomoaa
open Go.RowKit
set_option maxHeartbeats 1000000
set_option maxRecDepth 100000

theorem refReadRecord_sum (A : Option Addr) (c : Nat) (l : List UInt8) (n p p4 p12 e12 : Nat) (w : World) (hr : Rd w A (byts l)) (hl : l.length ≤ 140737488351232) (hlc : l.length ≤ c) (hp0 : 0 < p) (hp1 : p ≤ 10) (hn : n ≤ 16777216) (hlen : p + n + 12 ≤ l.length)
    (hp4 : p4 = p + 4) (hp12 : p12 = p + 12) (he12 : e12 = p + 12 + n)
    (hnum : Calls Try.prog 51 #[.slice A l.length c] w fun e w' => e = .returned (.tuple #[.int .u64 (n : Nat), .int .i64 (p : Nat), .int .i64 0]) ∧ w = w')
    (R : Nat × List UInt8 × Nat × Nat) (hR : (if leN (cutB l p 4) ≠ crcB (cutB l p4 (8 + n)) then (0, [], 0, 23) else (leN (cutB l p4 8), cutB l p12 n, e12, 0)) = R) :
    Calls Try.prog 55 #[.slice A l.length c] w (RecPost w R) := by
  have h2 := hr.cutB p4 (8 + n) c hlc
  have h0 := hr.drop p c (by rw [byts_length]; exact hlc)
  have hd0 : (byts l).drop p = byts (l.drop p) := by simp [byts]
  rw [hd0] at h0
  have l0 : (l.drop p).length = l.length - p := List.length_drop
  have l2 := cutB_length l p4 (8 + n) (by omega)
  have hq : cutB l p 4 = (l.drop p).take 4 := rfl
  have hq8 : cutB l p4 8 = (cutB l p4 (8 + n)).take 8 := by simp only [cutB, List.take_take]; congr 1; omega
  have hqn : cutB l p12 n = (cutB l p4 (8 + n)).drop 8 := by simp only [cutB, List.drop_take, List.drop_drop]; rw [hp12, hp4]; congr 1; omega
  rw [hq, hq8, hqn] at hR
  generalize hA1 : (if c = p then A else A.map (·.add p)) = A1 at *
  generalize hA2 : (if c = p4 then A else A.map (·.add p4)) = A2 at *
  have hB1 : A.map (·.add p) = A1 := by rw [← hA1, if_neg (by omega)]
  have hB2 : A.map (·.add p4) = A2 := by rw [← hA2, if_neg (by omega)]
  generalize cutB l p4 (8 + n) = q2 at *
  generalize l.drop p = q0 at *
  have hq0 : ∀ W : World, Rd W A1 (byts q0) → Calls Try.prog 84 #[.slice A1 (l.length - p) (c - p)] W fun e w' => e = .returned (.int .u32 (leN (q0.take 4) : Nat)) ∧ ∃ n, w' = W.drewN n := fun W hW => by
    have := readFour_any A1 (c - p) q0 W hW (by omega)
    rw [l0] at this
    exact this
  have hq2 : ∀ W : World, Rd W A2 (byts q2) → Calls Try.prog 25 #[.slice A2 (8 + n) (c - p4)] W fun e w' => e = .returned (.int .u32 (crcB q2 : Nat)) ∧ w' = W := fun W hW => by
    have := refSum_any A2 (c - p4) q2 W hW (by omega)
    rw [l2, ← crc_eq] at this
    exact this.mono fun e w' h => ⟨h.1, h.2.symm⟩
  have hq3 : ∀ W : World, Rd W A2 (byts q2) → Calls Try.prog 85 #[.slice A2 (8 + n) (c - p4), .int .i64 8] W fun e w' => e = .returned (.int .u64 (leN (q2.take 8) : Nat)) ∧ W = w' := fun W hW => by
    have := refLow_any A2 (c - p4) 8 q2 W hW (by omega) (by omega)
    rw [l2] at this
    exact this
  have h4 : Rd w (if c - p4 = 8 then A2 else A2.map (·.add 8)) (byts (q2.drop 8)) := by
    have := h2.drop 8 (c - p4) (by rw [byts_length]; omega)
    simpa [byts] using this
  have l4 : (q2.drop 8).length = n := by rw [List.length_drop]; omega
  have eA4 : (if c - p4 = 8 then A2 else A2.map (·.add 8)) = (if c - p4 = 8 then A2 else A2.map fun x => ⟨x.block, x.off + 8, none⟩) := by
    congr 2
  rw [eA4] at h4
  clear eA4
  generalize hA4 : (if c - p4 = 8 then A2 else A2.map fun x => (⟨x.block, x.off + 8, none⟩ : Addr)) = A4 at *
  generalize q2.drop 8 = q4 at *
  have hC := crcB_lt q2
  have hD : leN (q0.take 4) < 4294967296 := Nat.lt_of_lt_of_le (leN_lt _) (by rw [List.length_take]; exact Nat.le_trans (Nat.pow_le_pow_right (by omega) (Nat.min_le_left _ _)) (by decide))
  generalize crcB q2 = C at *
  generalize leN (q0.take 4) = D at *
  generalize leN (q2.take 8) = E at *
  have s1 : (p : Int) + 4 ≤ (p : Int) + 12 + (n : Int) := by omega
  have s3 : ((p : Int) + 4).toNat = p4 := by omega
  have s9 : ((p : Int) + 12 + (n : Int)).toNat = e12 := by omega
  have s11 : e12 - p4 = 8 + n := by omega
  have s20 : ((p : Int) + 12 + (n : Int)) = (e12 : Int) := by omega
  have s21 : (p : Int) ≤ (l.length : Int) := by omega
  have s30 : (8 : Int) ≤ 8 + (n : Int) := by omega
  have S20 := Lib.hid s20
  have L4 := Lib.hid l4
  have HP4 := Lib.hid hp4
  have HP12 := Lib.hid hp12
  have HE12 := Lib.hid he12
  clear l0 l2 l4 hp4 hp12 he12 s20 hq hq8 hqn hd0
  by_cases hne : D = C
  · rw [if_neg (by simp [hne])] at hR
    subst hR
    have hne' : ((C : Int) != (D : Int)) = false := by rw [bne_eq_false_iff_eq]; omega
    clear hne
    go_enter Try.func55, Try.ntmps55
    go_wp2_with (go_at_call 51; refine hnum.mono ?_; rintro e w1 ⟨rfl, rfl⟩)
    go_quiet ((first | (go_at_call 25; exact Calls.quiet_of_same (hq2 _ (h2.drewN _))) | (go_at_call 84; exact Calls.quiet_of (hq0 _ (h0.drewN _)))))
    go_wp2
    have hown : ((w.drewN nq).alloc (.cells #[] 5)).ownsRow w.heap.size 5 1 (.slice (some ⟨w.heap.size, 0, none⟩) 0 0) 0 [] := World.ownsRow_made (w.drewN nq) #[] 0 (Nat.le_refl _) (by unfold maxLen; omega) rfl
    have h2' : Rd ((w.drewN nq).alloc (.cells #[] 5)) A2 (byts q2) := (h2.drewN nq).alloc _
    have h4' : Rd ((w.drewN nq).alloc (.cells #[] 5)) A4 (byts q4) := (h4.drewN nq).alloc _
    go_region_law (first
      | (refine step_app _ rfl _ _ rfl slB w.heap.size (.slice (some ⟨w.heap.size, 0, none⟩) 0 0) 0 [] rfl hown A4 n (c - p4 - 8) (byts q4) rfl (by rw [byts_length, L4.out, Nat.mul_one]) h4' (byts_one _) (by unfold maxLen; omega) (by omega) (by simp) ?_; intro A5 c5 w5 ho5 hg5)
      | (go_simp; go_at_call 85; refine (hq3 _ ?_).mono ?_; (first | exact h2' | exact h2.drewN _); rintro e w' ⟨rfl, rfl⟩))
    all_goals
      rw [Nat.zero_add] at *
      go_wp2
      have w1 : IntKind.i64.wrap ((p : Int) + 12) = (p : Int) + 12 := IntWalk.i64_in _ (by omega)
      have w2 : IntKind.i64.wrap (n : Int) = (n : Int) := IntWalk.i64_in _ (by omega)
      have w3 : IntKind.i64.wrap ((p : Int) + 12 + (n : Int)) = (p : Int) + 12 + (n : Int) := IntWalk.i64_in _ (by omega)
      refine bodyPost_ret (v := .tuple #[.int .u64 E, .slice A5 n c5, .int .i64 ((p : Int) + 12 + (n : Int)), .int .i64 0]) (by simp [results, Try.results55, Act.put, w1, w2, w3]) rfl ?_
      have hb0 : Below w.heap.size w ((w.drewN (nq + 1)).alloc (.cells #[] 5)) := (below_drewN (Below.refl _ _) _).alloc (Nat.le_refl _) _
      have hb5 : Below w.heap.size w w5 := hb0.trans (hg5.toBelow (by simp) (by simp [Value.ownBlock]))
      exact ⟨A5, c5, q4, by rw [L4.out, ← S20.out]; rfl, rfl, by rw [L4.out]; simpa using ho5, hb5⟩
  · rw [if_pos hne] at hR
    subst hR
    have hne' : ((C : Int) != (D : Int)) = true := by rw [bne_iff_ne]; omega
    clear hne
    go_enter Try.func55, Try.ntmps55
    go_wp2_with (go_at_call 51; refine hnum.mono ?_; rintro e w1 ⟨rfl, rfl⟩)
    go_quiet ((first | (go_at_call 25; exact Calls.quiet_of_same (hq2 _ (h2.drewN _))) | (go_at_call 84; exact Calls.quiet_of (hq0 _ (h0.drewN _)))))
    go_wp2
    refine bodyPost_ret (results_tmp4 rfl _ _ _) rfl ?_
    exact RecPost.bad _ 23 _ (below_drewN (Below.refl _ _) _)

theorem refReadRecord_any (A : Option Addr) (c : Nat) (l : List UInt8) (w : World) (hr : Rd w A (byts l)) (hl : l.length ≤ 140737488351232) (hlc : l.length ≤ c) :
    Calls Try.prog 55 #[.slice A l.length c] w (RecPost w (rdRec l)) := by
  have hnum := refReadNumber_any A c l w hr hl
  have hok := @rdNum_ok l
  have herr := rdF_err l 0 0
  generalize hR : rdRec l = R
  have HR := Lib.hid hR
  clear hR
  change Hid ((if (rdNum l).2.2 ≠ 0 then (0, [], 0, (rdNum l).2.2) else if 16777216 < (rdNum l).1 then (0, [], 0, 3) else if l.length < (rdNum l).2.1 + (rdNum l).1 + 12 then (0, [], 0, 21)
    else if leN (cutB l (rdNum l).2.1 4) ≠ crcB (cutB l ((rdNum l).2.1 + 4) (8 + (rdNum l).1)) then (0, [], 0, 23)
    else (leN (cutB l ((rdNum l).2.1 + 4) 8), cutB l ((rdNum l).2.1 + 12) (rdNum l).1, (rdNum l).2.1 + 12 + (rdNum l).1, 0)) = R) at HR
  change (rdNum l).2.2 = 0 ∨ (rdNum l).2.2 = 21 ∨ (rdNum l).2.2 = 22 at herr
  generalize rdNum l = N at *
  obtain ⟨n, p, er⟩ := N
  dsimp only at *
  by_cases he : er = 0
  · obtain ⟨hp0, hp1, hp2, hn⟩ := hok he
    clear hok herr
    subst he
    have hR1 := HR.out
    clear HR
    rw [if_neg (by simp)] at hR1
    by_cases h1 : 16777216 < n
    · rw [if_pos h1] at hR1
      subst hR1
      go_enter Try.func55, Try.ntmps55
      go_wp2_with (go_at_call 51; refine hnum.mono ?_; rintro e w1 ⟨rfl, rfl⟩)
      refine bodyPost_ret (results_tmp4 rfl _ _ _) rfl ?_
      exact RecPost.bad _ 3 _ (Below.refl _ _)
    · rw [if_neg h1] at hR1
      by_cases h2 : l.length < p + n + 12
      · rw [if_pos h2] at hR1
        subst hR1
        by_cases h4 : l.length < p + 12
        · have h4' : (l.length : Int) - (p : Int) < 12 := by omega
          go_enter Try.func55, Try.ntmps55
          go_wp2_with (go_at_call 51; refine hnum.mono ?_; rintro e w1 ⟨rfl, rfl⟩)
          refine bodyPost_ret (results_tmp4 rfl _ _ _) rfl ?_
          exact RecPost.bad _ 21 _ (Below.refl _ _)
        · have h4' : ¬ (l.length : Int) - (p : Int) < 12 := by omega
          have h5 : (l.length : Int) - (p : Int) - 12 < (n : Int) := by omega
          go_enter Try.func55, Try.ntmps55
          go_wp2_with (go_at_call 51; refine hnum.mono ?_; rintro e w1 ⟨rfl, rfl⟩)
          refine bodyPost_ret (results_tmp4 rfl _ _ _) rfl ?_
          exact RecPost.bad _ 21 _ (Below.refl _ _)
      · rw [if_neg h2] at hR1
        exact refReadRecord_sum A c l n p (p + 4) (p + 12) (p + 12 + n) w hr hl hlc hp0 hp2 (by omega) (by omega) rfl rfl rfl hnum R hR1
  · have hR1 := HR.out
    rw [if_pos he] at hR1
    subst hR1
    have he' : ((er : Int) != 0) = true := by rw [bne_iff_ne]; omega
    clear HR hok herr he
    go_enter Try.func55, Try.ntmps55
    go_wp2_with (go_at_call 51; refine hnum.mono ?_; rintro e w1 ⟨rfl, rfl⟩)
    refine bodyPost_ret (results_tmp4 rfl _ _ _) rfl ?_
    exact RecPost.bad _ er _ (Below.refl _ _)
end Go.Proofs.Ytppfjdohajomoaa
