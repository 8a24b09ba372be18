/- Pages are read: the reference's. -/
import Derived.Test.YtppfjdohajomoaaFt
namespace Go.Proofs.Ytppfjdohajomoaa
open Go.RowKit
set_option maxHeartbeats 2000000
set_option maxRecDepth 100000

theorem stHeadR : StT Try.prog 64 4 := ⟨⟨_, Try.underlying64⟩, by kernel_rfl⟩

theorem refReadPage_big (A : Option Addr) (c : Nat) (l : List UInt8) (w : World) (hr : Rd w A (byts l)) (hl0 : 32 ≤ l.length) (hl1 : l.length ≤ 65536) (hlc : l.length ≤ c) :
    Calls Try.prog 57 #[.slice A l.length c] w (RdPagePost w (rdPage ((l.length : Int) - 19) l)) := by
  have hroom : ∀ W, Calls Try.prog 36 #[.int .i64 (l.length : Nat)] W fun e w' => e = .returned (.int .i64 ((l.length : Int) - 19)) ∧ W = w' := fun W => by
    have := refRoom_any l.length W
    rw [show roomN (l.length : Int) = (l.length : Int) - 19 from by unfold roomN; rw [if_neg (by omega), if_neg (by omega)]] at this
    exact this
  have hroom' : ∀ W, Calls Try.prog 36 #[.int .i64 (l.length : Nat)] W fun e w' => e = .returned (.int .i64 ((l.length : Int) - 19)) ∧ w' = W := fun W => (hroom W).mono fun e w' h => ⟨h.1, h.2.symm⟩
  have f0 : ((l.length : Int) - 19 == 0) = false := by simp; omega
  generalize hR : rdPage ((l.length : Int) - 19) l = R
  unfold rdPage at hR
  rw [if_neg (by omega)] at hR
  cases A with
  | none => exact absurd (byts_length l) (by rw [hr.eq_nil]; show ¬ 0 = l.length; omega)
  | some ad =>
  have dropAt : ∀ k, k < 32 → Rd w (some ⟨ad.block, ad.off + k, none⟩) (byts (l.drop k)) ∨ k = 0 := fun k hk => by
    by_cases h0 : k = 0
    · exact Or.inr h0
    · left
      have := hr.drop k c (by rw [byts_length]; exact hlc)
      rw [if_neg (by omega), show (byts l).drop k = byts (l.drop k) from by simp [byts]] at this
      simpa [Addr.add, h0] using this
  have h2 := (dropAt 4 (by omega)).resolve_right (by omega)
  have h4 := (dropAt 12 (by omega)).resolve_right (by omega)
  have h5 := (dropAt 17 (by omega)).resolve_right (by omega)
  clear dropAt
  generalize hA4 : (some ⟨ad.block, ad.off + 4, none⟩ : Option Addr) = A4 at *
  generalize hA12 : (some ⟨ad.block, ad.off + 12, none⟩ : Option Addr) = A12 at *
  generalize hA17 : (some ⟨ad.block, ad.off + 17, none⟩ : Option Addr) = A17 at *
  have low : ∀ (W : World) (A' : Option Addr) (k n : Nat), Rd W A' (byts (l.drop k)) → k + n ≤ l.length → n ≤ 8 → Calls Try.prog 85 #[.slice A' (l.length - k) (c - k), .int .i64 n] W fun e w' => e = .returned (.int .u64 (leN (cutB l k n) : Nat)) ∧ w' = W := fun W A' k n hW h1 h2 => by
    have := refLow_any A' (c - k) n (l.drop k) W hW (by rw [List.length_drop]; omega) h2
    rw [List.length_drop] at this
    exact this.mono fun e w' h => ⟨h.1, h.2.symm⟩
  have hq1 : ∀ W : World, Rd W (some ad) (byts l) → Calls Try.prog 84 #[.slice (some ad) l.length c] W fun e w' => e = .returned (.int .u32 (leN (l.take 4) : Nat)) ∧ ∃ n, w' = W.drewN n := fun W hW => readFour_any (some ad) c l W hW (by omega)
  have hq2 : ∀ W : World, Rd W A4 (byts (l.drop 4)) → Calls Try.prog 25 #[.slice A4 (l.length - 4) (c - 4)] W fun e w' => e = .returned (.int .u32 (crcB (l.drop 4) : Nat)) ∧ W = w' := fun W hW => by
    have := refSum_any A4 (c - 4) (l.drop 4) W hW (by rw [List.length_drop]; omega)
    rw [List.length_drop, ← crc_eq] at this
    exact this
  have hq3 : ∀ W : World, Rd W A4 (byts (l.drop 4)) → Calls Try.prog 85 #[.slice A4 (l.length - 4) (c - 4), .int .i64 8] W fun e w' => e = .returned (.int .u64 (leN (cutB l 4 8) : Nat)) ∧ w' = W := fun W hW => low W A4 4 8 hW (by omega) (by omega)
  have hq4 : ∀ W : World, Rd W A12 (byts (l.drop 12)) → Calls Try.prog 85 #[.slice A12 (l.length - 12) (c - 12), .int .i64 4] W fun e w' => e = .returned (.int .u64 (leN (cutB l 12 4) : Nat)) ∧ w' = W := fun W hW => low W A12 12 4 hW (by omega) (by omega)
  have hq5 : ∀ W : World, Rd W A17 (byts (l.drop 17)) → Calls Try.prog 85 #[.slice A17 (l.length - 17) (c - 17), .int .i64 2] W fun e w' => e = .returned (.int .u64 (leN (cutB l 17 2) : Nat)) ∧ w' = W := fun W hW => low W A17 17 2 hW (by omega) (by omega)
  clear low
  have b1 := leN_bound (l.take 4) 4 (by simp; omega)
  have b2 := crcB_lt (l.drop 4)
  have b3 := leN_bound (cutB l 4 8) 8 (by rw [cutB_length l 4 8 (by omega)]; omega)
  have b4 := leN_bound (cutB l 12 4) 4 (by rw [cutB_length l 12 4 (by omega)]; omega)
  have b5 := leN_bound (cutB l 17 2) 2 (by rw [cutB_length l 17 2 (by omega)]; omega)
  simp only [Nat.reducePow] at b1 b3 b4 b5
  generalize leN (l.take 4) = D1 at *
  generalize crcB (l.drop 4) = D2 at *
  generalize leN (cutB l 4 8) = N3 at *
  generalize leN (cutB l 12 4) = N4 at *
  generalize leN (cutB l 17 2) = N5 at *
  have g16 : l.getD 16 0 = l[16]'(by omega) := by simp [List.getD, List.getElem?_eq_getElem (show 16 < l.length by omega)]
  rw [g16] at hR
  have c16w : w.cell? ⟨ad.block, ad.off + 16, none⟩ = some (.int .u8 ((l[16]'(by omega)).toNat : Int)) := by
    obtain ⟨ad', e, _, h⟩ := hr (by intro e; have := byts_length l; rw [e] at this; change 0 = l.length at this; omega)
    injection e with e
    subst e
    have := h 16 _ (byts_get l 16 (by omega))
    simpa [Addr.add, byt] using this
  generalize h16 : ((l[16]'(by omega)).toNat) = N16 at *
  have e16 : IntKind.i64.wrap (N16 : Int) = (N16 : Int) := by rw [← h16]; have := (l[16]'(by omega)).toNat_lt; exact IntWalk.i64_in _ (by omega)
  clear h16
  have t2 : (4 : Int) ≤ (l.length : Int) := by omega
  have t3 : (16 : Int) < (l.length : Int) := by omega
  have t7 : (12 : Int) ≤ (l.length : Int) := by omega
  have t8 : (17 : Int) ≤ (l.length : Int) := by omega
  have e4 : IntKind.i64.wrap (N4 : Int) = (N4 : Int) := IntWalk.i64_in _ (by omega)
  have e5 : IntKind.i64.wrap (N5 : Int) = (N5 : Int) := IntWalk.i64_in _ (by omega)
  have n4 : ¬ (c = 4) := by omega
  have n12 : ¬ (c = 12) := by omega
  have n17 : ¬ (c = 17) := by omega
  have h1Z := hr.alloc (.cells #[.int .u64 0, .int .i64 0, .int .i64 0, .int .i64 0] 64)
  have h2Z := h2.alloc (.cells #[.int .u64 0, .int .i64 0, .int .i64 0, .int .i64 0] 64)
  have hBz := Blk.new w 64 #[.int .u64 0, .int .i64 0, .int .i64 0, .int .i64 0]
  have hbz : Below w.heap.size w (w.alloc (.cells #[.int .u64 0, .int .i64 0, .int .i64 0, .int .i64 0] 64)) := (Below.refl _ _).alloc (Nat.le_refl _) _
  by_cases hne : D1 = D2
  · rw [if_neg (by simp [hne])] at hR
    have hne' : ((D2 : Int) != (D1 : Int)) = false := by rw [bne_eq_false_iff_eq]; omega
    have HRR := Lib.hid hR
    clear hR hne
    go_enter Try.func57, Try.ntmps57
    go_upto_region 5 with (first
        | (go_at_call 36; refine (hroom _).mono ?_; rintro e w1 ⟨rfl, rfl⟩)
        | (go_at_call 25; refine (hq2 _ h2Z).mono ?_; rintro e w1 ⟨rfl, rfl⟩)
        | (go_at_call 84; refine (hq1 _ h1Z).mono ?_; rintro e w1 ⟨rfl, nd, rfl⟩))
    have hBc := hBz.drewN nd
    have hbc := below_drewN hbz nd
    have h2V := h2Z.drewN nd
    have h4V := (h4.alloc (.cells #[.int .u64 0, .int .i64 0, .int .i64 0, .int .i64 0] 64)).drewN nd
    have h5V := (h5.alloc (.cells #[.int .u64 0, .int .i64 0, .int .i64 0, .int .i64 0] 64)).drewN nd
    have c16 := (World.cell?_alloc_lt w (.cells #[.int .u64 0, .int .i64 0, .int .i64 0, .int .i64 0] 64) _ (cell_blk c16w)).trans c16w
    replace c16 : ((w.alloc (.cells #[.int .u64 0, .int .i64 0, .int .i64 0, .int .i64 0] 64)).drewN nd).cell? ⟨ad.block, ad.off + 16, none⟩ = some (.int .u8 (N16 : Int)) := c16
    generalize (w.alloc (.cells #[.int .u64 0, .int .i64 0, .int .i64 0, .int .i64 0] 64)).drewN nd = V at *
    have h3D := h2V.drew
    have h3E := (h2V.alloc (.cells #[.int .u64 0, .int .i64 0, .int .i64 0, .int .i64 0] 64)).drew
    have h4D := h4V.drew
    have h4E := (h4V.alloc (.cells #[.int .u64 0, .int .i64 0, .int .i64 0, .int .i64 0] 64)).drew
    have h5D := h5V.drew
    have h5E := (h5V.alloc (.cells #[.int .u64 0, .int .i64 0, .int .i64 0, .int .i64 0] 64)).drew
    have hcE : (V.alloc (.cells #[.int .u64 0, .int .i64 0, .int .i64 0, .int .i64 0] 64)).cell? ⟨ad.block, ad.off + 16, none⟩ = some (.int .u8 (N16 : Int)) := (World.cell?_alloc_lt V _ _ (cell_blk c16)).trans c16
    go_cut [5] (fun s5 wx => s5 = .pointer (some ⟨V.heap.size, 0, none⟩) ∧ Blk wx V.heap.size 64 #[.int .u64 (N3 : Nat), .int .i64 (N4 : Nat), .int .i64 (N16 : Nat), .int .i64 (N5 : Nat)] ∧ Below V.heap.size V wx)
    case first =>
      go_region_law (first
        | (go_simp; go_at_call 85; (first | with_reducible refine (hq3 V.drew h3D).mono ?_ | with_reducible refine (hq3 (V.alloc (.cells #[.int .u64 0, .int .i64 0, .int .i64 0, .int .i64 0] 64)).drew h3E).mono ?_); rintro e w' ⟨rfl, rfl⟩)
        | (go_simp; go_at_call 85; (first | with_reducible refine (hq4 V.drew h4D).mono ?_ | with_reducible refine (hq4 (V.alloc (.cells #[.int .u64 0, .int .i64 0, .int .i64 0, .int .i64 0] 64)).drew h4E).mono ?_); rintro e w' ⟨rfl, rfl⟩)
        | (go_simp; go_at_call 85; (first | with_reducible refine (hq5 V.drew h5D).mono ?_ | with_reducible refine (hq5 (V.alloc (.cells #[.int .u64 0, .int .i64 0, .int .i64 0, .int .i64 0] 64)).drew h5E).mono ?_); rintro e w' ⟨rfl, rfl⟩))
      all_goals
        go_wp2_with fail
        go_meet
        exact ⟨rfl, (Blk.new V _ _).drew, ((Below.refl _ _).alloc (Nat.le_refl _) _).drew⟩
    case rest =>
      obtain ⟨rfl, hB5, hb5⟩ := hcut
      have hB2 := hBc.below' hb5
      have hbw : Below w.heap.size w wc := hbc.trans (hb5.mono hbc.size)
      have d1 : wc.cell? ⟨V.heap.size, 1, none⟩ = some (.int .i64 (N4 : Nat)) := hB5.cell 1
      have d3 : wc.cell? ⟨V.heap.size, 3, none⟩ = some (.int .i64 (N5 : Nat)) := hB5.cell 3
      have hR1 := HRR.out
      by_cases hrow : 1073741824 < N4
      · rw [if_pos (Or.inl hrow)] at hR1
        subst hR1
        have hrow' : (1073741824 : Int) < (N4 : Int) := by omega
        clear hrow HRR
        go_wp2_with fail
        go_quiet (fail)
        go_wp2_with ((with_reducible show wpList _ _ _ (Oper.mk _ (Op.store _ _ _) _ _ _ _ :: _) _ _); refine wpList_st rfl 64 _ _ rfl stHeadR w.heap.size rfl #[.int .u64 0, .int .i64 0, .int .i64 0, .int .i64 0] rfl 64 _ (hB2.drewN nq) rfl rfl (oneHead 0 0 0 0) ?_)
        refine bodyPost_ret (results_cell_tmp2 rfl _ _ w.heap.size 64 _ (0, 0) _ rfl ((hB2.drewN nq).setRow _) Try.underlying64 rfl (by kernel_rfl)) rfl ?_
        exact RdPagePost.bad _ 24 _ (below_setRow' (below_drewN hbw _) (Nat.le_refl _) _)
      · have hrow' : ¬ (1073741824 : Int) < (N4 : Int) := by omega
        by_cases hlong : (l.length : Int) - 19 < (N5 : Int)
        · rw [if_pos (Or.inr hlong)] at hR1
          subst hR1
          clear hrow HRR
          go_wp2_with fail
          go_quiet ((go_at_call 36; exact Calls.quiet_of_same (hroom' _)))
          go_wp2_with ((with_reducible show wpList _ _ _ (Oper.mk _ (Op.store _ _ _) _ _ _ _ :: _) _ _); refine wpList_st rfl 64 _ _ rfl stHeadR w.heap.size rfl #[.int .u64 0, .int .i64 0, .int .i64 0, .int .i64 0] rfl 64 _ (hB2.drewN nq) rfl rfl (oneHead 0 0 0 0) ?_)
          refine bodyPost_ret (results_cell_tmp2 rfl _ _ w.heap.size 64 _ (0, 0) _ rfl ((hB2.drewN nq).setRow _) Try.underlying64 rfl (by kernel_rfl)) rfl ?_
          exact RdPagePost.bad _ 24 _ (below_setRow' (below_drewN hbw _) (Nat.le_refl _) _)
        · rw [if_neg (by omega)] at hR1
          clear hrow HRR
          have m0 : IntKind.i64.wrap (19 + (N5 : Int)) = 19 + (N5 : Int) := IntWalk.i64_in _ (by omega)
          have hrw := hr.below hbw
          have HR2 := Lib.hid hR1
          clear hR1
          go_wp2_with fail
          go_quiet ((go_at_call 36; exact Calls.quiet_of_same (hroom' _)))
          go_wp2_with fail
          go_loop [6] (fun i => ∃ k : Nat, 19 + N5 ≤ k ∧ k ≤ l.length ∧ i = .int .i64 k ∧ ((l.drop (19 + N5)).take (k - (19 + N5))).any (· != 0) = false) (fun i => l.length - (intOf i).toNat)
          case atStart => exact ⟨19 + N5, by omega, by omega, by first | rfl | simp, by simp⟩
          case round =>
            obtain ⟨k, hk0, hk, rfl, hs⟩ := hrel
            by_cases hlt : k < l.length
            · obtain ⟨ad', e, _, hcell⟩ := hrw.at_ (k := k) (by rw [byts_length]; exact hlt)
              injection e with e
              subst e
              have hc1 : wc.cell? (ad.add k) = some (byt l[k]) := by rw [hcell]; simp [byts]
              have hj : k - (19 + N5) < (l.drop (19 + N5)).length := by rw [List.length_drop]; omega
              have hlk : (l.drop (19 + N5))[k - (19 + N5)] = l[k] := by simp; congr 1; omega
              have hs2 : ((l.drop (19 + N5)).take (k + 1 - (19 + N5))).any (· != 0) = (l[k] != 0) := by
                rw [show k + 1 - (19 + N5) = k - (19 + N5) + 1 from by omega, List.take_succ_eq_append_getElem hj, List.any_append, hs, hlk]; simp
              have hs3 : l[k] ≠ 0 → (l.drop (19 + N5)).any (· != 0) = true := fun h => List.any_eq_true.2 ⟨_, List.getElem_mem hj, by rw [hlk]; simpa using h⟩
              clear hlk hcell
              generalize l[k] = b at *
              have hbt : byt b = .int .u8 (b.toNat : Int) := rfl
              rw [hbt] at hc1
              have HS := Lib.hid hs2
              have HT := Lib.hid hs3
              by_cases h0 : b = 0
              · subst h0
                have e0 : wc.cell? (ad.add k) = some (.int .u8 0) := hc1
                clear hs hs2 hs3 hbt hc1
                go_wp2_with fail
                go_round
                case rel => exact ⟨k + 1, by omega, by omega, by go_num, by rw [HS.out]; rfl⟩
                case measure => simp [intOf]; omega
              · have e0 : ((b.toNat : Int) != 0) = true := by
                  rw [bne_iff_ne]; intro h; exact h0 (UInt8.toNat_inj.1 (by have : b.toNat = 0 := by omega
                                                                            simpa using this))
                have hR1 := HR2.out
                rw [if_pos (HT.out h0)] at hR1
                subst hR1
                clear hs hs2 hs3 hbt h0
                go_wp2_with ((with_reducible show wpList _ _ _ (Oper.mk _ (Op.store _ _ _) _ _ _ _ :: _) _ _); refine wpList_st rfl 64 _ _ rfl stHeadR w.heap.size rfl #[.int .u64 0, .int .i64 0, .int .i64 0, .int .i64 0] rfl 64 _ (hB2.drewN nq) rfl rfl (oneHead 0 0 0 0) ?_)
                refine bodyPost_ret (results_cell_tmp2 rfl _ _ w.heap.size 64 _ (0, 0) _ rfl ((hB2.drewN nq).setRow _) Try.underlying64 rfl (by kernel_rfl)) rfl ?_
                exact RdPagePost.bad _ 24 _ (below_setRow' (below_drewN hbw _) (Nat.le_refl _) _)
            · obtain rfl : k = l.length := by omega
              have hR1 := HR2.out
              rw [if_neg (by rw [List.take_of_length_le (by rw [List.length_drop]; omega)] at hs; rw [hs]; simp)] at hR1
              clear hs hlt
              have HR3 := Lib.hid hR1
              clear hR1
              go_wp2_with fail
              have h7 := (hrw.drewN (nq + 1)).cutB 19 N5 c hlc
              rw [if_neg (by omega)] at h7
              simp [Addr.add] at h7
              generalize hA19 : (some (⟨ad.block, ad.off + 19, none⟩ : Addr)) = A19 at h7
              have n19 : ¬ (c = 19) := by omega
              have m1 : 19 + (N5 : Int) ≤ (c : Int) := by omega
              have m2 : (0 : Int) ≤ 19 + (N5 : Int) := by omega
              have m3 : (19 : Int) ≤ max (19 + (N5 : Int)) 0 := by omega
              have m4 : (19 + (N5 : Int)).toNat = 19 + N5 := by omega
              have m5 : (19 : Int) ≤ 19 + (N5 : Int) := by omega
              have l7 : (cutB l 19 N5).length = N5 := by rw [cutB_length l 19 N5 (by omega)]
              have L7 := Lib.hid l7
              clear l7
              have h7E : Rd ((wc.drewN (nq + 1)).alloc (.cells #[] 5)) A19 (byts (cutB l 19 N5)) := h7.alloc _
              have hown : ((wc.drewN (nq + 1)).alloc (.cells #[] 5)).ownsRow wc.heap.size 5 1 (.slice (some ⟨wc.heap.size, 0, none⟩) 0 0) 0 [] := World.ownsRow_made (wc.drewN (nq + 1)) #[] 0 (Nat.le_refl _) (by unfold maxLen; omega) rfl
              have hB5E : Blk ((wc.drewN (nq + 1)).alloc (.cells #[] 5)) V.heap.size 64 #[.int .u64 (N3 : Nat), .int .i64 (N4 : Nat), .int .i64 (N16 : Nat), .int .i64 (N5 : Nat)] := (hB5.drewN (nq + 1)).alloc _
              have hB2E : Blk ((wc.drewN (nq + 1)).alloc (.cells #[] 5)) w.heap.size 64 #[.int .u64 0, .int .i64 0, .int .i64 0, .int .i64 0] := (hB2.drewN (nq + 1)).alloc _
              have d3' := d3
              clear d1 d3
              have v0 : wc.cell? ⟨V.heap.size, 0, none⟩ = some (.int .u64 (N3 : Nat)) := hB5.cell 0
              have v1 : wc.cell? ⟨V.heap.size, 1, none⟩ = some (.int .i64 (N4 : Nat)) := hB5.cell 1
              have v2 : wc.cell? ⟨V.heap.size, 2, none⟩ = some (.int .i64 (N16 : Nat)) := hB5.cell 2
              have v3 : wc.cell? ⟨V.heap.size, 3, none⟩ = some (.int .i64 (N5 : Nat)) := hB5.cell 3
              have u0 : wc.cell? ⟨w.heap.size, 0, none⟩ = some (.int .u64 0) := hB2.cell 0
              have u1 : wc.cell? ⟨w.heap.size, 1, none⟩ = some (.int .i64 0) := hB2.cell 1
              have u2 : wc.cell? ⟨w.heap.size, 2, none⟩ = some (.int .i64 0) := hB2.cell 2
              have u3 : wc.cell? ⟨w.heap.size, 3, none⟩ = some (.int .i64 0) := hB2.cell 3
              have f0' : wc.frozen? ⟨w.heap.size, 0, none⟩ = false := hB2.frozen 0
              have f1' : wc.frozen? ⟨w.heap.size, 1, none⟩ = false := hB2.frozen 1
              have f2' : wc.frozen? ⟨w.heap.size, 2, none⟩ = false := hB2.frozen 2
              have f3' : wc.frozen? ⟨w.heap.size, 3, none⟩ = false := hB2.frozen 3
              have p0 : ((wc.drewN (nq + 1)).alloc (.cells #[] 5)).cell? ⟨V.heap.size, 0, none⟩ = some (.int .u64 (N3 : Nat)) := hB5E.cell 0
              have p1 : ((wc.drewN (nq + 1)).alloc (.cells #[] 5)).cell? ⟨V.heap.size, 1, none⟩ = some (.int .i64 (N4 : Nat)) := hB5E.cell 1
              have p2 : ((wc.drewN (nq + 1)).alloc (.cells #[] 5)).cell? ⟨V.heap.size, 2, none⟩ = some (.int .i64 (N16 : Nat)) := hB5E.cell 2
              have p3 : ((wc.drewN (nq + 1)).alloc (.cells #[] 5)).cell? ⟨V.heap.size, 3, none⟩ = some (.int .i64 (N5 : Nat)) := hB5E.cell 3
              go_region_law ((refine step_app _ rfl _ _ rfl slB wc.heap.size (.slice (some ⟨wc.heap.size, 0, none⟩) 0 0) 0 [] rfl hown A19 N5 (c - 19) (byts (cutB l 19 N5)) rfl (by rw [byts_length, L7.out, Nat.mul_one]) h7E (byts_one _) (by unfold maxLen; omega) (by omega) (by simp) ?_); intro A8 c8 w2 ho8 hg8; have hb8 := hg8.toBelow (B := wc.heap.size) (by simp) (by intro g hg; simp [Value.ownBlock] at hg; omega); have k5 := hB5E.below hb8 hB5.lt; have k2 := hB2E.below hb8 hB2.lt; have x0 : w2.cell? ⟨V.heap.size, 0, none⟩ = some (.int .u64 (N3 : Nat)) := k5.cell 0; have x1 : w2.cell? ⟨V.heap.size, 1, none⟩ = some (.int .i64 (N4 : Nat)) := k5.cell 1; have x2 : w2.cell? ⟨V.heap.size, 2, none⟩ = some (.int .i64 (N16 : Nat)) := k5.cell 2; have x3 : w2.cell? ⟨V.heap.size, 3, none⟩ = some (.int .i64 (N5 : Nat)) := k5.cell 3; have y0 : w2.cell? ⟨w.heap.size, 0, none⟩ = some (.int .u64 0) := k2.cell 0; have y1 : w2.cell? ⟨w.heap.size, 1, none⟩ = some (.int .i64 0) := k2.cell 1; have y2 : w2.cell? ⟨w.heap.size, 2, none⟩ = some (.int .i64 0) := k2.cell 2; have y3 : w2.cell? ⟨w.heap.size, 3, none⟩ = some (.int .i64 0) := k2.cell 3; have z0 : w2.frozen? ⟨w.heap.size, 0, none⟩ = false := k2.frozen 0; have z1 : w2.frozen? ⟨w.heap.size, 1, none⟩ = false := k2.frozen 1; have z2 : w2.frozen? ⟨w.heap.size, 2, none⟩ = false := k2.frozen 2; have z3 : w2.frozen? ⟨w.heap.size, 3, none⟩ = false := k2.frozen 3)
              all_goals
                rw [Nat.zero_add] at *
                go_wp2
                refine bodyPost_ret (results_cell_tmp2 rfl _ _ w.heap.size 64 _ (0, 0) _ rfl (blk_set4 k2 _ _ _ _) Try.underlying64 rfl (by kernel_rfl)) rfl ?_
                rw [← HR3.out]
                refine ⟨A8, c8, cutB l 19 N5, by rw [L7.out]; rfl, rfl, ?_, ?_⟩
                · rw [L7.out]
                  exact own_mono (own_set4 (by simpa using ho8) hB2.lt _ _ _ _) (Nat.le_of_lt hB2.lt)
                · exact ((((((below_drewN hbw (nq + 1)).alloc hbw.size _).trans (hb8.mono hbw.size)).setCell (Nat.le_refl _) _).setCell (Nat.le_refl _) _).setCell (Nat.le_refl _) _).setCell (Nat.le_refl _) _
  · rw [if_pos hne] at hR
    subst hR
    have hne' : ((D2 : Int) != (D1 : Int)) = true := by rw [bne_iff_ne]; omega
    clear hne
    go_enter Try.func57, Try.ntmps57
    go_wp2_with (first
        | (go_at_call 36; refine (hroom _).mono ?_; rintro e w1 ⟨rfl, rfl⟩)
        | (go_at_call 25; refine (hq2 _ h2Z).mono ?_; rintro e w1 ⟨rfl, rfl⟩)
        | (go_at_call 84; refine (hq1 _ h1Z).mono ?_; rintro e w1 ⟨rfl, nd, rfl⟩)
        | ((with_reducible show wpList _ _ _ (Oper.mk _ (Op.store _ _ _) _ _ _ _ :: _) _ _); refine wpList_st rfl 64 _ _ rfl stHeadR w.heap.size rfl #[.int .u64 0, .int .i64 0, .int .i64 0, .int .i64 0] rfl 64 _ (hBz.drewN nd) rfl rfl (oneHead 0 0 0 0) ?_))
    refine bodyPost_ret (results_cell_tmp2 rfl _ _ w.heap.size 64 _ (0, 0) _ rfl ((hBz.drewN nd).setRow _) Try.underlying64 rfl (by kernel_rfl)) rfl ?_
    exact RdPagePost.bad _ 23 _ (below_setRow' (below_drewN hbz nd) (Nat.le_refl _) _)
end Go.Proofs.Ytppfjdohajomoaa
