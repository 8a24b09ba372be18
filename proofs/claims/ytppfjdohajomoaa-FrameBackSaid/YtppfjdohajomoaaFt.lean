/- Pages are read. -/
import Derived.Test.YtppfjdohajomoaaFs
import Derived.Test.YtppfjdohajomoaaFm
import Derived.Test.YtppfjdohajomoaaWd
namespace Go.Proofs.Ytppfjdohajomoaa
open Go.RowKit
set_option maxHeartbeats 2000000
set_option maxRecDepth 100000

/-- what a read page comes back as -/
def RdPagePost (w : World) (R : (Nat × Nat × Nat × Nat) × List UInt8 × Nat) (e : Ending) (w' : World) : Prop :=
  ∃ A' c' out, e = .returned (.tuple #[.agg #[.int .u64 (R.1.1 : Nat), .int .i64 (R.1.2.1 : Nat), .int .i64 (R.1.2.2.1 : Nat), .int .i64 (R.1.2.2.2 : Nat)], .slice A' out.length c', .int .i64 (R.2.2 : Nat)]) ∧ out = R.2.1 ∧
      w'.ownsRow w.heap.size 5 1 (.slice A' out.length c') out.length (byts out) ∧ Below w.heap.size w w'
theorem RdPagePost.bad (w : World) (k : Nat) (w' : World) (hb : Below w.heap.size w w') : RdPagePost w ((0, 0, 0, 0), [], k) (.returned (.tuple #[.agg #[.int .u64 0, .int .i64 0, .int .i64 0, .int .i64 0], .slice none 0 0, .int .i64 (k : Nat)])) w' :=
  ⟨none, 0, [], rfl, rfl, World.ownsRow_nil _ _ _ _, hb⟩

theorem stHead : StT Try.prog 46 4 := ⟨⟨_, Try.underlying46⟩, by kernel_rfl⟩
theorem cell_blk {W : World} {p : Addr} {u : Value} (h : W.cell? p = some u) : p.block < W.heap.size := by
  rcases Nat.lt_or_ge p.block W.heap.size with hlt | hge
  · exact hlt
  · exfalso
    unfold World.cell? at h
    rw [Array.getElem?_eq_none hge] at h
    cases h
theorem blk_set4 {w : World} {g : Nat} {t : TypeId} {z0 z1 z2 z3 : Value} (h : Blk w g t #[z0, z1, z2, z3]) (a b c d : Value) :
    Blk ((((w.setCell ⟨g, 0, none⟩ a).setCell ⟨g, 1, none⟩ b).setCell ⟨g, 2, none⟩ c).setCell ⟨g, 3, none⟩ d) g t #[a, b, c, d] := by
  have := (((h.set 0 a).set 1 b).set 2 c).set 3 d
  simpa using this
theorem own_set4 {w : World} {g base : Nat} {e : TypeId} {size n : Nat} {v : Value} {xs : List Value} (h : w.ownsRow base e size v n xs) (hg : g < base) (a b c d : Value) :
    ((((w.setCell ⟨g, 0, none⟩ a).setCell ⟨g, 1, none⟩ b).setCell ⟨g, 2, none⟩ c).setCell ⟨g, 3, none⟩ d).ownsRow base e size v n xs :=
  ownsRow_setCell_below (ownsRow_setCell_below (ownsRow_setCell_below (ownsRow_setCell_below h hg a) hg b) hg c) hg d
theorem oneHead (s a b c : Int) : (#[Value.int .u64 s, .int .i64 a, .int .i64 b, .int .i64 c] : Array Value).all (·.oneCell') = true := by simp [Value.oneCell']
theorem leN_bound (l : List UInt8) (k : Nat) (h : l.length ≤ k) : leN l < 256 ^ k := Nat.lt_of_lt_of_le (leN_lt l) (Nat.pow_le_pow_right (by omega) h)

theorem readPage_big (A : Option Addr) (c : Nat) (l : List UInt8) (w : World) (hr : Rd w A (byts l)) (hl0 : 32 ≤ l.length) (hl1 : l.length ≤ 65536) (hlc : l.length ≤ c) :
    Calls Try.prog 56 #[.slice A l.length c] w (RdPagePost w (rdPage ((l.length : Int) - 19) l)) := by
  have hroom : ∀ W, Calls Try.prog 35 #[.int .i64 (l.length : Nat)] W fun e w' => e = .returned (.int .i64 ((l.length : Int) - 19)) ∧ W = w' := fun W => by
    have := room_any l.length W
    rw [show roomN (l.length : Int) = (l.length : Int) - 19 from by unfold roomN; rw [if_neg (by omega), if_neg (by omega)]] at this
    exact this
  have hroom' : ∀ W, Calls Try.prog 35 #[.int .i64 (l.length : Nat)] W fun e w' => e = .returned (.int .i64 ((l.length : Int) - 19)) ∧ w' = W := fun W => (hroom W).mono fun e w' h => ⟨h.1, h.2.symm⟩
  have f0 : ((l.length : Int) - 19 == 0) = false := by simp; omega
  generalize hR : rdPage ((l.length : Int) - 19) l = R
  unfold rdPage at hR
  rw [if_neg (by omega)] at hR
  -- the parts
  have h1 : Rd w A (byts (l.take 4)) := by have := hr.take 4; simpa [byts] using this
  have h2 := hr.drop 4 c (by rw [byts_length]; exact hlc)
  rw [show (byts l).drop 4 = byts (l.drop 4) from by simp [byts], if_neg (by omega)] at h2
  have h3 := hr.cutB 4 8 c hlc
  have h4 := hr.cutB 12 4 c hlc
  have h5 := hr.cutB 17 2 c hlc
  rw [if_neg (by omega)] at h3 h4 h5
  have k4 : (fun a : Addr => a.add 4) = fun a => ⟨a.block, a.off + 4, none⟩ := by funext a; simp [Addr.add]
  have k12 : (fun a : Addr => a.add 12) = fun a => ⟨a.block, a.off + 12, none⟩ := by funext a; simp [Addr.add]
  have k17 : (fun a : Addr => a.add 17) = fun a => ⟨a.block, a.off + 17, none⟩ := by funext a; simp [Addr.add]
  rw [k4] at h2 h3
  rw [k12] at h4
  rw [k17] at h5
  generalize hA4 : (A.map fun a => (⟨a.block, a.off + 4, none⟩ : Addr)) = A4 at *
  generalize hA12 : (A.map fun a => (⟨a.block, a.off + 12, none⟩ : Addr)) = A12 at *
  generalize hA17 : (A.map fun a => (⟨a.block, a.off + 17, none⟩ : Addr)) = A17 at *
  clear k4 k12 k17
  have l1 : (l.take 4).length = 4 := by simp; omega
  have l2 : (l.drop 4).length = l.length - 4 := List.length_drop
  have l3 := cutB_length l 4 8 (by omega)
  have l4 := cutB_length l 12 4 (by omega)
  have l5 := cutB_length l 17 2 (by omega)
  have hq1 : ∀ W : World, Rd W A (byts (l.take 4)) → Calls Try.prog 83 #[.slice A 4 c] W fun e w' => e = .returned (.int .u64 (leN (l.take 4) : Nat)) ∧ W = w' := fun W hW => by
    have := num_any A c (l.take 4) W hW (by omega)
    rw [l1] at this
    exact this
  have hq2 : ∀ (W : World) (g : Nat), Rd W (some ⟨g, 0, none⟩) [.slice A4 (l.length - 4) (c - 4)] → Rd W A4 (byts (l.drop 4)) → Calls Try.prog 24 #[.slice (some ⟨g, 0, none⟩) 1 1] W fun e w' => e = .returned (.int .u32 (crcB (l.drop 4) : Nat)) ∧ Below W.heap.size W w' := fun W g hg hW => by
    have := sum_any (some ⟨g, 0, none⟩) 1 [⟨A4, c - 4, l.drop 4⟩] W (by simpa [Sb.val, l2] using hg) (by simp) (by
      intro s hs
      simp only [List.mem_cons, List.not_mem_nil, or_false] at hs
      subst hs
      exact ⟨hW, by show (l.drop 4).length ≤ c - 4; omega, by show (l.drop 4).length ≤ _; omega⟩)
    simpa [flat] using this
  have hq3 : ∀ W : World, Rd W A4 (byts (cutB l 4 8)) → Calls Try.prog 83 #[.slice A4 8 (c - 4)] W fun e w' => e = .returned (.int .u64 (leN (cutB l 4 8) : Nat)) ∧ w' = W := fun W hW => by
    have := num_any A4 (c - 4) (cutB l 4 8) W hW (by omega)
    rw [l3] at this
    exact this.mono fun e w' h => ⟨h.1, h.2.symm⟩
  have hq4 : ∀ W : World, Rd W A12 (byts (cutB l 12 4)) → Calls Try.prog 83 #[.slice A12 4 (c - 12)] W fun e w' => e = .returned (.int .u64 (leN (cutB l 12 4) : Nat)) ∧ w' = W := fun W hW => by
    have := num_any A12 (c - 12) (cutB l 12 4) W hW (by omega)
    rw [l4] at this
    exact this.mono fun e w' h => ⟨h.1, h.2.symm⟩
  have hq5 : ∀ W : World, Rd W A17 (byts (cutB l 17 2)) → Calls Try.prog 83 #[.slice A17 2 (c - 17)] W fun e w' => e = .returned (.int .u64 (leN (cutB l 17 2) : Nat)) ∧ w' = W := fun W hW => by
    have := num_any A17 (c - 17) (cutB l 17 2) W hW (by omega)
    rw [l5] at this
    exact this.mono fun e w' h => ⟨h.1, h.2.symm⟩
  have b1 := leN_bound (l.take 4) 4 (by omega)
  have b2 := crcB_lt (l.drop 4)
  have b3 := leN_bound (cutB l 4 8) 8 (by omega)
  have b4 := leN_bound (cutB l 12 4) 4 (by omega)
  have b5 := leN_bound (cutB l 17 2) 2 (by omega)
  simp only [Nat.reducePow] at b1 b3 b4 b5
  generalize hD1 : leN (l.take 4) = D1 at *
  generalize hD2 : crcB (l.drop 4) = D2 at *
  generalize hN3 : leN (cutB l 4 8) = N3 at *
  generalize hN4 : leN (cutB l 12 4) = N4 at *
  generalize hN5 : leN (cutB l 17 2) = N5 at *
  have f2 : IntKind.u64.wrap (D2 : Int) = (D2 : Int) := by rw [IntKind.wrap_u64]; omega
  have t1 : (4 : Int) ≤ (c : Int) := by omega
  have t2 : (4 : Int) ≤ (l.length : Int) := by omega
  have HR := Lib.hid hR
  clear hR l1 l2 l3 l4 l5 hD1 hD2 hN3 hN4 hN5
  go_enter Try.func56, Try.ntmps56
  go_upto_region 3 with (first | (go_at_call 35; refine (hroom _).mono ?_; rintro e w1 ⟨rfl, rfl⟩))
  generalize hW : w.alloc _ = W
  have hbW : Below w.heap.size w W := by rw [← hW]; exact (Below.refl _ _).alloc (Nat.le_refl _) _
  have hBz : Blk W w.heap.size 46 #[.int .u64 0, .int .i64 0, .int .i64 0, .int .i64 0] := by rw [← hW]; exact Blk.new _ _ _
  have hsW : w.heap.size < W.heap.size := hBz.lt
  clear hW
  have h1W := h1.below hbW
  have h2W := h2.below hbW
  go_cut [19] (fun s19 wx => s19 = .bool ((D1 : Int) != (D2 : Int)) ∧ Below W.heap.size W wx)
  case first =>
    go_region_with (first
      | (go_at_call 83; refine (hq1 _ ?_).mono ?_; (first | exact h1W | exact h1W.alloc _); rintro e w' ⟨rfl, rfl⟩)
      | (go_at_call 24; refine (hq2 _ _ ?_ ?_).mono ?_; (first | exact Rd.one _ _ _); (first | exact h2W.alloc _); rintro e w2 ⟨rfl, hb2⟩))
    all_goals
      have hbb : Below W.heap.size W w2 := (((Below.refl _ _).drew).alloc (Nat.le_refl _) _).trans (hb2.mono (by simp))
      go_wp2_with fail
      go_meet
      exact ⟨rfl, hbb⟩
  case rest =>
    obtain ⟨rfl, hb3⟩ := hcut
    have hBc := hBz.below' hb3
    have hbc : Below w.heap.size w wc := hbW.trans (hb3.mono (Nat.le_of_lt hsW))
    have hR1 := HR.out
    by_cases hne : D1 = D2
    · rw [if_neg (by simp [hne])] at hR1
      have hne' : ((D1 : Int) != (D2 : Int)) = false := by rw [bne_eq_false_iff_eq]; omega
      clear HR hne
      go_upto_region 5 with fail
      obtain ⟨V, rfl⟩ : ∃ V, V = wc := ⟨wc, rfl⟩
      cases A with
      | none => exact absurd (byts_length l) (by rw [hr.eq_nil]; show ¬ 0 = l.length; omega)
      | some ad =>
      simp only [Option.map_some] at hA4 hA12 hA17
      have c16 : V.cell? (ad.add 16) = some (.int .u8 ((l[16]'(by omega)).toNat : Int)) := by
        obtain ⟨ad', e, _, h⟩ := (hr.below hbc) (by intro e; have := byts_length l; rw [e] at this; change 0 = l.length at this; omega)
        injection e with e
        subst e
        have := h 16 _ (byts_get l 16 (by omega))
        exact this
      simp [Addr.add] at c16
      have h3W := h3.below hbc
      have h4W := h4.below hbc
      have h5W := h5.below hbc
      have t3 : (16 : Int) < (l.length : Int) := by omega
      have t4 : (12 : Int) ≤ (c : Int) := by omega
      have t5 : (16 : Int) ≤ (c : Int) := by omega
      have t6 : (19 : Int) ≤ (c : Int) := by omega
      have t7 : (12 : Int) ≤ (l.length : Int) := by omega
      have t8 : (19 : Int) ≤ (l.length : Int) := by omega
      have e4 : IntKind.i64.wrap (N4 : Int) = (N4 : Int) := IntWalk.i64_in _ (by omega)
      have e5 : IntKind.i64.wrap (N5 : Int) = (N5 : Int) := IntWalk.i64_in _ (by omega)
      have g16 : l.getD 16 0 = l[16]'(by omega) := by simp [List.getD, List.getElem?_eq_getElem (show 16 < l.length by omega)]
      rw [g16] at hR1
      generalize h16 : ((l[16]'(by omega)).toNat) = N16 at *
      have e16 : IntKind.i64.wrap (N16 : Int) = (N16 : Int) := by rw [← h16]; have := (l[16]'(by omega)).toNat_lt; exact IntWalk.i64_in _ (by omega)
      have HRR := Lib.hid hR1
      clear hR1 h16
      have h3D := h3W.drew
      have h3E := (h3W.alloc (.cells #[.int .u64 0, .int .i64 0, .int .i64 0, .int .i64 0] 46)).drew
      have h4D := h4W.drew
      have h4E := (h4W.alloc (.cells #[.int .u64 0, .int .i64 0, .int .i64 0, .int .i64 0] 46)).drew
      have h5D := h5W.drew
      have h5E := (h5W.alloc (.cells #[.int .u64 0, .int .i64 0, .int .i64 0, .int .i64 0] 46)).drew
      have hcE : (V.alloc (.cells #[.int .u64 0, .int .i64 0, .int .i64 0, .int .i64 0] 46)).cell? ⟨ad.block, ad.off + 16, none⟩ = some (.int .u8 (N16 : Int)) := (World.cell?_alloc_lt V _ _ (cell_blk c16)).trans c16
      have n4 : ¬ (c = 4) := by omega
      have n12 : ¬ (c = 12) := by omega
      have n17 : ¬ (c = 17) := by omega
      go_cut [5] (fun s5 wx => s5 = .pointer (some ⟨V.heap.size, 0, none⟩) ∧ Blk wx V.heap.size 46 #[.int .u64 (N3 : Nat), .int .i64 (N4 : Nat), .int .i64 (N16 : Nat), .int .i64 (N5 : Nat)] ∧ Below V.heap.size V wx)
      case first =>
        go_region_law (first
          | (go_simp; go_at_call 83; (first | with_reducible refine (hq3 V.drew h3D).mono ?_ | with_reducible refine (hq3 (V.alloc (.cells #[.int .u64 0, .int .i64 0, .int .i64 0, .int .i64 0] 46)).drew h3E).mono ?_); rintro e w' ⟨rfl, rfl⟩)
          | (go_simp; go_at_call 83; (first | with_reducible refine (hq4 V.drew h4D).mono ?_ | with_reducible refine (hq4 (V.alloc (.cells #[.int .u64 0, .int .i64 0, .int .i64 0, .int .i64 0] 46)).drew h4E).mono ?_); rintro e w' ⟨rfl, rfl⟩)
          | (go_simp; go_at_call 83; (first | with_reducible refine (hq5 V.drew h5D).mono ?_ | with_reducible refine (hq5 (V.alloc (.cells #[.int .u64 0, .int .i64 0, .int .i64 0, .int .i64 0] 46)).drew h5E).mono ?_); rintro e w' ⟨rfl, rfl⟩))
        all_goals
          go_wp2_with fail
          go_meet
          exact ⟨rfl, (Blk.new V _ _).drew, ((Below.refl _ _).alloc (Nat.le_refl _) _).drew⟩
      case rest =>
        obtain ⟨rfl, hB5, hb5⟩ := hcut
        have hB2 := hBc.below' hb5
        have hbw : Below w.heap.size w wc := hbc.trans (hb5.mono hbc.size)
        have d1 : wc.cell? ⟨V.heap.size, 1, none⟩ = some (.int .i64 (N4 : Nat)) := hB5.cell 1
        have d3 : wc.cell? ⟨V.heap.size, 3, none⟩ = some (.int .i64 (N5 : Nat)) := hB5.cell 3
        have hR1 := HRR.out
        by_cases hrow : 1073741824 < N4
        · rw [if_pos (Or.inl hrow)] at hR1
          subst hR1
          have hrow' : (1073741824 : Int) < (N4 : Int) := by omega
          clear hrow HRR
          go_wp2_with fail
          go_quiet (fail)
          go_wp2_with ((with_reducible show wpList _ _ _ (Oper.mk _ (Op.store _ _ _) _ _ _ _ :: _) _ _); refine wpList_st rfl 46 _ _ rfl stHead w.heap.size rfl #[.int .u64 0, .int .i64 0, .int .i64 0, .int .i64 0] rfl 46 _ (hB2.drewN nq) rfl rfl (oneHead 0 0 0 0) ?_)
          refine bodyPost_ret (results_cell_tmp2 rfl _ _ w.heap.size 46 _ (0, 0) _ rfl ((hB2.drewN nq).setRow _) Try.underlying46 rfl (by kernel_rfl)) rfl ?_
          exact RdPagePost.bad _ 24 _ (below_setRow' (below_drewN hbw _) (Nat.le_refl _) _)
        · have hrow' : ¬ (1073741824 : Int) < (N4 : Int) := by omega
          by_cases hlong : (l.length : Int) - 19 < (N5 : Int)
          · rw [if_pos (Or.inr hlong)] at hR1
            subst hR1
            clear hrow HRR
            go_wp2_with fail
            go_quiet ((go_at_call 35; exact Calls.quiet_of_same (hroom' _)))
            go_wp2_with ((with_reducible show wpList _ _ _ (Oper.mk _ (Op.store _ _ _) _ _ _ _ :: _) _ _); refine wpList_st rfl 46 _ _ rfl stHead w.heap.size rfl #[.int .u64 0, .int .i64 0, .int .i64 0, .int .i64 0] rfl 46 _ (hB2.drewN nq) rfl rfl (oneHead 0 0 0 0) ?_)
            refine bodyPost_ret (results_cell_tmp2 rfl _ _ w.heap.size 46 _ (0, 0) _ rfl ((hB2.drewN nq).setRow _) Try.underlying46 rfl (by kernel_rfl)) rfl ?_
            exact RdPagePost.bad _ 24 _ (below_setRow' (below_drewN hbw _) (Nat.le_refl _) _)
          · rw [if_neg (by omega)] at hR1
            clear hrow HRR
            go_wp2_with fail
            go_quiet ((go_at_call 35; exact Calls.quiet_of_same (hroom' _)))
            have hrw : Rd (wc.drewN nq) (some ad) (byts l) := (hr.below hbw).drewN nq
            have h6 := hrw.drop (19 + N5) c (by rw [byts_length]; exact hlc)
            rw [show (byts l).drop (19 + N5) = byts (l.drop (19 + N5)) from by simp [byts]] at h6
            simp only [Option.map_some] at h6
            have hcf := containsFunc_any (if c = 19 + N5 then some ad else some (ad.add (19 + N5))) (c - (19 + N5)) (l.drop (19 + N5)) (wc.drewN nq) h6 (by rw [List.length_drop]; omega)
            rw [List.length_drop] at hcf
            generalize hAD : (if c = 19 + N5 then some ad else some (ad.add (19 + N5))) = AD at *
            generalize hany : (l.drop (19 + N5)).any (· != 0) = bad at *
            clear hany h6
            cases bad with
            | true =>
              rw [if_pos rfl] at hR1
              subst hR1
              go_wp2_with (first
                | (go_at_call 86; refine hcf.mono ?_; rintro e w' ⟨rfl, rfl⟩)
                | ((with_reducible show wpList _ _ _ (Oper.mk _ (Op.store _ _ _) _ _ _ _ :: _) _ _); refine wpList_st rfl 46 _ _ rfl stHead w.heap.size rfl #[.int .u64 0, .int .i64 0, .int .i64 0, .int .i64 0] rfl 46 _ (hB2.drewN nq) rfl rfl (oneHead 0 0 0 0) ?_))
              refine bodyPost_ret (results_cell_tmp2 rfl _ _ w.heap.size 46 _ (0, 0) _ rfl ((hB2.drewN nq).setRow _) Try.underlying46 rfl (by kernel_rfl)) rfl ?_
              exact RdPagePost.bad _ 24 _ (below_setRow' (below_drewN hbw _) (Nat.le_refl _) _)
            | false =>
              rw [if_neg (by simp)] at hR1
              have HR2 := Lib.hid hR1
              clear hR1
              go_wp2_with (go_at_call 86; refine hcf.mono ?_; rintro e w' ⟨rfl, rfl⟩)
              have h7 := ((hr.below hbw).drewN (nq + 1)).cutB 19 N5 c hlc
              rw [if_neg (by omega)] at h7
              simp [Addr.add] at h7
              have v0 : wc.cell? ⟨V.heap.size, 0, none⟩ = some (.int .u64 (N3 : Nat)) := hB5.cell 0
              have v1 : wc.cell? ⟨V.heap.size, 1, none⟩ = some (.int .i64 (N4 : Nat)) := hB5.cell 1
              have v2 : wc.cell? ⟨V.heap.size, 2, none⟩ = some (.int .i64 (N16 : Nat)) := hB5.cell 2
              have v3 : wc.cell? ⟨V.heap.size, 3, none⟩ = some (.int .i64 (N5 : Nat)) := hB5.cell 3
              have u0 : wc.cell? ⟨w.heap.size, 0, none⟩ = some (.int .u64 0) := hB2.cell 0
              have u1 : wc.cell? ⟨w.heap.size, 1, none⟩ = some (.int .i64 0) := hB2.cell 1
              have u2 : wc.cell? ⟨w.heap.size, 2, none⟩ = some (.int .i64 0) := hB2.cell 2
              have u3 : wc.cell? ⟨w.heap.size, 3, none⟩ = some (.int .i64 0) := hB2.cell 3
              have f0' : wc.frozen? ⟨w.heap.size, 0, none⟩ = false := hB2.frozen 0
              have f1' : wc.frozen? ⟨w.heap.size, 1, none⟩ = false := hB2.frozen 1
              have f2' : wc.frozen? ⟨w.heap.size, 2, none⟩ = false := hB2.frozen 2
              have f3' : wc.frozen? ⟨w.heap.size, 3, none⟩ = false := hB2.frozen 3
              generalize hA19 : (some (⟨ad.block, ad.off + 19, none⟩ : Addr)) = A19 at h7
              have n19 : ¬ (c = 19) := by omega
              have m0 : IntKind.i64.wrap (19 + (N5 : Int)) = 19 + (N5 : Int) := IntWalk.i64_in _ (by omega)
              have m1 : 19 + (N5 : Int) ≤ (c : Int) := by omega
              have m2 : (0 : Int) ≤ 19 + (N5 : Int) := by omega
              have m3 : (19 : Int) ≤ max (19 + (N5 : Int)) 0 := by omega
              have m4 : (19 + (N5 : Int)).toNat = 19 + N5 := by omega
              have m5 : (19 : Int) ≤ 19 + (N5 : Int) := by omega
              have l7 : (cutB l 19 N5).length = N5 := by rw [cutB_length l 19 N5 (by omega)]
              have hcl := clone_any A19 (c - 19) (cutB l 19 N5) (wc.drewN (nq + 1)) h7 (by omega)
              rw [l7] at hcl
              have L7 := Lib.hid l7
              clear l7
              go_region_law (go_simp; go_at_call 81; (with_reducible refine hcl.mono ?_); rintro e w2 ⟨A8, c8, rfl, ho8, hb8⟩; have k5 := (hB5.drewN (nq + 1)).below' hb8; have k2 := (hB2.drewN (nq + 1)).below' hb8; have x0 : w2.cell? ⟨V.heap.size, 0, none⟩ = some (.int .u64 (N3 : Nat)) := k5.cell 0; have x1 : w2.cell? ⟨V.heap.size, 1, none⟩ = some (.int .i64 (N4 : Nat)) := k5.cell 1; have x2 : w2.cell? ⟨V.heap.size, 2, none⟩ = some (.int .i64 (N16 : Nat)) := k5.cell 2; have x3 : w2.cell? ⟨V.heap.size, 3, none⟩ = some (.int .i64 (N5 : Nat)) := k5.cell 3; have y0 : w2.cell? ⟨w.heap.size, 0, none⟩ = some (.int .u64 0) := k2.cell 0; have y1 : w2.cell? ⟨w.heap.size, 1, none⟩ = some (.int .i64 0) := k2.cell 1; have y2 : w2.cell? ⟨w.heap.size, 2, none⟩ = some (.int .i64 0) := k2.cell 2; have y3 : w2.cell? ⟨w.heap.size, 3, none⟩ = some (.int .i64 0) := k2.cell 3; have z0 : w2.frozen? ⟨w.heap.size, 0, none⟩ = false := k2.frozen 0; have z1 : w2.frozen? ⟨w.heap.size, 1, none⟩ = false := k2.frozen 1; have z2 : w2.frozen? ⟨w.heap.size, 2, none⟩ = false := k2.frozen 2; have z3 : w2.frozen? ⟨w.heap.size, 3, none⟩ = false := k2.frozen 3)
              all_goals
                go_wp2
                refine bodyPost_ret (results_cell_tmp2 rfl _ _ w.heap.size 46 _ (0, 0) _ rfl (blk_set4 k2 _ _ _ _) Try.underlying46 rfl (by kernel_rfl)) rfl ?_
                rw [← HR2.out]
                refine ⟨A8, c8, cutB l 19 N5, by rw [L7.out]; rfl, rfl, ?_, ?_⟩
                · rw [L7.out]
                  exact own_mono (own_set4 ho8 hB2.lt _ _ _ _) (Nat.le_of_lt hB2.lt)
                · exact (((((below_drewN hbw (nq + 1)).trans (hb8.mono hbw.size)).setCell (Nat.le_refl _) _).setCell (Nat.le_refl _) _).setCell (Nat.le_refl _) _).setCell (Nat.le_refl _) _
    · rw [if_pos hne] at hR1
      subst hR1
      have hne' : ((D1 : Int) != (D2 : Int)) = true := by rw [bne_iff_ne]; omega
      clear HR hne
      go_wp2_with ((with_reducible show wpList _ _ _ (Oper.mk _ (Op.store _ _ _) _ _ _ _ :: _) _ _); go_loud (refine wpList_st rfl 46 _ _ rfl stHead w.heap.size rfl #[.int .u64 0, .int .i64 0, .int .i64 0, .int .i64 0] rfl 46 _ hBc rfl rfl (oneHead 0 0 0 0) ?_))
      refine bodyPost_ret (results_cell_tmp2 rfl _ _ w.heap.size 46 _ (0, 0) _ rfl (hBc.setRow _) Try.underlying46 rfl (by kernel_rfl)) rfl ?_
      exact RdPagePost.bad _ 23 _ (below_setRow' hbc (Nat.le_refl _) _)
end Go.Proofs.Ytppfjdohajomoaa
