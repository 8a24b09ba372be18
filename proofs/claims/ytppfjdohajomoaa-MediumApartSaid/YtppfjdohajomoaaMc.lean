/- Mediums: Chain. -/
import Derived.Test.YtppfjdohajomoaaMb
import Derived.Test.YtppfjdohajomoaaWc
namespace Go.Proofs.Ytppfjdohajomoaa
open Go.RowKit
set_option maxHeartbeats 2000000
set_option maxRecDepth 100000

theorem slPl : SlT Try.prog 32 35 (.agg #[.int .u64 0, .int .i64 0]) 2 16 := ⟨Try.underlying32, by kernel_rfl, rfl, by decide⟩
def plcs (l : List (Nat × Int)) : List Value := l.flatMap fun p => [.int .u64 (p.1 : Nat), .int .i64 p.2]
theorem plcs_length (l : List (Nat × Int)) : (plcs l).length = l.length * 2 := by
  induction l with
  | nil => rfl
  | cons p l ih => simp only [plcs, List.flatMap_cons, List.length_append, List.length_cons, List.length_nil] at ih ⊢; omega
theorem plcs_append (a b : List (Nat × Int)) : plcs (a ++ b) = plcs a ++ plcs b := by simp [plcs]

theorem TabAt.belowB {w w' : World} {T M depth next n B : Nat} {f : Nat → Option Med} (h : TabAt w T M depth next n f) (hb : Below B w w') (h1 : T < B) (h2 : M < B) : TabAt w' T M depth next n f := ⟨h.blk.below hb h1, h.mp.below hb h2, h.ne⟩
theorem own_setC {w : World} {g base i : Nat} {e : TypeId} {size n : Nat} {v : Value} {xs : List Value} (h : w.ownsRow base e size v n xs) (hg : g < base) (u : Value) : (w.setCell ⟨g, i, none⟩ u).ownsRow base e size v n xs := by
  refine ⟨h.1, ?_⟩
  rcases h.2 with h0 | ⟨g', cap, cur, rfl, hbg, hg', r⟩
  · exact .inl h0
  · exact .inr ⟨g', cap, cur, rfl, hbg, (Below.heap_setCell w _ _ g' (by show g' ≠ g; omega)).trans hg', r⟩
theorem own_set5 {w : World} {g base : Nat} {e : TypeId} {size n : Nat} {v : Value} {xs : List Value} (h : w.ownsRow base e size v n xs) (hg : g < base) (a b c d e' : Value) :
    (((((w.setCell ⟨g, 0, none⟩ a).setCell ⟨g, 1, none⟩ b).setCell ⟨g, 2, none⟩ c).setCell ⟨g, 3, none⟩ d).setCell ⟨g, 4, none⟩ e').drew.ownsRow base e size v n xs :=
  own_setC (own_setC (own_setC (own_setC (own_setC h hg _) hg _) hg _) hg _) hg _

/-- the places that a block may lie at; so many are left -/
def chainL (f : Nat → Option Med) : Nat → Option Med → Int → List (Nat × Int)
  | 0, _, _ => []
  | _ + 1, none, _ => []
  | j + 1, some x, b => if 0 ≤ b ∧ b < x.size then (x.id, b) :: (if x.tgt = 0 then [] else chainL f j (f x.tgt) (b + x.at_)) else []
def chainP (f : Nat → Option Med) (depth id : Nat) (b : Int) : List (Nat × Int) := chainL f depth (f id) b

theorem chain_any (T M depth next n id : Nat) (b : Int) (f : Nat → Option Med) (w : World) (h : TabAt w T M depth next n f) (hf : WFm f) (hd0 : 1 ≤ depth) (hd : depth ≤ 64) (hid : id < 18446744073709551616) (hb0 : -9223372036854775808 ≤ b) (hb1 : b ≤ 9223372036854775807) :
    Calls Try.prog 21 #[.pointer (some ⟨T, 0, none⟩), .int .u64 (id : Nat), .int .i64 b] w fun e w' => ∃ A' c', e = .returned (.slice A' (chainP f depth id b).length c') ∧
      w'.ownsRow w.heap.size 35 2 (.slice A' (chainP f depth id b).length c') (chainP f depth id b).length (plcs (chainP f depth id b)) ∧ Below w.heap.size w w' := by
  have hc2 := h.c2
  have hlk := h.mp.look hid
  unfold chainP
  generalize hR : chainL f depth (f id) b = R
  have HR := Lib.hid hR
  clear hR
  have hct : ∀ m, f id = some m → m.id < 18446744073709551616 ∧ m.tgt < 18446744073709551616 ∧ 0 ≤ m.at_ ∧ m.at_ ≤ 1048576 ∧ 1 ≤ m.size ∧ m.size ≤ 1048576 := fun m hm => hf id m hm
  generalize f id = cur at *
  unfold Med.val at hlk
  have hz : Blk (w.alloc (.cells (cur.getD Med.zero).cells 130)) w.heap.size 130 (cur.getD Med.zero).cells := Blk.new _ _ _
  have hbz : Below w.heap.size w (w.alloc (.cells (cur.getD Med.zero).cells 130)) := (Below.refl _ _).alloc (Nat.le_refl _) _
  go_enter Try.func21, Try.ntmps21
  go_wp2
  go_step3
  go_wp2
  go_step3
  go_wp2
  clear hlk hc2
  go_loopw [2, 7, 9] (fun s2 s7 s9 wr => ∃ (bb : Int) (L : List (Nat × Int)) (A : Option Addr) (cp : Nat) (c : Option Med), s2 = .int .i64 bb ∧ -9223372036854775808 ≤ bb ∧ bb ≤ 9223372036854775807 ∧ s7 = .slice A L.length cp ∧ L.length < depth ∧
      s9 = .bool c.isSome ∧ Blk wr w.heap.size 130 (c.getD Med.zero).cells ∧ wr.ownsRow (w.heap.size + 1) 35 2 (.slice A L.length cp) L.length (plcs L) ∧
      (∀ m, c = some m → m.id < 18446744073709551616 ∧ m.tgt < 18446744073709551616 ∧ 0 ≤ m.at_ ∧ m.at_ ≤ 1048576 ∧ 1 ≤ m.size ∧ m.size ≤ 1048576) ∧ Below w.heap.size w wr ∧ L ++ chainL f (depth - L.length) c bb = R)
    (fun _ s7 _ _ => depth - (match s7 with | .slice _ k _ => k | _ => 0))
  case atStart => exact ⟨b, [], none, 0, cur, rfl, hb0, hb1, rfl, by simp; omega, rfl, hz, World.ownsRow_nil _ _ _ _, hct, hbz, by simpa using HR.out⟩
  case round =>
    obtain ⟨bb, L, A, cp, c, rfl, hbb0, hbb1, rfl, hL, rfl, hB, hown, hct, hbw, hR⟩ := hrel
    clear HR hz hbz
    have hT := h.below hbw
    cases c with
    | none =>
      have hRk : R = L := by rw [← hR]; cases (depth - L.length) <;> simp [chainL]
      subst hRk
      clear hR
      go_wp2
      (try rw [Exit.noGoto_ret])
      go_ret
      exact ⟨A, cp, rfl, own_mono hown (by omega), hbw⟩
    | some x =>
      obtain ⟨xi, xt, xa, xs, xf⟩ := x
      obtain ⟨hxi, hxt, hxa0, hxa1, hxs0, hxs1⟩ := hct _ rfl
      simp only at hxi hxt hxa0 hxa1 hxs0 hxs1
      simp only [Option.getD_some, Med.cells] at hB
      have x0 : wr.cell? ⟨w.heap.size, 0, none⟩ = some (.int .u64 (xi : Nat)) := hB.cell 0
      have x1 : wr.cell? ⟨w.heap.size, 1, none⟩ = some (.int .u64 (xt : Nat)) := hB.cell 1
      have x2 : wr.cell? ⟨w.heap.size, 2, none⟩ = some (.int .i64 xa) := hB.cell 2
      have x3 : wr.cell? ⟨w.heap.size, 3, none⟩ = some (.int .i64 xs) := hB.cell 3
      have x4 : wr.cell? ⟨w.heap.size, 4, none⟩ = some (.bool xf) := hB.cell 4
      obtain ⟨j, hj⟩ : ∃ j, depth - L.length = j + 1 := ⟨depth - L.length - 1, by omega⟩
      by_cases hbb : 0 ≤ bb ∧ bb < xs
      · rw [hj, chainL, if_pos hbb] at hR
        obtain ⟨hbp, hbs⟩ := hbb
        have hrd := Rd.many wr (plcs [(xi, bb)]) 35
        have hRd2 : Rd (wr.alloc (.cells #[.int .u64 (xi : Nat), .int .i64 bb] 35)) (some ⟨wr.heap.size, 0, none⟩) (plcs [(xi, bb)]) := hrd
        clear hrd
        have Hj := Lib.hid hj
        clear hj
        by_cases hxt0 : xt = 0
        · rw [if_pos hxt0] at hR
          have k0 : ((xt : Int) == 0) = true := by simp [hxt0]
          clear hxt0
          have HR := Lib.hid hR
          clear hR
          go_wp2_with (at_builtin; refine wpList_app _ rfl _ _ rfl slPl (w.heap.size + 1) (.slice A L.length cp) L.length (plcs L) rfl (hown.alloc _) (some ⟨wr.heap.size, 0, none⟩) 1 1 (plcs [(xi, bb)]) rfl rfl hRd2 (by simp [plcs, Value.oneCell']) (by unfold maxLen; omega) (by omega) (by have := hB.lt; simp; omega) ?_; intro A2 c2 w2 ho2 hg2; have hbl : Below (w.heap.size + 1) (wr.alloc (.cells #[.int .u64 (xi : Nat), .int .i64 bb] 35)) w2 := hg2.toBelow (by have := hB.lt; simp; omega) (fun g hg => (hown.lt g hg).1); have hB2 := (hB.alloc (.cells #[.int .u64 (xi : Nat), .int .i64 bb] 35)).below hbl (by omega); have y0 : w2.cell? ⟨w.heap.size, 0, none⟩ = some (.int .u64 (xi : Nat)) := hB2.cell 0; have y1 : w2.cell? ⟨w.heap.size, 1, none⟩ = some (.int .u64 (xt : Nat)) := hB2.cell 1)
          (try rw [Exit.noGoto_ret])
          go_ret
          have hRL : L ++ [(xi, bb)] = R := HR.out
          subst hRL
          refine ⟨A2, c2, by simp, ?_, (hbw.alloc hbw.size _).trans (hbl.mono (by omega))⟩
          rw [List.length_append, plcs_append]
          exact own_mono ho2 (by omega)
        · rw [if_neg hxt0] at hR
          have k0 : ((xt : Int) == 0) = false := by simp [hxt0]
          clear hxt0
          by_cases hj0 : j = 0
          · subst hj0
            have k1 : ((L.length : Int) + 1 == (depth : Int)) = true := by have := Hj.out; simp; omega
            rw [chainL] at hR
            have HR := Lib.hid hR
            clear hR
            go_wp2_with (at_builtin; refine wpList_app _ rfl _ _ rfl slPl (w.heap.size + 1) (.slice A L.length cp) L.length (plcs L) rfl (hown.alloc _) (some ⟨wr.heap.size, 0, none⟩) 1 1 (plcs [(xi, bb)]) rfl rfl hRd2 (by simp [plcs, Value.oneCell']) (by unfold maxLen; omega) (by omega) (by have := hB.lt; simp; omega) ?_; intro A2 c2 w2 ho2 hg2; have hbl : Below (w.heap.size + 1) (wr.alloc (.cells #[.int .u64 (xi : Nat), .int .i64 bb] 35)) w2 := hg2.toBelow (by have := hB.lt; simp; omega) (fun g hg => (hown.lt g hg).1); have hB2 := (hB.alloc (.cells #[.int .u64 (xi : Nat), .int .i64 bb] 35)).below hbl (by omega); have y0 : w2.cell? ⟨w.heap.size, 0, none⟩ = some (.int .u64 (xi : Nat)) := hB2.cell 0; have y1 : w2.cell? ⟨w.heap.size, 1, none⟩ = some (.int .u64 (xt : Nat)) := hB2.cell 1; have y2 : w2.cell? ⟨w.heap.size, 2, none⟩ = some (.int .i64 xa) := hB2.cell 2; have y3 : w2.cell? ⟨w.heap.size, 3, none⟩ = some (.int .i64 xs) := hB2.cell 3; have y4 : w2.cell? ⟨w.heap.size, 4, none⟩ = some (.bool xf) := hB2.cell 4; have hT2 := (h.belowB ((hbw.alloc hbw.size _).trans (hbl.mono (by omega))) h.blk.lt h.mp.lt); have hcc0 := hT2.c0)
            (try rw [Exit.noGoto_ret])
            go_ret
            have hRL : L ++ [(xi, bb)] = R := HR.out
            subst hRL
            refine ⟨A2, c2, by simp, ?_, (hbw.alloc hbw.size _).trans (hbl.mono (by omega))⟩
            rw [List.length_append, plcs_append]
            exact own_mono ho2 (by omega)
          · have k1 : ((L.length : Int) + 1 == (depth : Int)) = false := by have := Hj.out; simp; omega
            have hjl : L.length + 1 < depth := by have := Hj.out; omega
            have HR := Lib.hid hR
            clear hR hj0
            go_upto_region 7 with (at_builtin; refine wpList_app _ rfl _ _ rfl slPl (w.heap.size + 1) (.slice A L.length cp) L.length (plcs L) rfl (hown.alloc _) (some ⟨wr.heap.size, 0, none⟩) 1 1 (plcs [(xi, bb)]) rfl rfl hRd2 (by simp [plcs, Value.oneCell']) (by unfold maxLen; omega) (by omega) (by have := hB.lt; simp; omega) ?_; intro A2 c2 w2 ho2 hg2; have hbl : Below (w.heap.size + 1) (wr.alloc (.cells #[.int .u64 (xi : Nat), .int .i64 bb] 35)) w2 := hg2.toBelow (by have := hB.lt; simp; omega) (fun g hg => (hown.lt g hg).1); have hB2 := (hB.alloc (.cells #[.int .u64 (xi : Nat), .int .i64 bb] 35)).below hbl (by omega); have y0 : w2.cell? ⟨w.heap.size, 0, none⟩ = some (.int .u64 (xi : Nat)) := hB2.cell 0; have y1 : w2.cell? ⟨w.heap.size, 1, none⟩ = some (.int .u64 (xt : Nat)) := hB2.cell 1; have y2 : w2.cell? ⟨w.heap.size, 2, none⟩ = some (.int .i64 xa) := hB2.cell 2; have y3 : w2.cell? ⟨w.heap.size, 3, none⟩ = some (.int .i64 xs) := hB2.cell 3; have y4 : w2.cell? ⟨w.heap.size, 4, none⟩ = some (.bool xf) := hB2.cell 4; have hT2 := (h.belowB ((hbw.alloc hbw.size _).trans (hbl.mono (by omega))) h.blk.lt h.mp.lt); have hcc0 := hT2.c0)
            have hbw2 : Below w.heap.size w w2 := (hbw.alloc hbw.size _).trans (hbl.mono (by omega))
            have hl := hT2.drew.mp.look hxt
            have hc2 := hT2.c2
            have hct' : ∀ m, f xt = some m → m.id < 18446744073709551616 ∧ m.tgt < 18446744073709551616 ∧ 0 ≤ m.at_ ∧ m.at_ ≤ 1048576 ∧ 1 ≤ m.size ∧ m.size ≤ 1048576 := fun m hm => hf xt m hm
            generalize f xt = c' at *
            unfold Med.val at hl
            have z0 : w2.frozen? ⟨w.heap.size, 0, none⟩ = false := hB2.frozen 0
            have z1 : w2.frozen? ⟨w.heap.size, 1, none⟩ = false := hB2.frozen 1
            have z2 : w2.frozen? ⟨w.heap.size, 2, none⟩ = false := hB2.frozen 2
            have z3 : w2.frozen? ⟨w.heap.size, 3, none⟩ = false := hB2.frozen 3
            have z4 : w2.frozen? ⟨w.heap.size, 4, none⟩ = false := hB2.frozen 4
            go_region
            all_goals
              go_wp2
              go_roundw
              case rel => exact ⟨bb + xa, L ++ [(xi, bb)], A2, c2, c', by go_num, by omega, by omega, by rw [List.length_append]; rfl, by rw [List.length_append]; exact hjl, rfl, (blk_set5 hB2 _ _ _ _ _).drew, by rw [List.length_append, plcs_append]; exact own_set5 ho2 (by omega) _ _ _ _ _, hct', (below_set5 hbw2 (Nat.le_refl _) _ _ _ _ _).drew, by rw [List.append_assoc, List.length_append, show depth - (L.length + [(xi, bb)].length) = j from by have := Hj.out; simp; omega]; exact HR.out⟩
              case measure => simp; omega
      · rw [hj, chainL, if_neg hbb, List.append_nil] at hR
        subst hR
        clear hj
        by_cases hbp : 0 ≤ bb
        · have hbs : ¬ bb < xs := fun h => hbb ⟨hbp, h⟩
          clear hbb
          go_wp2
          (try rw [Exit.noGoto_ret])
          go_ret
          exact ⟨A, cp, rfl, own_mono hown (by omega), hbw⟩
        · clear hbb
          go_wp2
          (try rw [Exit.noGoto_ret])
          go_ret
          exact ⟨A, cp, rfl, own_mono hown (by omega), hbw⟩
end Go.Proofs.Ytppfjdohajomoaa
