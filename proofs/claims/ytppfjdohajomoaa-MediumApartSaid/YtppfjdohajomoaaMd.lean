/- Mediums: Make. -/
import Derived.Test.YtppfjdohajomoaaMc
import Derived.Deep.RegionLaw
namespace Go.Proofs.Ytppfjdohajomoaa
open Go.RowKit
set_option maxHeartbeats 2000000
set_option maxRecDepth 100000

/-- all but blocks T and M is as it was -/
structure Turn2 (T M : Nat) (w w' : World) : Prop where
  os : w'.os = w.os
  tape : w'.tape = w.tape
  output : w'.output = w.output
  size : w.heap.size ≤ w'.heap.size
  block : ∀ k, k < w.heap.size → k ≠ T → k ≠ M → w'.heap[k]? = w.heap[k]?
section
variable {w w1 w2 : World} {T M : Nat}
theorem Turn2.refl (T M : Nat) (w : World) : Turn2 T M w w := ⟨rfl, rfl, rfl, Nat.le_refl _, fun _ _ _ _ => rfl⟩
theorem Turn2.trans (h : Turn2 T M w w1) (k : Turn2 T M w1 w2) : Turn2 T M w w2 :=
  ⟨k.os.trans h.os, k.tape.trans h.tape, k.output.trans h.output, Nat.le_trans h.size k.size, fun i hi h1 h2 => (k.block i (Nat.lt_of_lt_of_le hi h.size) h1 h2).trans (h.block i hi h1 h2)⟩
theorem Turn2.of_below (h : Below w.heap.size w w1) : Turn2 T M w w1 := ⟨h.os, h.tape, h.output, h.size, fun k hk _ _ => h.block k hk⟩
theorem Turn2.below (h : Turn2 T M w w1) (k : Below w1.heap.size w1 w2) : Turn2 T M w w2 := h.trans (.of_below k)
theorem Turn2.of_map (h : w.mapTurned w1 M) : Turn2 T M w w1 := by
  have g := h.grown
  exact ⟨g.os, g.tape, g.output, g.size, fun k hk _ h2 => g.block k hk (fun e => h2 (by injection e))⟩
theorem Turn2.of_set (w : World) (i : Nat) (u : Value) : Turn2 T M w (w.setCell ⟨T, i, none⟩ u) := ⟨rfl, rfl, rfl, by simp [World.setCell], fun k _ h1 _ => Below.heap_setCell w _ _ k h1⟩
theorem Turn2.toBelow (h : Turn2 T M w w1) {B : Nat} {w0 : World} (hb : Below B w0 w) (h1 : B ≤ T) (h2 : B ≤ M) (h3 : B ≤ w.heap.size) : Below B w0 w1 :=
  hb.trans ⟨h.os, h.tape, h.output, h.size, fun k hk => h.block k (by omega) (by omega) (by omega)⟩
theorem Turn2.drew (h : Turn2 T M w w1) : Turn2 T M w w1.drew := h.trans ⟨rfl, rfl, rfl, Nat.le_refl _, fun _ _ _ _ => rfl⟩
end

theorem wpList_mpst {w : World} {ops : Array Oper} {rest : List Oper} {o : Oper} {a : Act} {Q : Exit → Act → World → Prop} (hg : o.guard = none) (m x v : Operand) (hop : o.op = Op.mapUpdate 126 m x v)
    {M n : Nat} {f : Nat → Option Med} (hm : a.eval m = .map (some M)) (h : MpOf w M n f) (hn : n < maxLen) (i : Nat) (hi : i < 18446744073709551616) (hx : a.eval x = .int .u64 (i : Nat)) (md : Med) (hv : a.eval v = md.val)
    (hK : ∀ w', MpOf w' M (n + 1) (upd f i (some md)) → w.mapTurned w' M → wpList Try.prog ops Q rest (a.put o.dst undef) w') : wpList Try.prog ops Q (o :: rest) a w := by
  refine wpList_plain hg fun K' hK' => ?_
  obtain ⟨w', hrun, r1, r2⟩ := h.store hi hn md
  unfold Oper.wp
  simp [execOp, hop, hm, hx, hv, hrun, Result.andThen]
  exact hK' _ _ (hK w' r1 r2)

theorem deepL_le (f : Nat → Option Med) (depth : Nat) : ∀ (j : Nat) (c : Option Med) (k : Nat), deepL f depth j c k ≤ k + j
  | 0, _, _ => Nat.le_refl _
  | _ + 1, none, k => by simp [deepL]
  | j + 1, some x, k => by
    unfold deepL
    split
    · have := deepL_le f depth j (f x.tgt) (k + 1); omega
    · omega
theorem deepP_le (f : Nat → Option Med) (depth id : Nat) : deepP f depth id ≤ depth + 1 := by
  have := deepL_le f depth (depth + 1) (f id) 0
  unfold deepP
  omega

/-- the error of a Make; 0: none -/
def makeE (f : Nat → Option Med) (depth : Nat) (size : Int) (target : Nat) (at_ : Int) : Nat :=
  if size < 1 ∨ 1048576 < size ∨ at_ < 0 ∨ 1048576 < at_ ∨ (target = 0 ∧ at_ ≠ 0) then 1
  else if target ≠ 0 ∧ f target = none then 4
  else if target ≠ 0 ∧ ((f target).getD Med.zero).fixed = false then 11
  else if depth < deepP f depth target + 1 then 2 else 0

theorem make_bad1 (T M depth next n target : Nat) (size at_ : Int) (f : Nat → Option Med) (w : World) (h : TabAt w T M depth next n f) (ht : target < 18446744073709551616)
    (hbad : size < 1 ∨ 1048576 < size ∨ at_ < 0 ∨ 1048576 < at_ ∨ (target = 0 ∧ at_ ≠ 0)) :
    Calls Try.prog 17 #[.pointer (some ⟨T, 0, none⟩), .int .i64 size, .int .u64 (target : Nat), .int .i64 at_] w fun e w' => e = .returned (.tuple #[.int .u64 0, .int .i64 1]) ∧ Below w.heap.size w w' := by
  have hc2 := h.c2
  have hlk := h.mp.look ht
  generalize f target = cur at *
  unfold Med.val at hlk
  have hd : (size < 1) ∨ (¬ size < 1 ∧ 1048576 < size) ∨ (¬ size < 1 ∧ ¬ 1048576 < size ∧ at_ < 0) ∨ (¬ size < 1 ∧ ¬ 1048576 < size ∧ ¬ at_ < 0 ∧ 1048576 < at_) ∨ (¬ size < 1 ∧ ¬ 1048576 < size ∧ ¬ at_ < 0 ∧ ¬ 1048576 < at_ ∧ ((target : Int) == 0) = true ∧ (at_ != 0) = true) := by
    by_cases h1 : size < 1
    · exact .inl h1
    by_cases h2 : 1048576 < size
    · exact .inr (.inl ⟨h1, h2⟩)
    by_cases h3 : at_ < 0
    · exact .inr (.inr (.inl ⟨h1, h2, h3⟩))
    by_cases h4 : 1048576 < at_
    · exact .inr (.inr (.inr (.inl ⟨h1, h2, h3, h4⟩)))
    obtain ⟨e1, e2⟩ : target = 0 ∧ at_ ≠ 0 := by omega
    exact .inr (.inr (.inr (.inr ⟨h1, h2, h3, h4, by simp [e1], by simp [e2]⟩)))
  clear hbad
  rcases hd with h1 | ⟨h1, h2⟩ | ⟨h1, h2, h3⟩ | ⟨h1, h2, h3, h4⟩ | ⟨h1, h2, h3, h4, h5, h6⟩
  all_goals
    go_enter Try.func17, Try.ntmps17
    go_wp2
    go_ret2
    exact ⟨rfl, (Below.refl _ _).alloc (Nat.le_refl _) _⟩

def MakePost (w : World) (T M depth next n target : Nat) (size at_ : Int) (f : Nat → Option Med) (E : Nat) (e : Ending) (w' : World) : Prop :=
  (E ≠ 0 → e = .returned (.tuple #[.int .u64 0, .int .i64 (E : Nat)]) ∧ Below w.heap.size w w') ∧
  (E = 0 → e = .returned (.tuple #[.int .u64 (next : Nat), .int .i64 0]) ∧ TabAt w' T M depth (next + 1) (n + 1) (upd f next (some ⟨next, target, at_, size, false⟩)) ∧ Turn2 T M w w')
theorem MakePost.bad {w w' : World} {T M depth next n target : Nat} {size at_ : Int} {f : Nat → Option Med} (E : Nat) (hE : E ≠ 0) (hb : Below w.heap.size w w') : MakePost w T M depth next n target size at_ f E (.returned (.tuple #[.int .u64 0, .int .i64 (E : Nat)])) w' :=
  ⟨fun _ => ⟨rfl, hb⟩, fun h => absurd h hE⟩

theorem make_any (T M depth next n target : Nat) (size at_ : Int) (f : Nat → Option Med) (w : World) (h : TabAt w T M depth next n f) (hf : WFm f) (hd : depth ≤ 64) (ht : target < 18446744073709551616) (hn : n ≤ 1000000) (hnx : next ≤ 1000000000000) :
    Calls Try.prog 17 #[.pointer (some ⟨T, 0, none⟩), .int .i64 size, .int .u64 (target : Nat), .int .i64 at_] w (MakePost w T M depth next n target size at_ f (makeE f depth size target at_)) := by
  by_cases hbad : size < 1 ∨ 1048576 < size ∨ at_ < 0 ∨ 1048576 < at_ ∨ (target = 0 ∧ at_ ≠ 0)
  · refine (make_bad1 T M depth next n target size at_ f w h ht hbad).mono fun e w' ⟨he, hb⟩ => ?_
    have : makeE f depth size target at_ = 1 := by unfold makeE; rw [if_pos hbad]
    rw [this]
    exact ⟨fun _ => ⟨he, hb⟩, fun h => by simp at h⟩
  unfold makeE
  rw [if_neg hbad]
  have b1 : ¬ size < 1 := by omega
  have b2 : ¬ 1048576 < size := by omega
  have b3 : ¬ at_ < 0 := by omega
  have b4 : ¬ 1048576 < at_ := by omega
  have hc2 := h.c2
  have hlk := h.mp.look ht
  have hcase : (target = 0 ∧ at_ = 0) ∨ (target ≠ 0) := by omega
  clear hbad
  have tail : ∀ (dp : Nat), dp ≤ 65 → (∀ W : World, Below w.heap.size w W → Calls Try.prog 19 #[.pointer (some ⟨T, 0, none⟩), .int .u64 (target : Nat)] W fun e w' => e = .returned (.int .i64 (dp : Nat)) ∧ Below W.heap.size W w') → deepP f depth target = dp → True := fun _ _ _ _ => trivial
  have hdeep : ∀ W : World, Below w.heap.size w W → Calls Try.prog 19 #[.pointer (some ⟨T, 0, none⟩), .int .u64 (target : Nat)] W fun e w' => e = .returned (.int .i64 (deepP f depth target : Nat)) ∧ Below W.heap.size W w' := fun W hW =>
    deep_any T M depth next n target f W (h.below hW) hf hd ht
  have hdl : deepP f depth target ≤ 65 := by have := deepP_le f depth target; omega
  generalize deepP f depth target = dp at *
  clear tail
  rcases hcase with ⟨htz, rfl⟩ | htn
  · rw [if_neg (by simp [htz]), if_neg (by simp [htz])]
    have k1 : ((target : Int) == 0) = true := by simp [htz]
    have k2 : ((target : Int) != 0) = false := by simp [htz]
    have hbz : Below w.heap.size w (w.alloc (.cells ((f target).getD Med.zero).cells 130)) := (Below.refl _ _).alloc (Nat.le_refl _) _
    clear htz
    generalize f target = cur at *
    unfold Med.val at hlk
    unfold Med.cells at hbz
    generalize hE : (if depth < dp + 1 then 2 else 0 : Nat) = E
    have HE := Lib.hid hE
    clear hE
    go_enter Try.func17, Try.ntmps17
    go_upto_region 8 with fail
    generalize (w.alloc _) = V at *
    have hTV := h.below hbz
    have c0 := hTV.c0
    have c1 := hTV.c1
    clear hlk hc2
    go_cut [60] (fun s wx => s = .bool (decide (depth < dp + 1)) ∧ Below w.heap.size w wx)
    case first =>
      by_cases hdp : depth < dp + 1
      · have q : (depth : Int) < (dp : Int) + 1 := by omega
        have hwr : IntKind.i64.wrap ((dp : Int) + 1) = (dp : Int) + 1 := IntWalk.i64_in _ (by omega)
        have Hdp := Lib.hid (decide_eq_true hdp)
        clear hdp
        go_region_law (go_simp; go_at_call 19; (refine (hdeep V.drew hbz.drew).mono ?_); rintro e w8 ⟨rfl, hb8⟩; have e0 : w8.cell? ⟨T, 0, none⟩ = some (.int .i64 (depth : Nat)) := (hTV.drew.below hb8).c0)
        all_goals ((try simp only [List.getElem_toArray, List.getElem_cons_succ, List.getElem_cons_zero]); (try go_simp); go_wp2_with fail; go_meet; exact ⟨by rw [Hdp.out], hbz.drew.trans (hb8.mono hbz.size)⟩)
      · have q : ¬ (depth : Int) < (dp : Int) + 1 := by omega
        have hwr : IntKind.i64.wrap ((dp : Int) + 1) = (dp : Int) + 1 := IntWalk.i64_in _ (by omega)
        have Hdp := Lib.hid (decide_eq_false hdp)
        clear hdp
        go_region_law (go_simp; go_at_call 19; (refine (hdeep V.drew hbz.drew).mono ?_); rintro e w8 ⟨rfl, hb8⟩; have e0 : w8.cell? ⟨T, 0, none⟩ = some (.int .i64 (depth : Nat)) := (hTV.drew.below hb8).c0)
        all_goals ((try simp only [List.getElem_toArray, List.getElem_cons_succ, List.getElem_cons_zero]); (try go_simp); go_wp2_with fail; go_meet; exact ⟨by rw [Hdp.out], hbz.drew.trans (hb8.mono hbz.size)⟩)
    case rest =>
      obtain ⟨rfl, hbc⟩ := hcut
      by_cases hdp : depth < dp + 1
      · have hE2 := Lib.hid (show E = 2 from by rw [← HE.out, if_pos hdp])
        rw [decide_eq_true hdp]
        clear hdp
        go_wp2
        go_ret2
        rw [hE2.out]
        exact MakePost.bad 2 (by simp) hbc
      · have hE2 := Lib.hid (show E = 0 from by rw [← HE.out, if_neg hdp])
        rw [decide_eq_false hdp]
        have hTc := h.below hbc
        have c2 := hTc.c2
        have c1' := hTc.c1
        have f1 : wc.frozen? ⟨T, 1, none⟩ = false := hTc.blk.frozen 1
        clear hdp c0 c1
        go_wp2_with (at_mapUpdate; refine wpList_mpst rfl _ _ _ rfl rfl (hTc.mp.setCell (a := ⟨T, 1, none⟩) (fun e => hTc.ne e.symm) _) (by unfold maxLen; omega) next (by omega) rfl ⟨next, target, 0, size, false⟩ rfl ?_; intro w3 hm3 ht3)
        go_ret2
        rw [hE2.out]
        refine ⟨fun h => absurd rfl h, fun _ => ⟨rfl, ⟨?_, hm3, hTc.ne⟩, (Turn2.of_below hbc).trans ((Turn2.of_set wc 1 _).trans (Turn2.of_map ht3))⟩⟩
        have := (hTc.blk.set 1 (.int .u64 ((next : Int) + 1))).grown ht3.grown (by intro e; injection e with e; exact hTc.ne e)
        simpa using this
  · have k1 : ((target : Int) == 0) = false := by simp [htn]
    have k2 : ((target : Int) != 0) = true := by simp [htn]
    cases hcur : f target with
    | none =>
      rw [if_pos ⟨htn, rfl⟩]
      rw [hcur] at hlk
      unfold Med.val at hlk
      simp only [Option.getD_none, Option.isSome_none] at hlk
      go_enter Try.func17, Try.ntmps17
      go_wp2
      go_ret2
      exact MakePost.bad 4 (by simp) ((Below.refl _ _).alloc (Nat.le_refl _) _)
    | some x =>
      rw [if_neg (by simp)]
      rw [hcur] at hlk
      obtain ⟨xi, xt, xa, xs, xf⟩ := x
      unfold Med.val at hlk
      simp only [Option.getD_some, Option.isSome_some] at hlk ⊢
      clear hcur
      cases xf with
      | false =>
        rw [if_pos ⟨htn, rfl⟩]
        go_enter Try.func17, Try.ntmps17
        go_wp2
        go_ret2
        exact MakePost.bad 11 (by simp) ((Below.refl _ _).alloc (Nat.le_refl _) _)
      | true =>
        rw [if_neg (by simp)]
        have hbz : Below w.heap.size w (w.alloc (.cells #[.int .u64 (xi : Nat), .int .u64 (xt : Nat), .int .i64 xa, .int .i64 xs, .bool true] 130)) := (Below.refl _ _).alloc (Nat.le_refl _) _
        clear htn
        generalize hE : (if depth < dp + 1 then 2 else 0 : Nat) = E
        have HE := Lib.hid hE
        clear hE
        go_enter Try.func17, Try.ntmps17
        go_upto_region 8 with fail
        generalize (w.alloc _) = V at *
        have hTV := h.below hbz
        have c0 := hTV.c0
        have c1 := hTV.c1
        clear hlk hc2
        go_cut [60] (fun s wx => s = .bool (decide (depth < dp + 1)) ∧ Below w.heap.size w wx)
        case first =>
          by_cases hdp : depth < dp + 1
          · have q : (depth : Int) < (dp : Int) + 1 := by omega
            have hwr : IntKind.i64.wrap ((dp : Int) + 1) = (dp : Int) + 1 := IntWalk.i64_in _ (by omega)
            have Hdp := Lib.hid (decide_eq_true hdp)
            clear hdp
            go_region_law (go_simp; go_at_call 19; (refine (hdeep V.drew hbz.drew).mono ?_); rintro e w8 ⟨rfl, hb8⟩; have e0 : w8.cell? ⟨T, 0, none⟩ = some (.int .i64 (depth : Nat)) := (hTV.drew.below hb8).c0)
            all_goals ((try simp only [List.getElem_toArray, List.getElem_cons_succ, List.getElem_cons_zero]); (try go_simp); go_wp2_with fail; go_meet; exact ⟨by rw [Hdp.out], hbz.drew.trans (hb8.mono hbz.size)⟩)
          · have q : ¬ (depth : Int) < (dp : Int) + 1 := by omega
            have hwr : IntKind.i64.wrap ((dp : Int) + 1) = (dp : Int) + 1 := IntWalk.i64_in _ (by omega)
            have Hdp := Lib.hid (decide_eq_false hdp)
            clear hdp
            go_region_law (go_simp; go_at_call 19; (refine (hdeep V.drew hbz.drew).mono ?_); rintro e w8 ⟨rfl, hb8⟩; have e0 : w8.cell? ⟨T, 0, none⟩ = some (.int .i64 (depth : Nat)) := (hTV.drew.below hb8).c0)
            all_goals ((try simp only [List.getElem_toArray, List.getElem_cons_succ, List.getElem_cons_zero]); (try go_simp); go_wp2_with fail; go_meet; exact ⟨by rw [Hdp.out], hbz.drew.trans (hb8.mono hbz.size)⟩)
        case rest =>
          obtain ⟨rfl, hbc⟩ := hcut
          by_cases hdp : depth < dp + 1
          · have hE2 := Lib.hid (show E = 2 from by rw [← HE.out, if_pos hdp])
            rw [decide_eq_true hdp]
            clear hdp
            go_wp2
            go_ret2
            rw [hE2.out]
            exact MakePost.bad 2 (by simp) hbc
          · have hE2 := Lib.hid (show E = 0 from by rw [← HE.out, if_neg hdp])
            rw [decide_eq_false hdp]
            have hTc := h.below hbc
            have c2 := hTc.c2
            have c1' := hTc.c1
            have f1 : wc.frozen? ⟨T, 1, none⟩ = false := hTc.blk.frozen 1
            clear hdp c0 c1
            go_wp2_with (at_mapUpdate; refine wpList_mpst rfl _ _ _ rfl rfl (hTc.mp.setCell (a := ⟨T, 1, none⟩) (fun e => hTc.ne e.symm) _) (by unfold maxLen; omega) next (by omega) rfl ⟨next, target, at_, size, false⟩ rfl ?_; intro w3 hm3 ht3)
            go_ret2
            rw [hE2.out]
            refine ⟨fun h => absurd rfl h, fun _ => ⟨rfl, ⟨?_, hm3, hTc.ne⟩, (Turn2.of_below hbc).trans ((Turn2.of_set wc 1 _).trans (Turn2.of_map ht3))⟩⟩
            have := (hTc.blk.set 1 (.int .u64 ((next : Int) + 1))).grown ht3.grown (by intro e; injection e with e; exact hTc.ne e)
            simpa using this
end Go.Proofs.Ytppfjdohajomoaa
