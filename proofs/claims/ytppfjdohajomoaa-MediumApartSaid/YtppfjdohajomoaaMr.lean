/- Mediums: Resize; an act on a table. -/
import Derived.Test.YtppfjdohajomoaaMq
namespace Go.Proofs.Ytppfjdohajomoaa
open Go.RowKit
set_option maxHeartbeats 2000000
set_option maxRecDepth 100000

theorem change_bad (T M depth next n id p : Nat) (E : Nat) (f : Nat → Option Med) (w : World) (h : TabAt w T M depth next n f) (hid : id < 18446744073709551616) (m : Med) (hcur : f id = some m) (hE : E ≠ 0)
    (hfn : ∀ V g, Blk V g 130 m.cells → Below w.heap.size w V → Calls Try.prog 103 #[.pointer (some ⟨g, 0, none⟩), .pointer (some ⟨p, 0, none⟩)] V fun e w' => e = .returned (.int .i64 (E : Nat)) ∧ ∃ k, w' = V.drewN k) :
    Calls Try.prog 65 #[.pointer (some ⟨T, 0, none⟩), .int .u64 (id : Nat), .func (.func 103) #[] #[.pointer (some ⟨p, 0, none⟩)]] w fun e w' => e = .returned (.int .i64 (E : Nat)) ∧ Below w.heap.size w w' := by
  have hc2 := h.c2
  have hlk := h.mp.look hid
  rw [hcur] at hlk
  obtain ⟨xi, xt, xa, xs, xf⟩ := m
  unfold Med.val at hlk
  simp only [Option.getD_some, Option.isSome_some] at hlk
  clear hcur
  have k1 : ((E : Int) != 0) = true := by simp; omega
  have hB := Blk.new w 130 #[.int .u64 (xi : Nat), .int .u64 (xt : Nat), .int .i64 xa, .int .i64 xs, .bool xf]
  have hbz : Below w.heap.size w (w.alloc (.cells #[.int .u64 (xi : Nat), .int .u64 (xt : Nat), .int .i64 xa, .int .i64 xs, .bool xf] 130)) := (Below.refl _ _).alloc (Nat.le_refl _) _
  clear hE
  go_enter Try.func65, Try.ntmps65
  go_upto_region 4 with fail
  generalize (w.alloc _) = V at *
  have hf2 := hfn V w.heap.size hB hbz
  go_wp2_with (go_at_call 103; refine hf2.mono ?_; rintro e w1 ⟨rfl, k, rfl⟩)
  go_ret
  exact ⟨rfl, below_drewN hbz k⟩

theorem change_size (T M depth next n id p : Nat) (s : Int) (f : Nat → Option Med) (w : World) (h : TabAt w T M depth next n f) (hid : id < 18446744073709551616) (hn : n ≤ 1000000) (m : Med) (hcur : f id = some m) (hp : w.cell? ⟨p, 0, none⟩ = some (.int .i64 s)) (hpl : p < w.heap.size) (hmf : m.fixed = false) (h1 : ¬ s < m.size) (h2 : ¬ 1048576 < s) :
    Calls Try.prog 65 #[.pointer (some ⟨T, 0, none⟩), .int .u64 (id : Nat), .func (.func 103) #[] #[.pointer (some ⟨p, 0, none⟩)]] w fun e w' =>
      e = .returned (.int .i64 0) ∧ TabAt w' T M depth next (n + 1) (upd f id (some (sizeM s m))) ∧ Turn2 T M w w' := by
  have hc2 := h.c2
  have hlk := h.mp.look hid
  rw [hcur] at hlk
  obtain ⟨xi, xt, xa, xs, xf⟩ := m
  simp only at hmf h1
  subst hmf
  unfold Med.val at hlk
  simp only [Option.getD_some, Option.isSome_some] at hlk
  clear hcur
  have hB := Blk.new w 130 #[.int .u64 (xi : Nat), .int .u64 (xt : Nat), .int .i64 xa, .int .i64 xs, .bool false]
  have hbz : Below w.heap.size w (w.alloc (.cells #[.int .u64 (xi : Nat), .int .u64 (xt : Nat), .int .i64 xa, .int .i64 xs, .bool false] 130)) := (Below.refl _ _).alloc (Nat.le_refl _) _
  have hTlt := h.blk.lt
  have hMlt := h.mp.lt
  go_enter Try.func65, Try.ntmps65
  go_upto_region 4 with fail
  generalize (w.alloc _) = V at *
  have hTV := h.below hbz
  have hB2 := hB.set 3 (.int .i64 s)
  simp at hB2
  have hbV := hbz.setCell (p := ⟨w.heap.size, 3, none⟩) (Nat.le_refl _) (.int .i64 s)
  have hT2 := hTV.setC (g := w.heap.size) (by omega) (by omega) 3 (.int .i64 s)
  have hfn := resize1_ok V w.heap.size p _ _ _ xs s hB ((hbz.cell (p := ⟨p, 0, none⟩) hpl).trans hp) h1 h2
  clear hp
  go_upto_region 7 with (go_at_call 103; refine hfn.mono ?_; rintro e w1 ⟨rfl, k, rfl⟩)
  generalize V.setCell ⟨w.heap.size, 3, none⟩ (.int .i64 s) = W0 at *
  have hT3 := hT2.drewN k
  have hB3 := hB2.drewN k
  have hbV3 := below_drewN hbV k
  generalize W0.drewN k = W1 at *
  have hc2 := hT3.c2
  have e0 := hB3.cell 0
  have e1 := hB3.cell 1
  have e2 := hB3.cell 2
  have e3 := hB3.cell 3
  have e4 := hB3.cell 4
  simp at e0 e1 e2 e3 e4
  obtain ⟨w9, hrun, hmp9, ht9⟩ := hT3.drew.mp.store hid (by unfold maxLen; omega) ⟨xi, xt, xa, s, false⟩
  unfold Med.val at hrun
  clear hlk
  go_region
  all_goals
    go_wp2
    go_ret
    exact ⟨rfl, ⟨(hT3.drew.blk.grown ht9.grown (by intro e; injection e with e; exact h.ne e)), hmp9, h.ne⟩, ((Turn2.of_below hbV3).drew).trans (Turn2.of_map ht9)⟩

theorem resize_any (T M depth next n id : Nat) (s : Int) (f : Nat → Option Med) (w : World) (h : TabAt w T M depth next n f) (hid : id < 18446744073709551616) (hn : n ≤ 1000000) :
    Calls Try.prog 72 #[.pointer (some ⟨T, 0, none⟩), .int .u64 (id : Nat), .int .i64 s] w fun e w' => (∃ E : Nat, e = .returned (.int .i64 (E : Nat))) ∧ ∃ f', TabAt w' T M depth next (n + 1) f' ∧ Turn2 T M w w' ∧ (f' = f ∨ ∃ m, f id = some m ∧ sizeE s m = 0 ∧ f' = upd f id ((f id).map (sizeM s))) := by
  have hbx : Below w.heap.size w (w.alloc (.cells #[.int .i64 s] 3)) := (Below.refl _ _).alloc (Nat.le_refl _) _
  have hTx := h.below hbx
  have hpx : (w.alloc (.cells #[.int .i64 s] 3)).cell? ⟨w.heap.size, 0, none⟩ = some (.int .i64 s) := (Blk.new w 3 #[.int .i64 s]).cell 0
  have hsx : w.heap.size < (w.alloc (.cells #[.int .i64 s] 3)).heap.size := by simp
  cases hcur : f id with
  | none =>
    have hc := fun V => change_none V T M depth next n id f _ hTx hid hcur
    have HT := Lib.hid hTx
    clear hcur hpx hsx
    go_enter Try.func72, Try.ntmps72
    go_wp2_with (go_at_call 65; refine (hc _).mono ?_; rintro e w1 ⟨rfl, hb1⟩)
    go_ret
    have h1 := HT.out.below hb1
    exact ⟨⟨4, rfl⟩, f, ⟨h1.blk, h1.mp.mono (by omega), h1.ne⟩, (Turn2.of_below hbx).below hb1, .inl rfl⟩
  | some m =>
    have hall : ∃ E : Nat, Calls Try.prog 65 #[.pointer (some ⟨T, 0, none⟩), .int .u64 (id : Nat), .func (.func 103) #[] #[.pointer (some ⟨w.heap.size, 0, none⟩)]] (w.alloc (.cells #[.int .i64 s] 3)) fun e w' =>
        e = .returned (.int .i64 (E : Nat)) ∧ ∃ f', TabAt w' T M depth next (n + 1) f' ∧ Turn2 T M (w.alloc (.cells #[.int .i64 s] 3)) w' ∧ (f' = f ∨ ∃ m, f id = some m ∧ sizeE s m = 0 ∧ f' = upd f id ((f id).map (sizeM s))) := by
      have bad : ∀ E : Nat, E ≠ 0 → (∀ V g, Blk V g 130 m.cells → Below (w.alloc (.cells #[.int .i64 s] 3)).heap.size (w.alloc (.cells #[.int .i64 s] 3)) V → Calls Try.prog 103 #[.pointer (some ⟨g, 0, none⟩), .pointer (some ⟨w.heap.size, 0, none⟩)] V fun e w' => e = .returned (.int .i64 (E : Nat)) ∧ ∃ k, w' = V.drewN k) →
          ∃ E : Nat, Calls Try.prog 65 #[.pointer (some ⟨T, 0, none⟩), .int .u64 (id : Nat), .func (.func 103) #[] #[.pointer (some ⟨w.heap.size, 0, none⟩)]] (w.alloc (.cells #[.int .i64 s] 3)) fun e w' =>
        e = .returned (.int .i64 (E : Nat)) ∧ ∃ f', TabAt w' T M depth next (n + 1) f' ∧ Turn2 T M (w.alloc (.cells #[.int .i64 s] 3)) w' ∧ (f' = f ∨ ∃ m, f id = some m ∧ sizeE s m = 0 ∧ f' = upd f id ((f id).map (sizeM s))) := fun E hE hfn => by
        refine ⟨E, (change_bad T M depth next n id w.heap.size E f _ hTx hid m hcur hE hfn).mono fun e w' hp => ⟨hp.1, f, ?_, .of_below hp.2, .inl rfl⟩⟩
        have h1 := hTx.below hp.2
        exact ⟨h1.blk, h1.mp.mono (by omega), h1.ne⟩
      cases hmf : m.fixed with
      | true =>
        refine bad 11 (by omega) fun V g hB hb => ?_
        have hB' : Blk V g 130 #[.int .u64 (m.id : Nat), .int .u64 (m.tgt : Nat), .int .i64 m.at_, .int .i64 m.size, .bool true] := by rw [← hmf]; exact hB
        exact (resize1_fixed V g w.heap.size _ _ _ _ hB').mono fun e w' hp => ⟨hp.1, 0, by rw [← hp.2]; rfl⟩
      | false =>
        by_cases hs : s < m.size ∨ 1048576 < s
        · refine bad 1 (by omega) fun V g hB hb => ?_
          have hB' : Blk V g 130 #[.int .u64 (m.id : Nat), .int .u64 (m.tgt : Nat), .int .i64 m.at_, .int .i64 m.size, .bool false] := by rw [← hmf]; exact hB
          exact resize1_bad V g w.heap.size _ _ _ m.size s hB' ((hb.cell (p := ⟨w.heap.size, 0, none⟩) hsx).trans hpx) hs
        · refine ⟨0, (change_size T M depth next n id w.heap.size s f _ hTx hid hn m hcur hpx hsx hmf (by omega) (by omega)).mono fun e w' hp => ⟨hp.1, _, hp.2.1, hp.2.2, .inr ⟨m, hcur, ?_, by rw [hcur]; rfl⟩⟩⟩
          unfold sizeE
          rw [if_neg (by rw [hmf]; simp), if_neg hs]
    obtain ⟨E, hc⟩ := hall
    have HC := Lib.hid hcur
    clear hcur hpx hsx
    go_enter Try.func72, Try.ntmps72
    go_wp2_with (go_at_call 65; refine hc.mono ?_; rintro e w1 ⟨rfl, f', h1, ht1, hf1⟩)
    go_ret
    exact ⟨⟨E, rfl⟩, f', h1, (Turn2.of_below hbx).trans ht1, by rw [← HC.out]; exact hf1⟩

/-- an act, whatever it is -/
theorem act_any (T M depth next n : Nat) (x : MAct) (f : Nat → Option Med) (w : World) (h : TabAt w T M depth next n f) (hf : WFt f next) (hd : depth ≤ 64) (ha : x.a < 18446744073709551616) (hn : n ≤ 900000) (hnx : next ≤ 900000) :
    Calls Try.prog 29 #[.pointer (some ⟨T, 0, none⟩), .agg #[.int .i64 x.op, .int .u64 (x.a : Nat), .int .i64 x.n, .int .i64 x.at_, .bool x.bare]] w fun e w' => e = .returned (.tuple #[]) ∧ ∃ f' next' n', ActR depth f next x f' next' ∧ TabAt w' T M depth next' n' f' ∧ n' ≤ n + 1 ∧ Turn2 T M w w' := by
  obtain ⟨op, a, nn, at_, bare⟩ := x
  simp only at ha ⊢
  have hwf := hf.wfm (by omega)
  have hB := Blk.new w 56 #[.int .i64 op, .int .u64 (a : Nat), .int .i64 nn, .int .i64 at_, .bool bare]
  have hbz : Below w.heap.size w (w.alloc (.cells #[.int .i64 op, .int .u64 (a : Nat), .int .i64 nn, .int .i64 at_, .bool bare] 56)) := (Below.refl _ _).alloc (Nat.le_refl _) _
  have hTz := h.below hbz
  have hmake : ∀ target, target < 18446744073709551616 → Calls Try.prog 17 #[.pointer (some ⟨T, 0, none⟩), .int .i64 nn, .int .u64 (target : Nat), .int .i64 at_] (w.alloc (.cells #[.int .i64 op, .int .u64 (a : Nat), .int .i64 nn, .int .i64 at_, .bool bare] 56)) fun e w' =>
      (∃ X E : Nat, e = .returned (.tuple #[.int .u64 (X : Nat), .int .i64 (E : Nat)])) ∧ ∃ f' next' n', ActR depth f next ⟨op, a, nn, at_, bare⟩ f' next' ∧ TabAt w' T M depth next' n' f' ∧ n' ≤ n + 1 ∧ Turn2 T M w w' := fun target ht =>
    (make_any T M depth next n target nn at_ f _ hTz hwf hd ht (by omega) (by omega)).mono fun e w' hp => by
      by_cases hE : makeE f depth nn target at_ = 0
      · obtain ⟨h1, h2, h3⟩ := hp.2 hE
        exact ⟨⟨next, 0, h1⟩, _, _, _, .make target nn at_ hE, h2, Nat.le_refl _, (Turn2.of_below hbz).trans h3⟩
      · obtain ⟨h1, h2⟩ := hp.1 hE
        exact ⟨⟨0, _, h1⟩, f, next, n, .same, hTz.below h2, by omega, (Turn2.of_below hbz).below h2⟩
  have hfix : Calls Try.prog 18 #[.pointer (some ⟨T, 0, none⟩), .int .u64 (a : Nat)] (w.alloc (.cells #[.int .i64 op, .int .u64 (a : Nat), .int .i64 nn, .int .i64 at_, .bool bare] 56)) fun e w' =>
      (∃ E : Int, e = .returned (.int .i64 E)) ∧ ∃ f' next' n', ActR depth f next ⟨op, a, nn, at_, bare⟩ f' next' ∧ TabAt w' T M depth next' n' f' ∧ n' ≤ n + 1 ∧ Turn2 T M w w' :=
    (fix_any T M depth next n a f _ hTz ha (by omega)).mono fun e w' hp => ⟨⟨_, hp.1⟩, _, _, _, .fix, hp.2.1, Nat.le_refl _, (Turn2.of_below hbz).trans hp.2.2⟩
  have hsize : 2 < op → Calls Try.prog 72 #[.pointer (some ⟨T, 0, none⟩), .int .u64 (a : Nat), .int .i64 nn] (w.alloc (.cells #[.int .i64 op, .int .u64 (a : Nat), .int .i64 nn, .int .i64 at_, .bool bare] 56)) fun e w' =>
      (∃ E : Int, e = .returned (.int .i64 E)) ∧ ∃ f' next' n', ActR depth f next ⟨op, a, nn, at_, bare⟩ f' next' ∧ TabAt w' T M depth next' n' f' ∧ n' ≤ n + 1 ∧ Turn2 T M w w' := fun hop =>
    (resize_any T M depth next n a nn f _ hTz ha (by omega)).mono fun e w' hp => by
      obtain ⟨⟨E, he⟩, f', h1, h2, h3⟩ := hp
      refine ⟨⟨_, he⟩, f', next, n + 1, ?_, h1, Nat.le_refl _, (Turn2.of_below hbz).trans h2⟩
      rcases h3 with rfl | ⟨m, hm, hE, rfl⟩
      · exact .same
      · exact .size m nn hop hm hE
  have halone : 2 < op → Calls Try.prog 20 #[.pointer (some ⟨T, 0, none⟩), .int .u64 (a : Nat)] (w.alloc (.cells #[.int .i64 op, .int .u64 (a : Nat), .int .i64 nn, .int .i64 at_, .bool bare] 56)) fun e w' =>
      (∃ E : Int, e = .returned (.int .i64 E)) ∧ ∃ f' next' n', ActR depth f next ⟨op, a, nn, at_, bare⟩ f' next' ∧ TabAt w' T M depth next' n' f' ∧ n' ≤ n + 1 ∧ Turn2 T M w w' := fun hop =>
    (alone_any T M depth next n a f _ hTz ha (by omega)).mono fun e w' hp => ⟨⟨_, hp.1⟩, _, _, _, .alone hop, hp.2.1, Nat.le_refl _, (Turn2.of_below hbz).trans hp.2.2⟩
  have hdrop : 2 < op → Calls Try.prog 73 #[.pointer (some ⟨T, 0, none⟩), .int .u64 (a : Nat)] (w.alloc (.cells #[.int .i64 op, .int .u64 (a : Nat), .int .i64 nn, .int .i64 at_, .bool bare] 56)) fun e w' =>
      (∃ E : Int, e = .returned (.int .i64 E)) ∧ ∃ f' next' n', ActR depth f next ⟨op, a, nn, at_, bare⟩ f' next' ∧ TabAt w' T M depth next' n' f' ∧ n' ≤ n + 1 ∧ Turn2 T M w w' := fun hop =>
    (drop_any T M depth next n a f _ hTz ha).mono fun e w' hp => by
      obtain ⟨E, hE, he, h1, h2⟩ := hp
      refine ⟨⟨_, he⟩, ?_⟩
      by_cases h0 : E = 0
      · obtain ⟨h3, h4⟩ := h2 h0
        rcases hE with ⟨_, rfl⟩ | ⟨_, _, rfl⟩ | ⟨hne, hno, _⟩
        · cases h0
        · cases h0
        · exact ⟨_, _, n, .drop hop hno hne, h3, by omega, (Turn2.of_below hbz).trans h4⟩
      · exact ⟨f, next, n, .same, hTz.below (h1 h0), by omega, (Turn2.of_below hbz).below (h1 h0)⟩
  have hsame : ∃ f' next' n', ActR depth f next ⟨op, a, nn, at_, bare⟩ f' next' ∧ TabAt (w.alloc (.cells #[.int .i64 op, .int .u64 (a : Nat), .int .i64 nn, .int .i64 at_, .bool bare] 56)) T M depth next' n' f' ∧ n' ≤ n + 1 ∧ Turn2 T M w (w.alloc (.cells #[.int .i64 op, .int .u64 (a : Nat), .int .i64 nn, .int .i64 at_, .bool bare] 56)) := ⟨f, next, n, .same, hTz, by omega, .of_below hbz⟩
  have hm0 := hmake 0 (by omega)
  have hma := hmake a ha
  clear hmake hf hwf
  have hcase : op = 1 ∨ op = 2 ∨ op = 3 ∨ op = 4 ∨ op = 5 ∨ ((op == 1) = false ∧ (op == 2) = false ∧ (op == 3) = false ∧ (op == 4) = false ∧ (op == 5) = false) := by
    simp only [beq_eq_false_iff_ne]
    omega
  rcases hcase with rfl | rfl | rfl | rfl | rfl | ⟨k1, k2, k3, k4, k5⟩
  · cases bare with
    | true =>
      clear hsame
      go_enter Try.func29, Try.ntmps29
      go_wp2_with (go_at_call 17; refine hm0.mono ?_; rintro e w1 ⟨⟨X, E, rfl⟩, hp⟩)
      go_end0
      exact ⟨rfl, hp⟩
    | false =>
      clear hsame
      go_enter Try.func29, Try.ntmps29
      go_wp2_with (go_at_call 17; refine hma.mono ?_; rintro e w1 ⟨⟨X, E, rfl⟩, hp⟩)
      go_end0
      exact ⟨rfl, hp⟩
  · clear hsame
    go_enter Try.func29, Try.ntmps29
    go_wp2_with (go_at_call 18; refine hfix.mono ?_; rintro e w1 ⟨⟨E, rfl⟩, hp⟩)
    go_end0
    exact ⟨rfl, hp⟩
  · clear hsame
    have hsize' := hsize (by omega)
    clear hsize
    go_enter Try.func29, Try.ntmps29
    go_wp2_with (go_at_call 72; refine hsize'.mono ?_; rintro e w1 ⟨⟨E, rfl⟩, hp⟩)
    go_end0
    exact ⟨rfl, hp⟩
  · clear hsame
    have halone' := halone (by omega)
    clear halone
    go_enter Try.func29, Try.ntmps29
    go_wp2_with (go_at_call 20; refine halone'.mono ?_; rintro e w1 ⟨⟨E, rfl⟩, hp⟩)
    go_end0
    exact ⟨rfl, hp⟩
  · clear hsame
    have hdrop' := hdrop (by omega)
    clear hdrop
    go_enter Try.func29, Try.ntmps29
    go_wp2_with (go_at_call 73; refine hdrop'.mono ?_; rintro e w1 ⟨⟨E, rfl⟩, hp⟩)
    go_end0
    exact ⟨rfl, hp⟩
  · have Hs := Lib.hid hsame
    clear hsame
    go_enter Try.func29, Try.ntmps29
    go_wp2
    go_end0
    exact ⟨rfl, Hs.out⟩
end Go.Proofs.Ytppfjdohajomoaa
