/- Mediums: what changes one. -/
import Derived.Test.YtppfjdohajomoaaMd
import Derived.Deep.QuietTactic
import Derived.BigQuiet
namespace Go.Proofs.Ytppfjdohajomoaa
open Go.RowKit
set_option maxHeartbeats 2000000
set_option maxRecDepth 100000

def fixM (m : Med) : Med := { m with fixed := true }
def aloneM (m : Med) : Med := { m with tgt := 0, at_ := 0 }
def sizeM (s : Int) (m : Med) : Med := { m with size := s }
def sizeE (s : Int) (m : Med) : Nat := if m.fixed = true then 11 else if s < m.size ∨ 1048576 < s then 1 else 0

/-- what a change comes back as: E the error, φ the change -/
def ChangePost (w : World) (T M depth next n id : Nat) (f : Nat → Option Med) (E : Nat) (φ : Med → Med) (e : Ending) (w' : World) : Prop :=
  (E ≠ 0 → e = .returned (.int .i64 (E : Nat)) ∧ Below w.heap.size w w') ∧
  (E = 0 → e = .returned (.int .i64 0) ∧ TabAt w' T M depth next (n + 1) (upd f id ((f id).map φ)) ∧ Turn2 T M w w')
theorem ChangePost.bad {w w' : World} {T M depth next n id : Nat} {f : Nat → Option Med} {φ : Med → Med} (E : Nat) (hE : E ≠ 0) (hb : Below w.heap.size w w') : ChangePost w T M depth next n id f E φ (.returned (.int .i64 (E : Nat))) w' :=
  ⟨fun _ => ⟨rfl, hb⟩, fun h => absurd h hE⟩

theorem TabAt.setC {w : World} {T M depth next n g : Nat} {f : Nat → Option Med} (h : TabAt w T M depth next n f) (hT : T ≠ g) (hM : M ≠ g) (i : Nat) (u : Value) : TabAt (w.setCell ⟨g, i, none⟩ u) T M depth next n f :=
  ⟨h.blk.far (p := ⟨g, i, none⟩) hT u, h.mp.setCell (a := ⟨g, i, none⟩) hM u, h.ne⟩
theorem fix1_any (w : World) (g : Nat) (z0 z1 z2 z3 z4 : Value) (h : Blk w g 130 #[z0, z1, z2, z3, z4]) :
    Calls Try.prog 66 #[.pointer (some ⟨g, 0, none⟩)] w fun e w' => e = .returned (.int .i64 0) ∧ w' = w.setCell ⟨g, 4, none⟩ (.bool true) := by
  have c4 : w.cell? ⟨g, 4, none⟩ = some z4 := h.cell 4
  have f4 : w.frozen? ⟨g, 4, none⟩ = false := h.frozen 4
  go_enter Try.func66, Try.ntmps66
  go_wp2
  go_ret
  exact ⟨rfl, rfl⟩
theorem alone1_any (w : World) (g : Nat) (z0 z1 z2 z3 z4 : Value) (h : Blk w g 130 #[z0, z1, z2, z3, z4]) :
    Calls Try.prog 67 #[.pointer (some ⟨g, 0, none⟩)] w fun e w' => e = .returned (.int .i64 0) ∧ w' = (w.setCell ⟨g, 1, none⟩ (.int .u64 0)).setCell ⟨g, 2, none⟩ (.int .i64 0) := by
  have c1 : w.cell? ⟨g, 1, none⟩ = some z1 := h.cell 1
  have f1 : w.frozen? ⟨g, 1, none⟩ = false := h.frozen 1
  have c2 : w.cell? ⟨g, 2, none⟩ = some z2 := h.cell 2
  have f2 : w.frozen? ⟨g, 2, none⟩ = false := h.frozen 2
  go_enter Try.func67, Try.ntmps67
  go_wp2
  go_ret
  exact ⟨rfl, rfl⟩

theorem change_none (fn : Value) (T M depth next n id : Nat) (f : Nat → Option Med) (w : World) (h : TabAt w T M depth next n f) (hid : id < 18446744073709551616) (hcur : f id = none) :
    Calls Try.prog 65 #[.pointer (some ⟨T, 0, none⟩), .int .u64 (id : Nat), fn] w fun e w' => e = .returned (.int .i64 4) ∧ Below w.heap.size w w' := by
  have hc2 := h.c2
  have hlk := h.mp.look hid
  rw [hcur] at hlk
  unfold Med.val at hlk
  simp only [Option.getD_none, Option.isSome_none] at hlk
  clear hcur
  go_enter Try.func65, Try.ntmps65
  go_wp2
  go_ret
  exact ⟨rfl, (Below.refl _ _).alloc (Nat.le_refl _) _⟩

theorem change_fix (T M depth next n id : Nat) (f : Nat → Option Med) (w : World) (h : TabAt w T M depth next n f) (hid : id < 18446744073709551616) (hn : n ≤ 1000000) (m : Med) (hcur : f id = some m) :
    Calls Try.prog 65 #[.pointer (some ⟨T, 0, none⟩), .int .u64 (id : Nat), .func (.func 66) #[] #[]] w fun e w' =>
      e = .returned (.int .i64 0) ∧ TabAt w' T M depth next (n + 1) (upd f id (some (fixM m))) ∧ Turn2 T M w w' := by
  have hc2 := h.c2
  have hlk := h.mp.look hid
  rw [hcur] at hlk
  obtain ⟨xi, xt, xa, xs, xf⟩ := m
  unfold Med.val at hlk
  simp only [Option.getD_some, Option.isSome_some] at hlk
  clear hcur
  have hB := Blk.new w 130 #[.int .u64 (xi : Nat), .int .u64 (xt : Nat), .int .i64 xa, .int .i64 xs, .bool xf]
  have hbz : Below w.heap.size w (w.alloc (.cells #[.int .u64 (xi : Nat), .int .u64 (xt : Nat), .int .i64 xa, .int .i64 xs, .bool xf] 130)) := (Below.refl _ _).alloc (Nat.le_refl _) _
  have hTlt := h.blk.lt
  have hMlt := h.mp.lt
  go_enter Try.func65, Try.ntmps65
  go_upto_region 4 with fail
  generalize (w.alloc _) = V at *
  have hTV := h.below hbz
  have hB2 := hB.set 4 (.bool true)
  simp at hB2
  have hbV := hbz.setCell (p := ⟨w.heap.size, 4, none⟩) (Nat.le_refl _) (.bool true)
  have hT2 := hTV.setC (g := w.heap.size) (by omega) (by omega) 4 (.bool true)
  have hfn := fix1_any V w.heap.size _ _ _ _ _ hB
  go_upto_region 7 with (go_at_call 66; refine hfn.mono ?_; rintro e w1 ⟨rfl, rfl⟩)
  generalize (V.setCell ⟨w.heap.size, 4, none⟩ (.bool true)) = W1 at *
  have hc2 := hT2.c2
  have e0 := hB2.cell 0
  have e1 := hB2.cell 1
  have e2 := hB2.cell 2
  have e3 := hB2.cell 3
  have e4 := hB2.cell 4
  simp at e0 e1 e2 e3 e4
  obtain ⟨w9, hrun, hmp9, ht9⟩ := hT2.drew.mp.store hid (by unfold maxLen; omega) ⟨xi, xt, xa, xs, true⟩
  unfold Med.val at hrun
  clear hlk
  go_region
  all_goals
    go_wp2
    go_ret
    exact ⟨rfl, ⟨(hT2.drew.blk.grown ht9.grown (by intro e; injection e with e; exact h.ne e)), hmp9, h.ne⟩, ((Turn2.of_below hbV).drew).trans (Turn2.of_map ht9)⟩

theorem change_alone (T M depth next n id : Nat) (f : Nat → Option Med) (w : World) (h : TabAt w T M depth next n f) (hid : id < 18446744073709551616) (hn : n ≤ 1000000) (m : Med) (hcur : f id = some m) :
    Calls Try.prog 65 #[.pointer (some ⟨T, 0, none⟩), .int .u64 (id : Nat), .func (.func 67) #[] #[]] w fun e w' =>
      e = .returned (.int .i64 0) ∧ TabAt w' T M depth next (n + 1) (upd f id (some (aloneM m))) ∧ Turn2 T M w w' := by
  have hc2 := h.c2
  have hlk := h.mp.look hid
  rw [hcur] at hlk
  obtain ⟨xi, xt, xa, xs, xf⟩ := m
  unfold Med.val at hlk
  simp only [Option.getD_some, Option.isSome_some] at hlk
  clear hcur
  have hB := Blk.new w 130 #[.int .u64 (xi : Nat), .int .u64 (xt : Nat), .int .i64 xa, .int .i64 xs, .bool xf]
  have hbz : Below w.heap.size w (w.alloc (.cells #[.int .u64 (xi : Nat), .int .u64 (xt : Nat), .int .i64 xa, .int .i64 xs, .bool xf] 130)) := (Below.refl _ _).alloc (Nat.le_refl _) _
  have hTlt := h.blk.lt
  have hMlt := h.mp.lt
  go_enter Try.func65, Try.ntmps65
  go_upto_region 4 with fail
  generalize (w.alloc _) = V at *
  have hTV := h.below hbz
  have hB2 := (hB.set 1 (.int .u64 0)).set 2 (.int .i64 0)
  simp at hB2
  have hbV := (hbz.setCell (p := ⟨w.heap.size, 1, none⟩) (Nat.le_refl _) (.int .u64 0)).setCell (p := ⟨w.heap.size, 2, none⟩) (Nat.le_refl _) (.int .i64 0)
  have hT2 := (hTV.setC (g := w.heap.size) (by omega) (by omega) 1 (.int .u64 0)).setC (g := w.heap.size) (by omega) (by omega) 2 (.int .i64 0)
  have hfn := alone1_any V w.heap.size _ _ _ _ _ hB
  go_upto_region 7 with (go_at_call 67; refine hfn.mono ?_; rintro e w1 ⟨rfl, rfl⟩)
  generalize ((V.setCell ⟨w.heap.size, 1, none⟩ (.int .u64 0)).setCell ⟨w.heap.size, 2, none⟩ (.int .i64 0)) = W1 at *
  have hc2 := hT2.c2
  have e0 := hB2.cell 0
  have e1 := hB2.cell 1
  have e2 := hB2.cell 2
  have e3 := hB2.cell 3
  have e4 := hB2.cell 4
  simp at e0 e1 e2 e3 e4
  obtain ⟨w9, hrun, hmp9, ht9⟩ := hT2.drew.mp.store hid (by unfold maxLen; omega) ⟨xi, 0, 0, xs, xf⟩
  unfold Med.val at hrun
  simp only [show ((0 : Nat) : Int) = 0 from rfl] at hrun
  clear hlk
  go_region
  all_goals
    go_wp2
    go_ret
    exact ⟨rfl, ⟨(hT2.drew.blk.grown ht9.grown (by intro e; injection e with e; exact h.ne e)), hmp9, h.ne⟩, ((Turn2.of_below hbV).drew).trans (Turn2.of_map ht9)⟩

theorem resize1_fixed (w : World) (g p : Nat) (z0 z1 z2 z3 : Value) (h : Blk w g 130 #[z0, z1, z2, z3, .bool true]) :
    Calls Try.prog 103 #[.pointer (some ⟨g, 0, none⟩), .pointer (some ⟨p, 0, none⟩)] w fun e w' => e = .returned (.int .i64 11) ∧ w = w' := by
  have c4 : w.cell? ⟨g, 4, none⟩ = some (.bool true) := h.cell 4
  go_enter Try.func103, Try.ntmps103
  go_wp2
  go_ret
  exact ⟨rfl, rfl⟩
theorem resize1_bad (w : World) (g p : Nat) (z0 z1 z2 : Value) (a s : Int) (h : Blk w g 130 #[z0, z1, z2, .int .i64 a, .bool false]) (hp : w.cell? ⟨p, 0, none⟩ = some (.int .i64 s)) (hs : s < a ∨ 1048576 < s) :
    Calls Try.prog 103 #[.pointer (some ⟨g, 0, none⟩), .pointer (some ⟨p, 0, none⟩)] w fun e w' => e = .returned (.int .i64 1) ∧ ∃ k, w' = w.drewN k := by
  have c4 : w.cell? ⟨g, 4, none⟩ = some (.bool false) := h.cell 4
  have c3 : w.cell? ⟨g, 3, none⟩ = some (.int .i64 a) := h.cell 3
  have hd : decide (s < a) = true ∨ (decide (s < a) = false ∧ decide (1048576 < s) = true) := by
    by_cases h1 : s < a
    · exact .inl (by simpa using h1)
    · exact .inr ⟨by simp; omega, by simp; omega⟩
  clear hs
  rcases hd with h1 | ⟨h1, h2⟩
  all_goals
    go_enter Try.func103, Try.ntmps103
    go_wp2_with fail
    go_quiet (fail)
    go_wp2
    go_ret
    exact ⟨rfl, nq, rfl⟩
theorem resize1_ok (w : World) (g p : Nat) (z0 z1 z2 : Value) (a s : Int) (h : Blk w g 130 #[z0, z1, z2, .int .i64 a, .bool false]) (hp : w.cell? ⟨p, 0, none⟩ = some (.int .i64 s)) (h1 : ¬ s < a) (h2 : ¬ 1048576 < s) :
    Calls Try.prog 103 #[.pointer (some ⟨g, 0, none⟩), .pointer (some ⟨p, 0, none⟩)] w fun e w' => e = .returned (.int .i64 0) ∧ ∃ k, w' = (w.setCell ⟨g, 3, none⟩ (.int .i64 s)).drewN k := by
  have c4 : w.cell? ⟨g, 4, none⟩ = some (.bool false) := h.cell 4
  have c3 : w.cell? ⟨g, 3, none⟩ = some (.int .i64 a) := h.cell 3
  have f3 : w.frozen? ⟨g, 3, none⟩ = false := h.frozen 3
  have d1 : decide (s < a) = false := by simp; omega
  have d2 : decide (1048576 < s) = false := by simp; omega
  clear h1 h2
  go_enter Try.func103, Try.ntmps103
  go_wp2_with fail
  go_quiet (fail)
  go_wp2
  go_ret
  exact ⟨rfl, nq, rfl⟩

/-- Fix, as a table's turn -/
theorem upd_none {f : Nat → Option Med} {i : Nat} (h : f i = none) : upd f i none = f := by
  funext j
  by_cases e : j = i
  · subst e; simp [upd, h]
  · simp [upd, e]
theorem fix_any (T M depth next n id : Nat) (f : Nat → Option Med) (w : World) (h : TabAt w T M depth next n f) (hid : id < 18446744073709551616) (hn : n ≤ 1000000) :
    Calls Try.prog 18 #[.pointer (some ⟨T, 0, none⟩), .int .u64 (id : Nat)] w fun e w' => e = .returned (.int .i64 (if f id = none then 4 else 0)) ∧ TabAt w' T M depth next (n + 1) (upd f id ((f id).map fixM)) ∧ Turn2 T M w w' := by
  cases hcur : f id with
  | none =>
    have hc := fun V => change_none V T M depth next n id f w h hid hcur
    have HT := Lib.hid h
    have HC := Lib.hid hcur
    clear hcur
    go_enter Try.func18, Try.ntmps18
    go_wp2_with (go_at_call 65; refine (hc _).mono ?_; rintro e w1 ⟨rfl, hb1⟩)
    go_ret
    refine ⟨rfl, ?_, .of_below hb1⟩
    have h1 := HT.out.below hb1
    (try rw [Option.map_none]); rw [upd_none HC.out]
    exact ⟨h1.blk, h1.mp.mono (by omega), h1.ne⟩
  | some m =>
    have hc := change_fix T M depth next n id f w h hid hn m hcur
    go_enter Try.func18, Try.ntmps18
    go_wp2_with (go_at_call 65; refine hc.mono ?_; rintro e w1 ⟨rfl, h1, ht1⟩)
    go_ret
    exact ⟨rfl, h1, ht1⟩
theorem alone_any (T M depth next n id : Nat) (f : Nat → Option Med) (w : World) (h : TabAt w T M depth next n f) (hid : id < 18446744073709551616) (hn : n ≤ 1000000) :
    Calls Try.prog 20 #[.pointer (some ⟨T, 0, none⟩), .int .u64 (id : Nat)] w fun e w' => e = .returned (.int .i64 (if f id = none then 4 else 0)) ∧ TabAt w' T M depth next (n + 1) (upd f id ((f id).map aloneM)) ∧ Turn2 T M w w' := by
  cases hcur : f id with
  | none =>
    have hc := fun V => change_none V T M depth next n id f w h hid hcur
    have HT := Lib.hid h
    have HC := Lib.hid hcur
    clear hcur
    go_enter Try.func20, Try.ntmps20
    go_wp2_with (go_at_call 65; refine (hc _).mono ?_; rintro e w1 ⟨rfl, hb1⟩)
    go_ret
    refine ⟨rfl, ?_, .of_below hb1⟩
    have h1 := HT.out.below hb1
    (try rw [Option.map_none]); rw [upd_none HC.out]
    exact ⟨h1.blk, h1.mp.mono (by omega), h1.ne⟩
  | some m =>
    have hc := change_alone T M depth next n id f w h hid hn m hcur
    go_enter Try.func20, Try.ntmps20
    go_wp2_with (go_at_call 65; refine hc.mono ?_; rintro e w1 ⟨rfl, h1, ht1⟩)
    go_ret
    exact ⟨rfl, h1, ht1⟩
end Go.Proofs.Ytppfjdohajomoaa
