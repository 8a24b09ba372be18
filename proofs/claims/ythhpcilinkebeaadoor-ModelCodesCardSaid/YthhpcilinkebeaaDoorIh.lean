/- The abstract array: New; few operations; what touches a volume. -/
import Derived.Test.YthhpcilinkebeaaDoorIg
namespace Go.Proofs.YthhpcilinkebeaaDoor
open Go.RowKit Go.Maps
set_option maxHeartbeats 4000000
set_option maxRecDepth 100000

theorem new_any (block quota : Nat) (h1 : 1 ≤ block) (h2 : block ≤ 65536) (h3 : quota ≤ 1073741824) (w : World) :
    Calls Tryd.prog 12 #[.int .i64 (block : Nat), .int .i64 (quota : Nat)] w fun e w' => ∃ A M, e = .returned (.tuple #[.pointer (some ⟨A, 0, none⟩), .int .i64 0]) ∧ ArrAt w' A M block quota [] ∧ w.heap.size ≤ A ∧ w.heap.size ≤ M ∧ Below w.heap.size w w' := by
  have k1 : ¬ (block : Int) < 1 := by omega
  have k2 : ¬ (65536 : Int) < (block : Int) := by omega
  have k3 : ¬ (quota : Int) < 0 := by omega
  have k4 : ¬ (1073741824 : Int) < (quota : Int) := by omega
  have hb0 := (Below.refl w.heap.size w).alloc (Nat.le_refl _) (.map #[] 0)
  have hb1 := hb0.alloc hb0.size (.cells #[.int .i64 (block : Nat), .int .i64 (quota : Nat), .map (some w.heap.size)] 80)
  go_enter Tryd.func12, Tryd.ntmps12
  have hmm : ∀ W : World, (Instr.makeMap 78 none).run Tryd.prog W = .ok (.map (some W.heap.size)) (W.alloc (.map #[] 0)) := fun W => by kernel_rfl
  go_wp2_with fail
  go_ret2
  have hB := Blk.new (w.alloc (.map #[] 0)) 80 #[.int .i64 (block : Nat), .int .i64 (quota : Nat), .map (some w.heap.size)]
  rw [show (w.alloc (.map #[] 0)).heap.size = w.heap.size + 1 by simp] at hB
  refine ⟨w.heap.size + 1, rfl, w.heap.size, ?_, Nat.le_succ _, Nat.le_refl _, hb1⟩
  refine ⟨hB, ⟨0, (MpX.made (κ := kStr) w).alloc _⟩, fun m hm => (by cases hm), List.Pairwise.nil, fun m hm => (by cases hm), fun m hm => (by cases hm), fun m hm => (by cases hm), h1, h2, h3, by simp, Nat.zero_le _⟩
theorem touches_any (o : OM) (s : ByteArray) (w : World) : Calls Tryd.prog 16 #[o.val, .string s] w fun e w' => e = .returned (.bool (decide (o.name.toList = s.toList) && decide (o.kind ≠ 3) && decide (o.kind ≠ 6) && decide (o.kind ≠ 7))) ∧ Below w.heap.size w w' := by
  have hb := (Below.refl w.heap.size w).alloc (Nat.le_refl _) (.cells o.cells.toArray 33)
  have hB := Blk.new w 33 o.cells.toArray
  obtain ⟨k, nm, ds, at_, n, A, l, c⟩ := o
  simp only [OM.val, OM.cells] at *
  have c0 := hB.cell 0
  have c1 := hB.cell 1
  go_enter Tryd.func16, Tryd.ntmps16
  go_wp2_with fail
  all_goals (clear hB c0 c1 hb; go_ret; refine ⟨?_, (Below.refl _ w).alloc (Nat.le_refl _) _⟩; simp_all; try (rw [Bool.eq_iff_iff]; simp_all))
end Go.Proofs.YthhpcilinkebeaaDoor
