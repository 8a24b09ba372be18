/- The abstract array: has an operation the fields of its kind alone? PRINTED by tools/he.py. -/
import Derived.Test.YthhpcilinkebeaaDoorHd
import Derived.Lib.Strings
namespace Go.Proofs.YthhpcilinkebeaaDoor
open Go.RowKit Go.Maps
set_option maxHeartbeats 4000000
set_option maxRecDepth 100000

def zeroOp : Value := .agg #[.int .i64 0, .string ⟨#[]⟩, .string ⟨#[]⟩, .int .i64 0, .int .i64 0, .slice none 0 0]
theorem ta_all_makes (v : Value) : (∀ W, (Instr.typeAssert (.iface 83 v) 20 83 true).run Tryd.prog W = .ok (.tuple #[v, .bool true]) W) ∧
    (∀ W, (Instr.typeAssert (.iface 83 v) 20 84 true).run Tryd.prog W = .ok (.tuple #[zeroOp, .bool false]) W) ∧
    (∀ W, (Instr.typeAssert (.iface 83 v) 20 85 true).run Tryd.prog W = .ok (.tuple #[zeroOp, .bool false]) W) ∧
    (∀ W, (Instr.typeAssert (.iface 83 v) 20 86 true).run Tryd.prog W = .ok (.tuple #[zeroOp, .bool false]) W) ∧
    (∀ W, (Instr.typeAssert (.iface 83 v) 20 87 true).run Tryd.prog W = .ok (.tuple #[zeroOp, .bool false]) W) ∧
    (∀ W, (Instr.typeAssert (.iface 83 v) 20 88 true).run Tryd.prog W = .ok (.tuple #[zeroOp, .bool false]) W) ∧
    (∀ W, (Instr.typeAssert (.iface 83 v) 20 89 true).run Tryd.prog W = .ok (.tuple #[zeroOp, .bool false]) W) ∧
    (∀ W, (Instr.typeAssert (.iface 83 v) 20 90 true).run Tryd.prog W = .ok (.tuple #[zeroOp, .bool false]) W) :=
  ⟨fun W => by kernel_rfl, fun W => by kernel_rfl, fun W => by kernel_rfl, fun W => by kernel_rfl, fun W => by kernel_rfl, fun W => by kernel_rfl, fun W => by kernel_rfl, fun W => by kernel_rfl⟩
theorem ta_all_drops (v : Value) : (∀ W, (Instr.typeAssert (.iface 84 v) 20 83 true).run Tryd.prog W = .ok (.tuple #[zeroOp, .bool false]) W) ∧
    (∀ W, (Instr.typeAssert (.iface 84 v) 20 84 true).run Tryd.prog W = .ok (.tuple #[v, .bool true]) W) ∧
    (∀ W, (Instr.typeAssert (.iface 84 v) 20 85 true).run Tryd.prog W = .ok (.tuple #[zeroOp, .bool false]) W) ∧
    (∀ W, (Instr.typeAssert (.iface 84 v) 20 86 true).run Tryd.prog W = .ok (.tuple #[zeroOp, .bool false]) W) ∧
    (∀ W, (Instr.typeAssert (.iface 84 v) 20 87 true).run Tryd.prog W = .ok (.tuple #[zeroOp, .bool false]) W) ∧
    (∀ W, (Instr.typeAssert (.iface 84 v) 20 88 true).run Tryd.prog W = .ok (.tuple #[zeroOp, .bool false]) W) ∧
    (∀ W, (Instr.typeAssert (.iface 84 v) 20 89 true).run Tryd.prog W = .ok (.tuple #[zeroOp, .bool false]) W) ∧
    (∀ W, (Instr.typeAssert (.iface 84 v) 20 90 true).run Tryd.prog W = .ok (.tuple #[zeroOp, .bool false]) W) :=
  ⟨fun W => by kernel_rfl, fun W => by kernel_rfl, fun W => by kernel_rfl, fun W => by kernel_rfl, fun W => by kernel_rfl, fun W => by kernel_rfl, fun W => by kernel_rfl, fun W => by kernel_rfl⟩
theorem ta_all_reads (v : Value) : (∀ W, (Instr.typeAssert (.iface 85 v) 20 83 true).run Tryd.prog W = .ok (.tuple #[zeroOp, .bool false]) W) ∧
    (∀ W, (Instr.typeAssert (.iface 85 v) 20 84 true).run Tryd.prog W = .ok (.tuple #[zeroOp, .bool false]) W) ∧
    (∀ W, (Instr.typeAssert (.iface 85 v) 20 85 true).run Tryd.prog W = .ok (.tuple #[v, .bool true]) W) ∧
    (∀ W, (Instr.typeAssert (.iface 85 v) 20 86 true).run Tryd.prog W = .ok (.tuple #[zeroOp, .bool false]) W) ∧
    (∀ W, (Instr.typeAssert (.iface 85 v) 20 87 true).run Tryd.prog W = .ok (.tuple #[zeroOp, .bool false]) W) ∧
    (∀ W, (Instr.typeAssert (.iface 85 v) 20 88 true).run Tryd.prog W = .ok (.tuple #[zeroOp, .bool false]) W) ∧
    (∀ W, (Instr.typeAssert (.iface 85 v) 20 89 true).run Tryd.prog W = .ok (.tuple #[zeroOp, .bool false]) W) ∧
    (∀ W, (Instr.typeAssert (.iface 85 v) 20 90 true).run Tryd.prog W = .ok (.tuple #[zeroOp, .bool false]) W) :=
  ⟨fun W => by kernel_rfl, fun W => by kernel_rfl, fun W => by kernel_rfl, fun W => by kernel_rfl, fun W => by kernel_rfl, fun W => by kernel_rfl, fun W => by kernel_rfl, fun W => by kernel_rfl⟩
theorem ta_all_writes (v : Value) : (∀ W, (Instr.typeAssert (.iface 86 v) 20 83 true).run Tryd.prog W = .ok (.tuple #[zeroOp, .bool false]) W) ∧
    (∀ W, (Instr.typeAssert (.iface 86 v) 20 84 true).run Tryd.prog W = .ok (.tuple #[zeroOp, .bool false]) W) ∧
    (∀ W, (Instr.typeAssert (.iface 86 v) 20 85 true).run Tryd.prog W = .ok (.tuple #[zeroOp, .bool false]) W) ∧
    (∀ W, (Instr.typeAssert (.iface 86 v) 20 86 true).run Tryd.prog W = .ok (.tuple #[v, .bool true]) W) ∧
    (∀ W, (Instr.typeAssert (.iface 86 v) 20 87 true).run Tryd.prog W = .ok (.tuple #[zeroOp, .bool false]) W) ∧
    (∀ W, (Instr.typeAssert (.iface 86 v) 20 88 true).run Tryd.prog W = .ok (.tuple #[zeroOp, .bool false]) W) ∧
    (∀ W, (Instr.typeAssert (.iface 86 v) 20 89 true).run Tryd.prog W = .ok (.tuple #[zeroOp, .bool false]) W) ∧
    (∀ W, (Instr.typeAssert (.iface 86 v) 20 90 true).run Tryd.prog W = .ok (.tuple #[zeroOp, .bool false]) W) :=
  ⟨fun W => by kernel_rfl, fun W => by kernel_rfl, fun W => by kernel_rfl, fun W => by kernel_rfl, fun W => by kernel_rfl, fun W => by kernel_rfl, fun W => by kernel_rfl, fun W => by kernel_rfl⟩
theorem ta_all_trims (v : Value) : (∀ W, (Instr.typeAssert (.iface 87 v) 20 83 true).run Tryd.prog W = .ok (.tuple #[zeroOp, .bool false]) W) ∧
    (∀ W, (Instr.typeAssert (.iface 87 v) 20 84 true).run Tryd.prog W = .ok (.tuple #[zeroOp, .bool false]) W) ∧
    (∀ W, (Instr.typeAssert (.iface 87 v) 20 85 true).run Tryd.prog W = .ok (.tuple #[zeroOp, .bool false]) W) ∧
    (∀ W, (Instr.typeAssert (.iface 87 v) 20 86 true).run Tryd.prog W = .ok (.tuple #[zeroOp, .bool false]) W) ∧
    (∀ W, (Instr.typeAssert (.iface 87 v) 20 87 true).run Tryd.prog W = .ok (.tuple #[v, .bool true]) W) ∧
    (∀ W, (Instr.typeAssert (.iface 87 v) 20 88 true).run Tryd.prog W = .ok (.tuple #[zeroOp, .bool false]) W) ∧
    (∀ W, (Instr.typeAssert (.iface 87 v) 20 89 true).run Tryd.prog W = .ok (.tuple #[zeroOp, .bool false]) W) ∧
    (∀ W, (Instr.typeAssert (.iface 87 v) 20 90 true).run Tryd.prog W = .ok (.tuple #[zeroOp, .bool false]) W) :=
  ⟨fun W => by kernel_rfl, fun W => by kernel_rfl, fun W => by kernel_rfl, fun W => by kernel_rfl, fun W => by kernel_rfl, fun W => by kernel_rfl, fun W => by kernel_rfl, fun W => by kernel_rfl⟩
theorem ta_all_snaps (v : Value) : (∀ W, (Instr.typeAssert (.iface 88 v) 20 83 true).run Tryd.prog W = .ok (.tuple #[zeroOp, .bool false]) W) ∧
    (∀ W, (Instr.typeAssert (.iface 88 v) 20 84 true).run Tryd.prog W = .ok (.tuple #[zeroOp, .bool false]) W) ∧
    (∀ W, (Instr.typeAssert (.iface 88 v) 20 85 true).run Tryd.prog W = .ok (.tuple #[zeroOp, .bool false]) W) ∧
    (∀ W, (Instr.typeAssert (.iface 88 v) 20 86 true).run Tryd.prog W = .ok (.tuple #[zeroOp, .bool false]) W) ∧
    (∀ W, (Instr.typeAssert (.iface 88 v) 20 87 true).run Tryd.prog W = .ok (.tuple #[zeroOp, .bool false]) W) ∧
    (∀ W, (Instr.typeAssert (.iface 88 v) 20 88 true).run Tryd.prog W = .ok (.tuple #[v, .bool true]) W) ∧
    (∀ W, (Instr.typeAssert (.iface 88 v) 20 89 true).run Tryd.prog W = .ok (.tuple #[zeroOp, .bool false]) W) ∧
    (∀ W, (Instr.typeAssert (.iface 88 v) 20 90 true).run Tryd.prog W = .ok (.tuple #[zeroOp, .bool false]) W) :=
  ⟨fun W => by kernel_rfl, fun W => by kernel_rfl, fun W => by kernel_rfl, fun W => by kernel_rfl, fun W => by kernel_rfl, fun W => by kernel_rfl, fun W => by kernel_rfl, fun W => by kernel_rfl⟩
theorem ta_all_clones (v : Value) : (∀ W, (Instr.typeAssert (.iface 89 v) 20 83 true).run Tryd.prog W = .ok (.tuple #[zeroOp, .bool false]) W) ∧
    (∀ W, (Instr.typeAssert (.iface 89 v) 20 84 true).run Tryd.prog W = .ok (.tuple #[zeroOp, .bool false]) W) ∧
    (∀ W, (Instr.typeAssert (.iface 89 v) 20 85 true).run Tryd.prog W = .ok (.tuple #[zeroOp, .bool false]) W) ∧
    (∀ W, (Instr.typeAssert (.iface 89 v) 20 86 true).run Tryd.prog W = .ok (.tuple #[zeroOp, .bool false]) W) ∧
    (∀ W, (Instr.typeAssert (.iface 89 v) 20 87 true).run Tryd.prog W = .ok (.tuple #[zeroOp, .bool false]) W) ∧
    (∀ W, (Instr.typeAssert (.iface 89 v) 20 88 true).run Tryd.prog W = .ok (.tuple #[zeroOp, .bool false]) W) ∧
    (∀ W, (Instr.typeAssert (.iface 89 v) 20 89 true).run Tryd.prog W = .ok (.tuple #[v, .bool true]) W) ∧
    (∀ W, (Instr.typeAssert (.iface 89 v) 20 90 true).run Tryd.prog W = .ok (.tuple #[zeroOp, .bool false]) W) :=
  ⟨fun W => by kernel_rfl, fun W => by kernel_rfl, fun W => by kernel_rfl, fun W => by kernel_rfl, fun W => by kernel_rfl, fun W => by kernel_rfl, fun W => by kernel_rfl, fun W => by kernel_rfl⟩
theorem ta_all_grows (v : Value) : (∀ W, (Instr.typeAssert (.iface 90 v) 20 83 true).run Tryd.prog W = .ok (.tuple #[zeroOp, .bool false]) W) ∧
    (∀ W, (Instr.typeAssert (.iface 90 v) 20 84 true).run Tryd.prog W = .ok (.tuple #[zeroOp, .bool false]) W) ∧
    (∀ W, (Instr.typeAssert (.iface 90 v) 20 85 true).run Tryd.prog W = .ok (.tuple #[zeroOp, .bool false]) W) ∧
    (∀ W, (Instr.typeAssert (.iface 90 v) 20 86 true).run Tryd.prog W = .ok (.tuple #[zeroOp, .bool false]) W) ∧
    (∀ W, (Instr.typeAssert (.iface 90 v) 20 87 true).run Tryd.prog W = .ok (.tuple #[zeroOp, .bool false]) W) ∧
    (∀ W, (Instr.typeAssert (.iface 90 v) 20 88 true).run Tryd.prog W = .ok (.tuple #[zeroOp, .bool false]) W) ∧
    (∀ W, (Instr.typeAssert (.iface 90 v) 20 89 true).run Tryd.prog W = .ok (.tuple #[zeroOp, .bool false]) W) ∧
    (∀ W, (Instr.typeAssert (.iface 90 v) 20 90 true).run Tryd.prog W = .ok (.tuple #[v, .bool true]) W) :=
  ⟨fun W => by kernel_rfl, fun W => by kernel_rfl, fun W => by kernel_rfl, fun W => by kernel_rfl, fun W => by kernel_rfl, fun W => by kernel_rfl, fun W => by kernel_rfl, fun W => by kernel_rfl⟩
theorem ta_all_lists (v : Value) : (∀ W, (Instr.typeAssert (.iface 128 v) 20 83 true).run Tryd.prog W = .ok (.tuple #[zeroOp, .bool false]) W) ∧
    (∀ W, (Instr.typeAssert (.iface 128 v) 20 84 true).run Tryd.prog W = .ok (.tuple #[zeroOp, .bool false]) W) ∧
    (∀ W, (Instr.typeAssert (.iface 128 v) 20 85 true).run Tryd.prog W = .ok (.tuple #[zeroOp, .bool false]) W) ∧
    (∀ W, (Instr.typeAssert (.iface 128 v) 20 86 true).run Tryd.prog W = .ok (.tuple #[zeroOp, .bool false]) W) ∧
    (∀ W, (Instr.typeAssert (.iface 128 v) 20 87 true).run Tryd.prog W = .ok (.tuple #[zeroOp, .bool false]) W) ∧
    (∀ W, (Instr.typeAssert (.iface 128 v) 20 88 true).run Tryd.prog W = .ok (.tuple #[zeroOp, .bool false]) W) ∧
    (∀ W, (Instr.typeAssert (.iface 128 v) 20 89 true).run Tryd.prog W = .ok (.tuple #[zeroOp, .bool false]) W) ∧
    (∀ W, (Instr.typeAssert (.iface 128 v) 20 90 true).run Tryd.prog W = .ok (.tuple #[zeroOp, .bool false]) W) :=
  ⟨fun W => by kernel_rfl, fun W => by kernel_rfl, fun W => by kernel_rfl, fun W => by kernel_rfl, fun W => by kernel_rfl, fun W => by kernel_rfl, fun W => by kernel_rfl, fun W => by kernel_rfl⟩
theorem OM.fit_ov (o : OM) (t a b d : Bool) : o.fit t a b d = onlyV o.ov t a b d := by
  unfold OM.fit onlyV OM.ov
  have h1 : decide (o.dst.toList = []) = decide (strB o.dst = []) := by rw [Lib.toList_data]; rfl
  have h2 : (o.at_ == 0) = decide (o.at_ = 0) := by rw [Bool.eq_iff_iff]; simp
  have h3 : (o.n == 0) = decide (o.n = 0) := by rw [Bool.eq_iff_iff]; simp
  have h4 : ((o.l.length : Int) == 0) = decide (o.l = []) := by rw [Bool.eq_iff_iff]; simp
  rw [h1, h2, h3, h4]
theorem right_at (o : OM) (w : World) {R : Bool} (hR : rightV o.ov = R) : Calls Tryd.prog 22 #[o.val] w fun x w' => x = .returned (.bool R) ∧ Below w.heap.size w w' := by
  have hb := (Below.refl w.heap.size w).alloc (Nat.le_refl _) (.cells o.cells.toArray 33)
  have hB := Blk.new w 33 o.cells.toArray
  have hT := typed_any o (w.alloc (.cells o.cells.toArray 33))
  have ho := fun (t a b d : Bool) (W : World) (h : Blk W w.heap.size 33 o.cells.toArray) => only_any o w.heap.size t a b d W h
  have h9 : decide (o.name.toList = []) = decide (strB o.name = []) := by rw [Lib.toList_data]; rfl
  simp only [OM.fit_ov] at ho
  have HR := Lib.hid hR
  clear hR
  obtain ⟨k, nm, ds, at_, n, A, l, c⟩ := o
  simp only [OM.val, OM.cells] at *
  have c0 := hB.cell 0
  have c1 := hB.cell 1
  have c2 := hB.cell 2
  have c3 := hB.cell 3
  have c4 := hB.cell 4
  have c5 := hB.cell 5
  rcases kinds k with rfl | rfl | rfl | rfl | rfl | rfl | rfl | rfl | rfl | ⟨h1, h2, h3, h4, h5, h6, h7, h8, h9'⟩
  · have hv : onlyV (OM.ov ⟨1, nm, ds, at_, n, A, l, c⟩) false false true false = R := by rw [← HR.out]; rfl
    replace ho := fun (W : World) (h : Blk W w.heap.size 33 _) => ho false false true false W h
    simp only [hv] at ho
    clear hv HR h9
    replace hT : Calls Tryd.prog _ _ _ fun x w' => x = .returned (.iface 83 (.agg #[.int .i64 1, .string nm, .string ds, .int .i64 at_, .int .i64 n, .slice A l.length c])) ∧ Below _ _ w' := hT
    obtain ⟨m1, m2, m3, m4, m5, m6, m7, m8⟩ : _ ∧ _ ∧ _ ∧ _ ∧ _ ∧ _ ∧ _ ∧ _ := ta_all_makes (.agg #[.int .i64 1, .string nm, .string ds, .int .i64 at_, .int .i64 n, .slice A l.length c])
    go_enter Tryd.func22, Tryd.ntmps22
    go_wp2_with fail
    refine hT.mono ?_
    rintro e w2 ⟨rfl, hb2⟩
    clear hT
    have hB2 := hB.below' hb2
    have ho2 := ho w2 hB2
    clear ho hB c0 c1 c2 c3 c4 c5
    go_wp2_with fail
    refine ho2.mono ?_
    rintro e w3 ⟨rfl, rfl⟩
    go_wp2_with fail
    go_ret
    exact ⟨rfl, hb.trans (hb2.mono hb.size)⟩
  · have hv : onlyV (OM.ov ⟨2, nm, ds, at_, n, A, l, c⟩) false false false false = R := by rw [← HR.out]; rfl
    replace ho := fun (W : World) (h : Blk W w.heap.size 33 _) => ho false false false false W h
    simp only [hv] at ho
    clear hv HR h9
    replace hT : Calls Tryd.prog _ _ _ fun x w' => x = .returned (.iface 84 (.agg #[.int .i64 2, .string nm, .string ds, .int .i64 at_, .int .i64 n, .slice A l.length c])) ∧ Below _ _ w' := hT
    obtain ⟨m1, m2, m3, m4, m5, m6, m7, m8⟩ : _ ∧ _ ∧ _ ∧ _ ∧ _ ∧ _ ∧ _ ∧ _ := ta_all_drops (.agg #[.int .i64 2, .string nm, .string ds, .int .i64 at_, .int .i64 n, .slice A l.length c])
    go_enter Tryd.func22, Tryd.ntmps22
    go_wp2_with fail
    refine hT.mono ?_
    rintro e w2 ⟨rfl, hb2⟩
    clear hT
    have hB2 := hB.below' hb2
    have ho2 := ho w2 hB2
    clear ho hB c0 c1 c2 c3 c4 c5
    go_wp2_with fail
    refine ho2.mono ?_
    rintro e w3 ⟨rfl, rfl⟩
    go_wp2_with fail
    go_ret
    exact ⟨rfl, hb.trans (hb2.mono hb.size)⟩
  · have hv : onlyV (OM.ov ⟨3, nm, ds, at_, n, A, l, c⟩) false true true false = R := by rw [← HR.out]; rfl
    replace ho := fun (W : World) (h : Blk W w.heap.size 33 _) => ho false true true false W h
    simp only [hv] at ho
    clear hv HR h9
    replace hT : Calls Tryd.prog _ _ _ fun x w' => x = .returned (.iface 85 (.agg #[.int .i64 3, .string nm, .string ds, .int .i64 at_, .int .i64 n, .slice A l.length c])) ∧ Below _ _ w' := hT
    obtain ⟨m1, m2, m3, m4, m5, m6, m7, m8⟩ : _ ∧ _ ∧ _ ∧ _ ∧ _ ∧ _ ∧ _ ∧ _ := ta_all_reads (.agg #[.int .i64 3, .string nm, .string ds, .int .i64 at_, .int .i64 n, .slice A l.length c])
    go_enter Tryd.func22, Tryd.ntmps22
    go_wp2_with fail
    refine hT.mono ?_
    rintro e w2 ⟨rfl, hb2⟩
    clear hT
    have hB2 := hB.below' hb2
    have ho2 := ho w2 hB2
    clear ho hB c0 c1 c2 c3 c4 c5
    go_wp2_with fail
    refine ho2.mono ?_
    rintro e w3 ⟨rfl, rfl⟩
    go_wp2_with fail
    go_ret
    exact ⟨rfl, hb.trans (hb2.mono hb.size)⟩
  · have hv : onlyV (OM.ov ⟨4, nm, ds, at_, n, A, l, c⟩) false true false true = R := by rw [← HR.out]; rfl
    replace ho := fun (W : World) (h : Blk W w.heap.size 33 _) => ho false true false true W h
    simp only [hv] at ho
    clear hv HR h9
    replace hT : Calls Tryd.prog _ _ _ fun x w' => x = .returned (.iface 86 (.agg #[.int .i64 4, .string nm, .string ds, .int .i64 at_, .int .i64 n, .slice A l.length c])) ∧ Below _ _ w' := hT
    obtain ⟨m1, m2, m3, m4, m5, m6, m7, m8⟩ : _ ∧ _ ∧ _ ∧ _ ∧ _ ∧ _ ∧ _ ∧ _ := ta_all_writes (.agg #[.int .i64 4, .string nm, .string ds, .int .i64 at_, .int .i64 n, .slice A l.length c])
    go_enter Tryd.func22, Tryd.ntmps22
    go_wp2_with fail
    refine hT.mono ?_
    rintro e w2 ⟨rfl, hb2⟩
    clear hT
    have hB2 := hB.below' hb2
    have ho2 := ho w2 hB2
    clear ho hB c0 c1 c2 c3 c4 c5
    go_wp2_with fail
    refine ho2.mono ?_
    rintro e w3 ⟨rfl, rfl⟩
    go_wp2_with fail
    go_ret
    exact ⟨rfl, hb.trans (hb2.mono hb.size)⟩
  · have hv : onlyV (OM.ov ⟨5, nm, ds, at_, n, A, l, c⟩) false true true false = R := by rw [← HR.out]; rfl
    replace ho := fun (W : World) (h : Blk W w.heap.size 33 _) => ho false true true false W h
    simp only [hv] at ho
    clear hv HR h9
    replace hT : Calls Tryd.prog _ _ _ fun x w' => x = .returned (.iface 87 (.agg #[.int .i64 5, .string nm, .string ds, .int .i64 at_, .int .i64 n, .slice A l.length c])) ∧ Below _ _ w' := hT
    obtain ⟨m1, m2, m3, m4, m5, m6, m7, m8⟩ : _ ∧ _ ∧ _ ∧ _ ∧ _ ∧ _ ∧ _ ∧ _ := ta_all_trims (.agg #[.int .i64 5, .string nm, .string ds, .int .i64 at_, .int .i64 n, .slice A l.length c])
    go_enter Tryd.func22, Tryd.ntmps22
    go_wp2_with fail
    refine hT.mono ?_
    rintro e w2 ⟨rfl, hb2⟩
    clear hT
    have hB2 := hB.below' hb2
    have ho2 := ho w2 hB2
    clear ho hB c0 c1 c2 c3 c4 c5
    go_wp2_with fail
    refine ho2.mono ?_
    rintro e w3 ⟨rfl, rfl⟩
    go_wp2_with fail
    go_ret
    exact ⟨rfl, hb.trans (hb2.mono hb.size)⟩
  · have hv : onlyV (OM.ov ⟨6, nm, ds, at_, n, A, l, c⟩) true false false false = R := by rw [← HR.out]; rfl
    replace ho := fun (W : World) (h : Blk W w.heap.size 33 _) => ho true false false false W h
    simp only [hv] at ho
    clear hv HR h9
    replace hT : Calls Tryd.prog _ _ _ fun x w' => x = .returned (.iface 88 (.agg #[.int .i64 6, .string nm, .string ds, .int .i64 at_, .int .i64 n, .slice A l.length c])) ∧ Below _ _ w' := hT
    obtain ⟨m1, m2, m3, m4, m5, m6, m7, m8⟩ : _ ∧ _ ∧ _ ∧ _ ∧ _ ∧ _ ∧ _ ∧ _ := ta_all_snaps (.agg #[.int .i64 6, .string nm, .string ds, .int .i64 at_, .int .i64 n, .slice A l.length c])
    go_enter Tryd.func22, Tryd.ntmps22
    go_wp2_with fail
    refine hT.mono ?_
    rintro e w2 ⟨rfl, hb2⟩
    clear hT
    have hB2 := hB.below' hb2
    have ho2 := ho w2 hB2
    clear ho hB c0 c1 c2 c3 c4 c5
    go_wp2_with fail
    refine ho2.mono ?_
    rintro e w3 ⟨rfl, rfl⟩
    go_wp2_with fail
    go_ret
    exact ⟨rfl, hb.trans (hb2.mono hb.size)⟩
  · have hv : onlyV (OM.ov ⟨7, nm, ds, at_, n, A, l, c⟩) true false false false = R := by rw [← HR.out]; rfl
    replace ho := fun (W : World) (h : Blk W w.heap.size 33 _) => ho true false false false W h
    simp only [hv] at ho
    clear hv HR h9
    replace hT : Calls Tryd.prog _ _ _ fun x w' => x = .returned (.iface 89 (.agg #[.int .i64 7, .string nm, .string ds, .int .i64 at_, .int .i64 n, .slice A l.length c])) ∧ Below _ _ w' := hT
    obtain ⟨m1, m2, m3, m4, m5, m6, m7, m8⟩ : _ ∧ _ ∧ _ ∧ _ ∧ _ ∧ _ ∧ _ ∧ _ := ta_all_clones (.agg #[.int .i64 7, .string nm, .string ds, .int .i64 at_, .int .i64 n, .slice A l.length c])
    go_enter Tryd.func22, Tryd.ntmps22
    go_wp2_with fail
    refine hT.mono ?_
    rintro e w2 ⟨rfl, hb2⟩
    clear hT
    have hB2 := hB.below' hb2
    have ho2 := ho w2 hB2
    clear ho hB c0 c1 c2 c3 c4 c5
    go_wp2_with fail
    refine ho2.mono ?_
    rintro e w3 ⟨rfl, rfl⟩
    go_wp2_with fail
    go_ret
    exact ⟨rfl, hb.trans (hb2.mono hb.size)⟩
  · have hv : onlyV (OM.ov ⟨8, nm, ds, at_, n, A, l, c⟩) false false true false = R := by rw [← HR.out]; rfl
    replace ho := fun (W : World) (h : Blk W w.heap.size 33 _) => ho false false true false W h
    simp only [hv] at ho
    clear hv HR h9
    replace hT : Calls Tryd.prog _ _ _ fun x w' => x = .returned (.iface 90 (.agg #[.int .i64 8, .string nm, .string ds, .int .i64 at_, .int .i64 n, .slice A l.length c])) ∧ Below _ _ w' := hT
    obtain ⟨m1, m2, m3, m4, m5, m6, m7, m8⟩ : _ ∧ _ ∧ _ ∧ _ ∧ _ ∧ _ ∧ _ ∧ _ := ta_all_grows (.agg #[.int .i64 8, .string nm, .string ds, .int .i64 at_, .int .i64 n, .slice A l.length c])
    go_enter Tryd.func22, Tryd.ntmps22
    go_wp2_with fail
    refine hT.mono ?_
    rintro e w2 ⟨rfl, hb2⟩
    clear hT
    have hB2 := hB.below' hb2
    have ho2 := ho w2 hB2
    clear ho hB c0 c1 c2 c3 c4 c5
    go_wp2_with fail
    refine ho2.mono ?_
    rintro e w3 ⟨rfl, rfl⟩
    go_wp2_with fail
    go_ret
    exact ⟨rfl, hb.trans (hb2.mono hb.size)⟩
  · have hv : (decide (nm.toList = []) && onlyV (OM.ov ⟨9, nm, ds, at_, n, A, l, c⟩) false false false false) = R := by rw [h9, ← HR.out]; rfl
    replace ho := fun (W : World) (h : Blk W w.heap.size 33 _) => ho false false false false W h
    have HV := Lib.hid hv
    clear hv HR h9
    generalize onlyV (OM.ov ⟨9, nm, ds, at_, n, A, l, c⟩) false false false false = r at *
    replace hT : Calls Tryd.prog _ _ _ fun x w' => x = .returned (.iface 128 (.agg #[.int .i64 9, .string nm, .string ds, .int .i64 at_, .int .i64 n, .slice A l.length c])) ∧ Below _ _ w' := hT
    obtain ⟨m1, m2, m3, m4, m5, m6, m7, m8⟩ : _ ∧ _ ∧ _ ∧ _ ∧ _ ∧ _ ∧ _ ∧ _ := ta_all_lists (.agg #[.int .i64 9, .string nm, .string ds, .int .i64 at_, .int .i64 n, .slice A l.length c])
    have hnn : nm.toList = [] ∨ nm.toList ≠ [] := by by_cases h : nm.toList = [] <;> simp [h]
    rcases hnn with hnn | hnn
    · rw [hnn] at HV
      go_enter Tryd.func22, Tryd.ntmps22
      go_wp2_with fail
      refine hT.mono ?_
      rintro e w2 ⟨rfl, hb2⟩
      clear hT
      have hB2 := hB.below' hb2
      have ho2 := ho w2 hB2
      clear ho hB c0 c1 c2 c3 c4 c5
      have c1 := hB2.cell 1
      go_wp2_with fail
      refine ho2.mono ?_
      rintro e w3 ⟨rfl, rfl⟩
      go_wp2_with fail
      go_ret
      exact ⟨by rw [← HV.out]; rfl, hb.trans (hb2.mono hb.size)⟩
    · have hd : decide (nm.toList = []) = false := decide_eq_false hnn
      rw [hd] at HV
      go_enter Tryd.func22, Tryd.ntmps22
      go_wp2_with fail
      refine hT.mono ?_
      rintro e w2 ⟨rfl, hb2⟩
      clear hT
      have hB2 := hB.below' hb2
      clear ho hB c0 c1 c2 c3 c4 c5
      have c1 := hB2.cell 1
      go_wp2_with fail
      go_ret
      exact ⟨by rw [← HV.out]; rfl, hb.trans (hb2.mono hb.size)⟩
  · have hv : false = R := by rw [← HR.out]; simp [rightV, OM.ov, h1, h2, h3, h4, h5, h6, h7, h8, h9']
    have hty : OM.typed ⟨k, nm, ds, at_, n, A, l, c⟩ = .nilIface := by simp [OM.typed, typT, h1, h2, h3, h4, h5, h6, h7, h8, h9']
    rw [hty] at hT
    subst hv
    clear hty h1 h2 h3 h4 h5 h6 h7 h8 h9' HR h9 ho
    go_enter Tryd.func22, Tryd.ntmps22
    go_wp2_with fail
    refine hT.mono ?_
    rintro e w2 ⟨rfl, hb2⟩
    clear hT
    go_wp2_with fail
    go_ret
    exact ⟨rfl, hb.trans (hb2.mono hb.size)⟩
end Go.Proofs.YthhpcilinkebeaaDoor
