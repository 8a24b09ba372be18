/- A stretch of keys: the statement that draws its order. PRINTED by tools/regs_l.py. -/
import Derived.Test.YtadgaphgomagkaaLx
namespace Go.Proofs.Ytadgaphgomagkaa
open Go.RowKit
set_option maxHeartbeats 8000000
set_option maxRecDepth 100000
def opsRange2 : Array Oper := #[{ dst := some 11, op := Op.move (Operand.tmp 0), type := 65, pos := "fact.go:220", after := #[], guard := none }, { dst := some 12, op := Op.nilCheck (Operand.tmp 11), type := 0, pos := "fact.go:220", after := #[{ on := 0, ground := Ground.data }], guard := none }, { dst := some 13, op := Op.fieldAddr 129 (Operand.tmp 12) 0, type := 0, pos := "fact.go:220", after := #[{ on := 1, ground := Ground.data }], guard := none }, { dst := some 14, op := Op.load 56 (Operand.tmp 13), type := 56, pos := "fact.go:220", after := #[{ on := 2, ground := Ground.data }], guard := none }, { dst := some 15, op := Op.move (Operand.tmp 7), type := 3, pos := "fact.go:220", after := #[], guard := none }, { dst := some 16, op := Op.move (Operand.tmp 7), type := 3, pos := "fact.go:220", after := #[], guard := none }, { dst := some 17, op := Op.move (Operand.tmp 0), type := 65, pos := "fact.go:220", after := #[], guard := none }, { dst := some 18, op := Op.move (Operand.tmp 2), type := 9, pos := "fact.go:220", after := #[], guard := none }, { dst := some 19, op := Op.call { callee := Callee.value (Operand.func 81), args := #[Operand.tmp 17, Operand.tmp 18], argTypes := #[65, 9] }, type := 3, pos := "fact.go:220", after := #[{ on := 6, ground := Ground.data }, { on := 7, ground := Ground.data }], guard := none }, { dst := some 20, op := Op.call { callee := Callee.builtin Builtin.max, args := #[Operand.tmp 16, Operand.tmp 19], argTypes := #[3, 3] }, type := 3, pos := "fact.go:220", after := #[{ on := 5, ground := Ground.data }, { on := 8, ground := Ground.data }], guard := none }, { dst := some 21, op := Op.slice 56 (Operand.tmp 14) (some (Operand.tmp 15)) (some (Operand.tmp 20)) none, type := 56, pos := "fact.go:220", after := #[{ on := 3, ground := Ground.data }, { on := 4, ground := Ground.data }, { on := 9, ground := Ground.data }], guard := none }, { dst := some 22, op := Op.call { callee := Callee.value (Operand.func 83), args := #[Operand.tmp 21], argTypes := #[56] }, type := 75, pos := "fact.go:220", after := #[{ on := 10, ground := Ground.data }, { on := 8, ground := Ground.chain }], guard := none }, { dst := some 6, op := Op.assign (Operand.tmp 22), type := 75, pos := "fact.go:220", after := #[{ on := 11, ground := Ground.data }, { on := 11, ground := Ground.chain }, { on := 0, ground := Ground.phase }, { on := 1, ground := Ground.phase }, { on := 2, ground := Ground.phase }, { on := 3, ground := Ground.phase }, { on := 4, ground := Ground.phase }, { on := 5, ground := Ground.phase }, { on := 6, ground := Ground.phase }, { on := 7, ground := Ground.phase }, { on := 8, ground := Ground.phase }, { on := 9, ground := Ground.phase }, { on := 10, ground := Ground.phase }, { on := 11, ground := Ground.phase }], guard := none }]
theorem regRange2 {u1 u3 u4 u5 u6 u8 u9 u10 u11 u12 u13 u14 u15 u16 u17 u18 u19 u20 u21 u22 : Value} {DD : List Deferred} {Q : Exit → Act → World → Prop} {w : World} {g c fr : Nat} {A : Option Addr} {l : List FM} {hi : ByteArray} (hT : TblAt w.drew g A l c) (hl : l.length ≤ 1048576) (hfr : fr ≤ l.length)
    (hend : ∀ (w2 : World) (x11 x12 x13 x14 x15 x16 x17 x18 x19 x20 x21 x22 : Value) (W : World) (_ : Below w.heap.size w W) (_ : w2 = W.alloc (.cells #[.slice (dropA3 A c fr) (max fr (plF l hi) - fr) (c - fr)] 56)), Q .normal ⟨#[.pointer (some ⟨g, 0, none⟩), u1, .string hi, u3, u4, u5, .func (.func 104) #[] #[.pointer (some ⟨W.heap.size, 0, none⟩)], .int .i64 (fr : Nat), u8, u9, u10, x11, x12, x13, x14, x15, x16, x17, x18, x19, x20, x21, x22], DD⟩ w2) :
    (Code.region 2 opsRange2 true).wp Try.prog Q ⟨#[.pointer (some ⟨g, 0, none⟩), u1, .string hi, u3, u4, u5, u6, .int .i64 (fr : Nat), u8, u9, u10, u11, u12, u13, u14, u15, u16, u17, u18, u19, u20, u21, u22], DD⟩ w := by
  have hT0 := hT
  have hbt : Below w.heap.size w w.drew := (Below.refl _ _).drew
  refine wp_region_noPanic ?_
  refine wp_region_held_drew (S := fun _ => True) (by kernel_rfl) trivial (fun _ => ?_)
  refine wpAnyH_take (i := 0) (oi := (⟨some 11, Op.move (Operand.tmp 0), 65, "fact.go:220", #[], none⟩)) (v := .pointer (some ⟨g, 0, none⟩)) rfl (by kernel_rfl) (by kernel_rfl) (by kernel_rfl) (fun _ _ _ h => h) (Or.inl ⟨by kernel_rfl, fun _ _ => by kernel_rfl⟩) trivial ?_
  simp only [Act.put, List.setIfInBounds_toArray, List.set_cons_zero, List.set_cons_succ]
  refine wpAnyH_take (i := 1) (oi := (⟨some 12, Op.nilCheck (Operand.tmp 11), 0, "fact.go:220", #[{ on := 0, ground := Ground.data }], none⟩)) (v := .pointer (some ⟨g, 0, none⟩)) rfl (by kernel_rfl) (by kernel_rfl) (by kernel_rfl) (fun _ _ _ h => h) (Or.inl ⟨by kernel_rfl, fun _ _ => by kernel_rfl⟩) trivial ?_
  simp only [Act.put, List.setIfInBounds_toArray, List.set_cons_zero, List.set_cons_succ]
  refine wpAnyH_take (i := 2) (oi := (⟨some 13, Op.fieldAddr 129 (Operand.tmp 12) 0, 0, "fact.go:220", #[{ on := 1, ground := Ground.data }], none⟩)) (v := .pointer (some ⟨g, 0, none⟩)) rfl (by kernel_rfl) (by kernel_rfl) (by kernel_rfl) (fun _ _ _ h => h) (Or.inl ⟨by kernel_rfl, fun _ _ => by kernel_rfl⟩) trivial ?_
  simp only [Act.put, List.setIfInBounds_toArray, List.set_cons_zero, List.set_cons_succ]
  refine wpAnyH_take (i := 4) (oi := (⟨some 15, Op.move (Operand.tmp 7), 3, "fact.go:220", #[], none⟩)) (v := .int .i64 (fr : Nat)) rfl (by kernel_rfl) (by kernel_rfl) (by kernel_rfl) (fun _ _ _ h => h) (Or.inl ⟨by kernel_rfl, fun _ _ => by kernel_rfl⟩) trivial ?_
  simp only [Act.put, List.setIfInBounds_toArray, List.set_cons_zero, List.set_cons_succ]
  refine wpAnyH_take (i := 5) (oi := (⟨some 16, Op.move (Operand.tmp 7), 3, "fact.go:220", #[], none⟩)) (v := .int .i64 (fr : Nat)) rfl (by kernel_rfl) (by kernel_rfl) (by kernel_rfl) (fun _ _ _ h => h) (Or.inl ⟨by kernel_rfl, fun _ _ => by kernel_rfl⟩) trivial ?_
  simp only [Act.put, List.setIfInBounds_toArray, List.set_cons_zero, List.set_cons_succ]
  refine wpAnyH_take (i := 6) (oi := (⟨some 17, Op.move (Operand.tmp 0), 65, "fact.go:220", #[], none⟩)) (v := .pointer (some ⟨g, 0, none⟩)) rfl (by kernel_rfl) (by kernel_rfl) (by kernel_rfl) (fun _ _ _ h => h) (Or.inl ⟨by kernel_rfl, fun _ _ => by kernel_rfl⟩) trivial ?_
  simp only [Act.put, List.setIfInBounds_toArray, List.set_cons_zero, List.set_cons_succ]
  refine wpAnyH_take (i := 7) (oi := (⟨some 18, Op.move (Operand.tmp 2), 9, "fact.go:220", #[], none⟩)) (v := .string hi) rfl (by kernel_rfl) (by kernel_rfl) (by kernel_rfl) (fun _ _ _ h => h) (Or.inl ⟨by kernel_rfl, fun _ _ => by kernel_rfl⟩) trivial ?_
  simp only [Act.put, List.setIfInBounds_toArray, List.set_cons_zero, List.set_cons_succ]
  refine wpAnyH_ready (rs := [3, 8]) (by kernel_rfl) (by simp) ?_
  refine AllReadyH.cons (o := (⟨some 14, Op.load 56 (Operand.tmp 13), 56, "fact.go:220", #[{ on := 2, ground := Ground.data }], none⟩)) rfl ?_ (AllReadyH.cons (o := (⟨some 19, Op.call { callee := Callee.value (Operand.func 81), args := #[Operand.tmp 17, Operand.tmp 18], argTypes := #[65, 9] }, 3, "fact.go:220", #[{ on := 6, ground := Ground.data }, { on := 7, ground := Ground.data }], none⟩)) rfl ?_ (AllReadyH.nil))
  · skip
    refine next_op (v := .slice A l.length c) (by kernel_rfl) (run_load1_op (by kernel_rfl) (by kernel_rfl) (hT.blk.cell 0)) trivial (fun _ => ?_)
    simp only [Act.put, List.setIfInBounds_toArray, List.set_cons_zero, List.set_cons_succ]
    refine wpAnyH_ready (rs := [8]) (by kernel_rfl) (by simp) ?_
    refine AllReadyH.cons (o := (⟨some 19, Op.call { callee := Callee.value (Operand.func 81), args := #[Operand.tmp 17, Operand.tmp 18], argTypes := #[65, 9] }, 3, "fact.go:220", #[{ on := 6, ground := Ground.data }, { on := 7, ground := Ground.data }], none⟩)) rfl ?_ (AllReadyH.nil)
    · skip
      refine next_call (f := 81) (args := #[.pointer (some ⟨g, 0, none⟩), .string hi]) (by kernel_rfl) (by kernel_rfl) (place_any g A c l hi w.drew hT hl) ?_
      rintro e wy2 ⟨rfl, hb⟩
      refine ⟨.int .i64 (plF l hi : Nat), rfl, trivial, fun _ => ?_⟩
      simp only [Act.put, List.setIfInBounds_toArray, List.set_cons_zero, List.set_cons_succ]
      have hT : TblAt wy2 g A l c := ⟨hT.blk.below' hb, hT.rd.below hb, hT.cap⟩
      have hbt := hbt.trans (hb.mono hbt.size)
      refine wpAnyH_take (i := 9) (oi := (⟨some 20, Op.call { callee := Callee.builtin Builtin.max, args := #[Operand.tmp 16, Operand.tmp 19], argTypes := #[3, 3] }, 3, "fact.go:220", #[{ on := 5, ground := Ground.data }, { on := 8, ground := Ground.data }], none⟩)) (v := .int .i64 ((max fr (plF l hi) : Nat) : Nat)) rfl (by kernel_rfl) (by kernel_rfl) (by kernel_rfl) (fun _ _ _ h => h) (Or.inl ⟨by kernel_rfl, fun W _ => run_max_nat_op rfl rfl⟩) trivial ?_
      simp only [Act.put, List.setIfInBounds_toArray, List.set_cons_zero, List.set_cons_succ]
      refine wpAnyH_take (i := 10) (oi := (⟨some 21, Op.slice 56 (Operand.tmp 14) (some (Operand.tmp 15)) (some (Operand.tmp 20)) none, 56, "fact.go:220", #[{ on := 3, ground := Ground.data }, { on := 4, ground := Ground.data }, { on := 9, ground := Ground.data }], none⟩)) (v := .slice (dropA3 A c fr) (max fr (plF l hi) - fr) (c - fr)) rfl (by kernel_rfl) (by kernel_rfl) (by kernel_rfl) (fun _ _ _ h => h) (Or.inl ⟨by kernel_rfl, fun W _ => run_slice_lh_op (s := 3) (l := fr) (m := max fr (plF l hi)) Try.underlying56 (by kernel_rfl) rfl rfl rfl (by omega) (by have := hT0.cap; have := plF_le l hi; omega) (sliced3 _ _ _ _)⟩) trivial ?_
      simp only [Act.put, List.setIfInBounds_toArray, List.set_cons_zero, List.set_cons_succ]
      refine wpAnyH_ready (rs := [11]) (by kernel_rfl) (by simp) ?_
      refine AllReadyH.cons (o := (⟨some 22, Op.call { callee := Callee.value (Operand.func 83), args := #[Operand.tmp 21], argTypes := #[56] }, 75, "fact.go:220", #[{ on := 10, ground := Ground.data }, { on := 8, ground := Ground.chain }], none⟩)) rfl ?_ (AllReadyH.nil)
      · skip
        refine next_call (f := 83) (args := #[.slice (dropA3 A c fr) (max fr (plF l hi) - fr) (c - fr)]) (by kernel_rfl) (by kernel_rfl) (over_any _ _ _ wy2) ?_
        rintro e wz3 ⟨rfl, hwz⟩
        refine ⟨.func (.func 104) #[] #[.pointer (some ⟨wy2.heap.size, 0, none⟩)], rfl, trivial, fun _ => ?_⟩
        simp only [Act.put, List.setIfInBounds_toArray, List.set_cons_zero, List.set_cons_succ]
        refine wpAnyH_take (i := 12) (oi := (⟨some 6, Op.assign (Operand.tmp 22), 75, "fact.go:220", #[{ on := 11, ground := Ground.data }, { on := 11, ground := Ground.chain }, { on := 0, ground := Ground.phase }, { on := 1, ground := Ground.phase }, { on := 2, ground := Ground.phase }, { on := 3, ground := Ground.phase }, { on := 4, ground := Ground.phase }, { on := 5, ground := Ground.phase }, { on := 6, ground := Ground.phase }, { on := 7, ground := Ground.phase }, { on := 8, ground := Ground.phase }, { on := 9, ground := Ground.phase }, { on := 10, ground := Ground.phase }, { on := 11, ground := Ground.phase }], none⟩)) (v := .func (.func 104) #[] #[.pointer (some ⟨wy2.heap.size, 0, none⟩)]) rfl (by kernel_rfl) (by kernel_rfl) (by kernel_rfl) (fun _ _ _ h => h) (Or.inl ⟨by kernel_rfl, fun _ _ => by kernel_rfl⟩) trivial ?_
        simp only [Act.put, List.setIfInBounds_toArray, List.set_cons_zero, List.set_cons_succ]
        refine wpAnyH_done (by kernel_rfl) ?_ _
        exact NoPanic.normal (hend wz3 _ _ _ _ _ _ _ _ _ _ _ _ _ hbt hwz)
  · skip
    refine next_call (f := 81) (args := #[.pointer (some ⟨g, 0, none⟩), .string hi]) (by kernel_rfl) (by kernel_rfl) (place_any g A c l hi w.drew hT hl) ?_
    rintro e wy4 ⟨rfl, hb⟩
    refine ⟨.int .i64 (plF l hi : Nat), rfl, trivial, fun _ => ?_⟩
    simp only [Act.put, List.setIfInBounds_toArray, List.set_cons_zero, List.set_cons_succ]
    have hT : TblAt wy4 g A l c := ⟨hT.blk.below' hb, hT.rd.below hb, hT.cap⟩
    have hbt := hbt.trans (hb.mono hbt.size)
    refine wpAnyH_take (i := 9) (oi := (⟨some 20, Op.call { callee := Callee.builtin Builtin.max, args := #[Operand.tmp 16, Operand.tmp 19], argTypes := #[3, 3] }, 3, "fact.go:220", #[{ on := 5, ground := Ground.data }, { on := 8, ground := Ground.data }], none⟩)) (v := .int .i64 ((max fr (plF l hi) : Nat) : Nat)) rfl (by kernel_rfl) (by kernel_rfl) (by kernel_rfl) (fun _ _ _ h => h) (Or.inl ⟨by kernel_rfl, fun W _ => run_max_nat_op rfl rfl⟩) trivial ?_
    simp only [Act.put, List.setIfInBounds_toArray, List.set_cons_zero, List.set_cons_succ]
    refine wpAnyH_ready (rs := [3]) (by kernel_rfl) (by simp) ?_
    refine AllReadyH.cons (o := (⟨some 14, Op.load 56 (Operand.tmp 13), 56, "fact.go:220", #[{ on := 2, ground := Ground.data }], none⟩)) rfl ?_ (AllReadyH.nil)
    · skip
      refine next_op (v := .slice A l.length c) (by kernel_rfl) (run_load1_op (by kernel_rfl) (by kernel_rfl) (hT.blk.cell 0)) trivial (fun _ => ?_)
      simp only [Act.put, List.setIfInBounds_toArray, List.set_cons_zero, List.set_cons_succ]
      refine wpAnyH_take (i := 10) (oi := (⟨some 21, Op.slice 56 (Operand.tmp 14) (some (Operand.tmp 15)) (some (Operand.tmp 20)) none, 56, "fact.go:220", #[{ on := 3, ground := Ground.data }, { on := 4, ground := Ground.data }, { on := 9, ground := Ground.data }], none⟩)) (v := .slice (dropA3 A c fr) (max fr (plF l hi) - fr) (c - fr)) rfl (by kernel_rfl) (by kernel_rfl) (by kernel_rfl) (fun _ _ _ h => h) (Or.inl ⟨by kernel_rfl, fun W _ => run_slice_lh_op (s := 3) (l := fr) (m := max fr (plF l hi)) Try.underlying56 (by kernel_rfl) rfl rfl rfl (by omega) (by have := hT0.cap; have := plF_le l hi; omega) (sliced3 _ _ _ _)⟩) trivial ?_
      simp only [Act.put, List.setIfInBounds_toArray, List.set_cons_zero, List.set_cons_succ]
      refine wpAnyH_ready (rs := [11]) (by kernel_rfl) (by simp) ?_
      refine AllReadyH.cons (o := (⟨some 22, Op.call { callee := Callee.value (Operand.func 83), args := #[Operand.tmp 21], argTypes := #[56] }, 75, "fact.go:220", #[{ on := 10, ground := Ground.data }, { on := 8, ground := Ground.chain }], none⟩)) rfl ?_ (AllReadyH.nil)
      · skip
        refine next_call (f := 83) (args := #[.slice (dropA3 A c fr) (max fr (plF l hi) - fr) (c - fr)]) (by kernel_rfl) (by kernel_rfl) (over_any _ _ _ wy4) ?_
        rintro e wz6 ⟨rfl, hwz⟩
        refine ⟨.func (.func 104) #[] #[.pointer (some ⟨wy4.heap.size, 0, none⟩)], rfl, trivial, fun _ => ?_⟩
        simp only [Act.put, List.setIfInBounds_toArray, List.set_cons_zero, List.set_cons_succ]
        refine wpAnyH_take (i := 12) (oi := (⟨some 6, Op.assign (Operand.tmp 22), 75, "fact.go:220", #[{ on := 11, ground := Ground.data }, { on := 11, ground := Ground.chain }, { on := 0, ground := Ground.phase }, { on := 1, ground := Ground.phase }, { on := 2, ground := Ground.phase }, { on := 3, ground := Ground.phase }, { on := 4, ground := Ground.phase }, { on := 5, ground := Ground.phase }, { on := 6, ground := Ground.phase }, { on := 7, ground := Ground.phase }, { on := 8, ground := Ground.phase }, { on := 9, ground := Ground.phase }, { on := 10, ground := Ground.phase }, { on := 11, ground := Ground.phase }], none⟩)) (v := .func (.func 104) #[] #[.pointer (some ⟨wy4.heap.size, 0, none⟩)]) rfl (by kernel_rfl) (by kernel_rfl) (by kernel_rfl) (fun _ _ _ h => h) (Or.inl ⟨by kernel_rfl, fun _ _ => by kernel_rfl⟩) trivial ?_
        simp only [Act.put, List.setIfInBounds_toArray, List.set_cons_zero, List.set_cons_succ]
        refine wpAnyH_done (by kernel_rfl) ?_ _
        exact NoPanic.normal (hend wz6 _ _ _ _ _ _ _ _ _ _ _ _ _ hbt hwz)
end Go.Proofs.Ytadgaphgomagkaa
