/- Bounds: the statements that draw their order. PRINTED by tools/regs_u.py. -/
import Derived.Test.YtadgaphgomagkaaLv
import Derived.Test.YtadgaphgomagkaaLx
import Derived.Test.YtadgaphgomagkaaWj
import Derived.Test.YtadgaphgomagkaaTf
namespace Go.Proofs.Ytadgaphgomagkaa
open Go.RowKit
set_option maxHeartbeats 8000000
set_option maxRecDepth 100000
theorem run_min_u64_op {P : Program} {ρ : Operand → Value} {d : Option Tmp} {ty : TypeId} {pos : String} {af : Array Edge} {g : Option (Nat × Bool)} {w : World} {t t' : TypeId} {x y : Operand} {a b : Nat} (hx : ρ x = .int .u64 (a : Nat)) (hy : ρ y = .int .u64 (b : Nat)) :
    (execOp ρ ⟨d, .call { callee := .builtin .min, args := #[x, y], argTypes := #[t, t'] }, ty, pos, af, g⟩).run P w = .ok (.value (.int .u64 ((min a b : Nat) : Nat))) w := by
  have h := run_min_int2 (P := P) w #[t, t'] ty .u64 .u64 (a : Int) (b : Int)
  have e : (if (b : Int) < (a : Int) then (b : Int) else (a : Int)) = ((min a b : Nat) : Int) := by split <;> omega
  rw [e] at h
  unfold execOp
  simp only [resolve, invoke, builtin, Sem.run_bind, Sem.run_pure, Result.andThen_ok, List.map_toArray, List.map_cons, List.map_nil, hx, hy, h]
theorem run_max_u64_op {P : Program} {ρ : Operand → Value} {d : Option Tmp} {ty : TypeId} {pos : String} {af : Array Edge} {g : Option (Nat × Bool)} {w : World} {t t' : TypeId} {x y : Operand} {a b : Nat} (hx : ρ x = .int .u64 (a : Nat)) (hy : ρ y = .int .u64 (b : Nat)) :
    (execOp ρ ⟨d, .call { callee := .builtin .max, args := #[x, y], argTypes := #[t, t'] }, ty, pos, af, g⟩).run P w = .ok (.value (.int .u64 ((max a b : Nat) : Nat))) w := by
  have h := run_max_int2 (P := P) w #[t, t'] ty .u64 .u64 (a : Int) (b : Int)
  have e : (if (b : Int) > (a : Int) then (b : Int) else (a : Int)) = ((max a b : Nat) : Int) := by split <;> omega
  rw [e] at h
  unfold execOp
  simp only [resolve, invoke, builtin, Sem.run_bind, Sem.run_pure, Result.andThen_ok, List.map_toArray, List.map_cons, List.map_nil, hx, hy, h]
theorem run_storeI_op {P : Program} {ρ : Operand → Value} {d : Option Tmp} {ty : TypeId} {pos : String} {af : Array Edge} {g : Option (Nat × Bool)} {w : World} {t : TypeId} {x y : Operand} {ad : Addr} {k : IntKind} {n : Int} {u : Value} (hz : (sizeOf t).run P w = .ok 1 w) (hx : ρ x = .pointer (some ad)) (hy : ρ y = .int k n) (hc : w.cell? ad = some u) (hf : w.frozen? ad = false) :
    (execOp ρ ⟨d, .store t x y, ty, pos, af, g⟩).run P w = .ok .skip (w.setCell ad (.int k n)) := by
  simp [execOp, hx, hy, Instr.storeAt, Instr.sureAddr, storeVar, hz, hc, hf, go_sem]
theorem Blk.other {w : World} {g k i : Nat} {t : TypeId} {cs : Array Value} (h : Blk w g t cs) (hn : g ≠ k) (u : Value) : Blk (w.setCell ⟨k, i, none⟩ u) g t cs := (Below.heap_setCell w ⟨k, i, none⟩ u g hn).trans h
def opsBo6 : Array Oper := #[{ dst := some 24, op := Op.load 69 (Operand.tmp 4), type := 69, pos := "fact.go:232", after := #[], guard := none }, { dst := some 25, op := Op.fieldAddr 71 (Operand.tmp 7) 1, type := 0, pos := "fact.go:232", after := #[], guard := none }, { dst := some 26, op := Op.load 69 (Operand.tmp 25), type := 69, pos := "fact.go:232", after := #[{ on := 1, ground := Ground.data }], guard := none }, { dst := some 27, op := Op.call { callee := Callee.builtin Builtin.min, args := #[Operand.tmp 24, Operand.tmp 26], argTypes := #[69, 69] }, type := 69, pos := "fact.go:232", after := #[{ on := 0, ground := Ground.data }, { on := 2, ground := Ground.data }], guard := none }, { dst := some 28, op := Op.load 69 (Operand.tmp 5), type := 69, pos := "fact.go:232", after := #[], guard := none }, { dst := some 29, op := Op.fieldAddr 71 (Operand.tmp 7) 1, type := 0, pos := "fact.go:232", after := #[], guard := none }, { dst := some 30, op := Op.load 69 (Operand.tmp 29), type := 69, pos := "fact.go:232", after := #[{ on := 5, ground := Ground.data }], guard := none }, { dst := some 31, op := Op.call { callee := Callee.builtin Builtin.max, args := #[Operand.tmp 28, Operand.tmp 30], argTypes := #[69, 69] }, type := 69, pos := "fact.go:232", after := #[{ on := 4, ground := Ground.data }, { on := 6, ground := Ground.data }], guard := none }, { dst := none, op := Op.store 69 (Operand.tmp 4) (Operand.tmp 27), type := 0, pos := "fact.go:232", after := #[{ on := 3, ground := Ground.data }, { on := 0, ground := Ground.phase }, { on := 1, ground := Ground.phase }, { on := 2, ground := Ground.phase }, { on := 3, ground := Ground.phase }, { on := 4, ground := Ground.textOnly Departure.inlinedCapture }, { on := 5, ground := Ground.textOnly Departure.lateStores }, { on := 6, ground := Ground.textOnly Departure.lateStores }, { on := 7, ground := Ground.textOnly Departure.lateStoresUnsure }], guard := none }, { dst := none, op := Op.store 69 (Operand.tmp 5) (Operand.tmp 31), type := 0, pos := "fact.go:232", after := #[{ on := 7, ground := Ground.data }, { on := 8, ground := Ground.chain }, { on := 0, ground := Ground.phase }, { on := 1, ground := Ground.phase }, { on := 2, ground := Ground.phase }, { on := 3, ground := Ground.phase }, { on := 4, ground := Ground.phase }, { on := 5, ground := Ground.phase }, { on := 6, ground := Ground.phase }, { on := 7, ground := Ground.phase }, { on := 8, ground := Ground.phase }], guard := none }]
theorem regBo6 {u0 u1 u2 u3 u6 u8 u9 u10 u11 u12 u13 u14 u15 u16 u17 u18 u19 u20 u21 u22 u23 u24 u25 u26 u27 u28 u29 u30 u31 u32 u33 u34 u35 u36 u37 u38 u39 u40 u41 u42 u43 u44 u45 u46 u47 u48 u49 u50 u51 u52 u53 : Value} {DD : List Deferred} {lr : Nat} {Q : Exit → Act → World → Prop} {w : World} {ga gb gx lo hi : Nat} {x : FM} (hX : Blk w.drew gx 71 x.cells.toArray) (hA : Blk w.drew ga 69 #[.int .u64 (lo : Nat)]) (hB : Blk w.drew gb 69 #[.int .u64 (hi : Nat)]) (hab : ga ≠ gb) (hxa : gx ≠ ga) (hxb : gx ≠ gb)
    (hend : ∀ (w2 : World) (x24 x25 x26 x27 x28 x29 x30 x31 : Value) (_ : w2 = (w.drew.setCell ⟨ga, 0, none⟩ (.int .u64 ((min lo x.s : Nat) : Nat))).setCell ⟨gb, 0, none⟩ (.int .u64 ((max hi x.s : Nat) : Nat))), Q .normal ⟨#[u0, u1, u2, u3, .pointer (some ⟨ga, 0, none⟩), .pointer (some ⟨gb, 0, none⟩), u6, .pointer (some ⟨gx, 0, none⟩), u8, u9, u10, u11, u12, u13, u14, u15, u16, u17, u18, u19, u20, u21, u22, u23, x24, x25, x26, x27, x28, x29, x30, x31, u32, u33, u34, u35, u36, u37, u38, u39, u40, u41, u42, u43, u44, u45, u46, u47, u48, u49, u50, u51, u52, u53], DD⟩ w2) :
    (Code.region 6 opsBo6 true).wpIn (Fence.wide.inRound lr) 0 Try.prog Q ⟨#[u0, u1, u2, u3, .pointer (some ⟨ga, 0, none⟩), .pointer (some ⟨gb, 0, none⟩), u6, .pointer (some ⟨gx, 0, none⟩), u8, u9, u10, u11, u12, u13, u14, u15, u16, u17, u18, u19, u20, u21, u22, u23, u24, u25, u26, u27, u28, u29, u30, u31, u32, u33, u34, u35, u36, u37, u38, u39, u40, u41, u42, u43, u44, u45, u46, u47, u48, u49, u50, u51, u52, u53], DD⟩ w := by
  refine wpIn_region_held_round (S := fun W => Blk W gx 71 x.cells.toArray) (by kernel_rfl) (by kernel_rfl) hX (fun hS => ?_)
  refine wpAnyH_take (i := 1) (oi := (⟨some 25, Op.fieldAddr 71 (Operand.tmp 7) 1, 0, "fact.go:232", #[], none⟩)) (v := .pointer (some ⟨gx, 1, none⟩)) rfl (by kernel_rfl) (by kernel_rfl) (by kernel_rfl) (fun _ _ _ h => h) (Or.inl ⟨by kernel_rfl, fun _ _ => by kernel_rfl⟩) hS ?_
  simp only [Act.put, List.setIfInBounds_toArray, List.set_cons_zero, List.set_cons_succ]
  refine wpAnyH_take (i := 2) (oi := (⟨some 26, Op.load 69 (Operand.tmp 25), 69, "fact.go:232", #[{ on := 1, ground := Ground.data }], none⟩)) (v := .int .u64 (x.s : Nat)) rfl (by kernel_rfl) (by kernel_rfl) (by kernel_rfl) (fun _ _ _ h => h) (Or.inl ⟨by kernel_rfl, fun W hW => run_load1_op (by kernel_rfl) (by kernel_rfl) (hW.cell 1)⟩) hS ?_
  simp only [Act.put, List.setIfInBounds_toArray, List.set_cons_zero, List.set_cons_succ]
  refine wpAnyH_take (i := 5) (oi := (⟨some 29, Op.fieldAddr 71 (Operand.tmp 7) 1, 0, "fact.go:232", #[], none⟩)) (v := .pointer (some ⟨gx, 1, none⟩)) rfl (by kernel_rfl) (by kernel_rfl) (by kernel_rfl) (fun _ _ _ h => h) (Or.inl ⟨by kernel_rfl, fun _ _ => by kernel_rfl⟩) hS ?_
  simp only [Act.put, List.setIfInBounds_toArray, List.set_cons_zero, List.set_cons_succ]
  refine wpAnyH_take (i := 6) (oi := (⟨some 30, Op.load 69 (Operand.tmp 29), 69, "fact.go:232", #[{ on := 5, ground := Ground.data }], none⟩)) (v := .int .u64 (x.s : Nat)) rfl (by kernel_rfl) (by kernel_rfl) (by kernel_rfl) (fun _ _ _ h => h) (Or.inl ⟨by kernel_rfl, fun W hW => run_load1_op (by kernel_rfl) (by kernel_rfl) (hW.cell 1)⟩) hS ?_
  simp only [Act.put, List.setIfInBounds_toArray, List.set_cons_zero, List.set_cons_succ]
  refine wpAnyH_ready (rs := [0, 4]) (by kernel_rfl) (by simp) ?_
  refine AllReadyH.cons (o := (⟨some 24, Op.load 69 (Operand.tmp 4), 69, "fact.go:232", #[], none⟩)) rfl ?_ (AllReadyH.cons (o := (⟨some 28, Op.load 69 (Operand.tmp 5), 69, "fact.go:232", #[], none⟩)) rfl ?_ (AllReadyH.nil))
  · skip
    refine next_op (v := .int .u64 (lo : Nat)) (by kernel_rfl) (run_load1_op (by kernel_rfl) (by kernel_rfl) (hA.cell 0)) hS (fun hS => ?_)
    simp only [Act.put, List.setIfInBounds_toArray, List.set_cons_zero, List.set_cons_succ]
    refine wpAnyH_take (i := 3) (oi := (⟨some 27, Op.call { callee := Callee.builtin Builtin.min, args := #[Operand.tmp 24, Operand.tmp 26], argTypes := #[69, 69] }, 69, "fact.go:232", #[{ on := 0, ground := Ground.data }, { on := 2, ground := Ground.data }], none⟩)) (v := .int .u64 ((min lo x.s : Nat) : Nat)) rfl (by kernel_rfl) (by kernel_rfl) (by kernel_rfl) (fun _ _ _ h => h) (Or.inl ⟨by kernel_rfl, fun W _ => run_min_u64_op rfl rfl⟩) hS ?_
    simp only [Act.put, List.setIfInBounds_toArray, List.set_cons_zero, List.set_cons_succ]
    refine wpAnyH_ready (rs := [4, 8]) (by kernel_rfl) (by simp) ?_
    refine AllReadyH.cons (o := (⟨some 28, Op.load 69 (Operand.tmp 5), 69, "fact.go:232", #[], none⟩)) rfl ?_ (AllReadyH.cons (o := (⟨none, Op.store 69 (Operand.tmp 4) (Operand.tmp 27), 0, "fact.go:232", #[{ on := 3, ground := Ground.data }, { on := 0, ground := Ground.phase }, { on := 1, ground := Ground.phase }, { on := 2, ground := Ground.phase }, { on := 3, ground := Ground.phase }, { on := 4, ground := Ground.textOnly Departure.inlinedCapture }, { on := 5, ground := Ground.textOnly Departure.lateStores }, { on := 6, ground := Ground.textOnly Departure.lateStores }, { on := 7, ground := Ground.textOnly Departure.lateStoresUnsure }], none⟩)) rfl ?_ (AllReadyH.nil))
    · skip
      refine next_op (v := .int .u64 (hi : Nat)) (by kernel_rfl) (run_load1_op (by kernel_rfl) (by kernel_rfl) (hB.cell 0)) hS (fun hS => ?_)
      simp only [Act.put, List.setIfInBounds_toArray, List.set_cons_zero, List.set_cons_succ]
      refine wpAnyH_take (i := 7) (oi := (⟨some 31, Op.call { callee := Callee.builtin Builtin.max, args := #[Operand.tmp 28, Operand.tmp 30], argTypes := #[69, 69] }, 69, "fact.go:232", #[{ on := 4, ground := Ground.data }, { on := 6, ground := Ground.data }], none⟩)) (v := .int .u64 ((max hi x.s : Nat) : Nat)) rfl (by kernel_rfl) (by kernel_rfl) (by kernel_rfl) (fun _ _ _ h => h) (Or.inl ⟨by kernel_rfl, fun W _ => run_max_u64_op rfl rfl⟩) hS ?_
      simp only [Act.put, List.setIfInBounds_toArray, List.set_cons_zero, List.set_cons_succ]
      refine wpAnyH_ready (rs := [8]) (by kernel_rfl) (by simp) ?_
      refine AllReadyH.cons (o := (⟨none, Op.store 69 (Operand.tmp 4) (Operand.tmp 27), 0, "fact.go:232", #[{ on := 3, ground := Ground.data }, { on := 0, ground := Ground.phase }, { on := 1, ground := Ground.phase }, { on := 2, ground := Ground.phase }, { on := 3, ground := Ground.phase }, { on := 4, ground := Ground.textOnly Departure.inlinedCapture }, { on := 5, ground := Ground.textOnly Departure.lateStores }, { on := 6, ground := Ground.textOnly Departure.lateStores }, { on := 7, ground := Ground.textOnly Departure.lateStoresUnsure }], none⟩)) rfl ?_ (AllReadyH.nil)
      · skip
        refine next_skip (by kernel_rfl) (run_storeI_op (by kernel_rfl) rfl rfl (hA.cell 0) (hA.frozen 0)) (hS.other hxa _) (fun hS => ?_)
        simp only [Act.put, List.setIfInBounds_toArray, List.set_cons_zero, List.set_cons_succ]
        have hB := hB.other (i := 0) hab.symm (.int .u64 ((min lo x.s : Nat) : Nat))
        refine wpAnyH_ready (rs := [9]) (by kernel_rfl) (by simp) ?_
        refine AllReadyH.cons (o := (⟨none, Op.store 69 (Operand.tmp 5) (Operand.tmp 31), 0, "fact.go:232", #[{ on := 7, ground := Ground.data }, { on := 8, ground := Ground.chain }, { on := 0, ground := Ground.phase }, { on := 1, ground := Ground.phase }, { on := 2, ground := Ground.phase }, { on := 3, ground := Ground.phase }, { on := 4, ground := Ground.phase }, { on := 5, ground := Ground.phase }, { on := 6, ground := Ground.phase }, { on := 7, ground := Ground.phase }, { on := 8, ground := Ground.phase }], none⟩)) rfl ?_ (AllReadyH.nil)
        · skip
          refine next_skip (by kernel_rfl) (run_storeI_op (by kernel_rfl) rfl rfl (hB.cell 0) (hB.frozen 0)) (hS.other hxb _) (fun hS => ?_)
          simp only [Act.put, List.setIfInBounds_toArray, List.set_cons_zero, List.set_cons_succ]
          refine wpAnyH_done (by kernel_rfl) ?_ _
          exact OnlyN.normal (hend ((((w.drew).setCell ⟨ga, 0, none⟩ (.int .u64 ((min lo x.s : Nat) : Nat)))).setCell ⟨gb, 0, none⟩ (.int .u64 ((max hi x.s : Nat) : Nat))) _ _ _ _ _ _ _ _ rfl)
    · skip
      refine next_skip (by kernel_rfl) (run_storeI_op (by kernel_rfl) rfl rfl (hA.cell 0) (hA.frozen 0)) (hS.other hxa _) (fun hS => ?_)
      simp only [Act.put, List.setIfInBounds_toArray, List.set_cons_zero, List.set_cons_succ]
      have hB := hB.other (i := 0) hab.symm (.int .u64 ((min lo x.s : Nat) : Nat))
      refine wpAnyH_ready (rs := [4]) (by kernel_rfl) (by simp) ?_
      refine AllReadyH.cons (o := (⟨some 28, Op.load 69 (Operand.tmp 5), 69, "fact.go:232", #[], none⟩)) rfl ?_ (AllReadyH.nil)
      · skip
        refine next_op (v := .int .u64 (hi : Nat)) (by kernel_rfl) (run_load1_op (by kernel_rfl) (by kernel_rfl) (hB.cell 0)) hS (fun hS => ?_)
        simp only [Act.put, List.setIfInBounds_toArray, List.set_cons_zero, List.set_cons_succ]
        refine wpAnyH_take (i := 7) (oi := (⟨some 31, Op.call { callee := Callee.builtin Builtin.max, args := #[Operand.tmp 28, Operand.tmp 30], argTypes := #[69, 69] }, 69, "fact.go:232", #[{ on := 4, ground := Ground.data }, { on := 6, ground := Ground.data }], none⟩)) (v := .int .u64 ((max hi x.s : Nat) : Nat)) rfl (by kernel_rfl) (by kernel_rfl) (by kernel_rfl) (fun _ _ _ h => h) (Or.inl ⟨by kernel_rfl, fun W _ => run_max_u64_op rfl rfl⟩) hS ?_
        simp only [Act.put, List.setIfInBounds_toArray, List.set_cons_zero, List.set_cons_succ]
        refine wpAnyH_ready (rs := [9]) (by kernel_rfl) (by simp) ?_
        refine AllReadyH.cons (o := (⟨none, Op.store 69 (Operand.tmp 5) (Operand.tmp 31), 0, "fact.go:232", #[{ on := 7, ground := Ground.data }, { on := 8, ground := Ground.chain }, { on := 0, ground := Ground.phase }, { on := 1, ground := Ground.phase }, { on := 2, ground := Ground.phase }, { on := 3, ground := Ground.phase }, { on := 4, ground := Ground.phase }, { on := 5, ground := Ground.phase }, { on := 6, ground := Ground.phase }, { on := 7, ground := Ground.phase }, { on := 8, ground := Ground.phase }], none⟩)) rfl ?_ (AllReadyH.nil)
        · skip
          refine next_skip (by kernel_rfl) (run_storeI_op (by kernel_rfl) rfl rfl (hB.cell 0) (hB.frozen 0)) (hS.other hxb _) (fun hS => ?_)
          simp only [Act.put, List.setIfInBounds_toArray, List.set_cons_zero, List.set_cons_succ]
          refine wpAnyH_done (by kernel_rfl) ?_ _
          exact OnlyN.normal (hend ((((w.drew).setCell ⟨ga, 0, none⟩ (.int .u64 ((min lo x.s : Nat) : Nat)))).setCell ⟨gb, 0, none⟩ (.int .u64 ((max hi x.s : Nat) : Nat))) _ _ _ _ _ _ _ _ rfl)
  · skip
    refine next_op (v := .int .u64 (hi : Nat)) (by kernel_rfl) (run_load1_op (by kernel_rfl) (by kernel_rfl) (hB.cell 0)) hS (fun hS => ?_)
    simp only [Act.put, List.setIfInBounds_toArray, List.set_cons_zero, List.set_cons_succ]
    refine wpAnyH_take (i := 7) (oi := (⟨some 31, Op.call { callee := Callee.builtin Builtin.max, args := #[Operand.tmp 28, Operand.tmp 30], argTypes := #[69, 69] }, 69, "fact.go:232", #[{ on := 4, ground := Ground.data }, { on := 6, ground := Ground.data }], none⟩)) (v := .int .u64 ((max hi x.s : Nat) : Nat)) rfl (by kernel_rfl) (by kernel_rfl) (by kernel_rfl) (fun _ _ _ h => h) (Or.inl ⟨by kernel_rfl, fun W _ => run_max_u64_op rfl rfl⟩) hS ?_
    simp only [Act.put, List.setIfInBounds_toArray, List.set_cons_zero, List.set_cons_succ]
    refine wpAnyH_ready (rs := [0]) (by kernel_rfl) (by simp) ?_
    refine AllReadyH.cons (o := (⟨some 24, Op.load 69 (Operand.tmp 4), 69, "fact.go:232", #[], none⟩)) rfl ?_ (AllReadyH.nil)
    · skip
      refine next_op (v := .int .u64 (lo : Nat)) (by kernel_rfl) (run_load1_op (by kernel_rfl) (by kernel_rfl) (hA.cell 0)) hS (fun hS => ?_)
      simp only [Act.put, List.setIfInBounds_toArray, List.set_cons_zero, List.set_cons_succ]
      refine wpAnyH_take (i := 3) (oi := (⟨some 27, Op.call { callee := Callee.builtin Builtin.min, args := #[Operand.tmp 24, Operand.tmp 26], argTypes := #[69, 69] }, 69, "fact.go:232", #[{ on := 0, ground := Ground.data }, { on := 2, ground := Ground.data }], none⟩)) (v := .int .u64 ((min lo x.s : Nat) : Nat)) rfl (by kernel_rfl) (by kernel_rfl) (by kernel_rfl) (fun _ _ _ h => h) (Or.inl ⟨by kernel_rfl, fun W _ => run_min_u64_op rfl rfl⟩) hS ?_
      simp only [Act.put, List.setIfInBounds_toArray, List.set_cons_zero, List.set_cons_succ]
      refine wpAnyH_ready (rs := [8]) (by kernel_rfl) (by simp) ?_
      refine AllReadyH.cons (o := (⟨none, Op.store 69 (Operand.tmp 4) (Operand.tmp 27), 0, "fact.go:232", #[{ on := 3, ground := Ground.data }, { on := 0, ground := Ground.phase }, { on := 1, ground := Ground.phase }, { on := 2, ground := Ground.phase }, { on := 3, ground := Ground.phase }, { on := 4, ground := Ground.textOnly Departure.inlinedCapture }, { on := 5, ground := Ground.textOnly Departure.lateStores }, { on := 6, ground := Ground.textOnly Departure.lateStores }, { on := 7, ground := Ground.textOnly Departure.lateStoresUnsure }], none⟩)) rfl ?_ (AllReadyH.nil)
      · skip
        refine next_skip (by kernel_rfl) (run_storeI_op (by kernel_rfl) rfl rfl (hA.cell 0) (hA.frozen 0)) (hS.other hxa _) (fun hS => ?_)
        simp only [Act.put, List.setIfInBounds_toArray, List.set_cons_zero, List.set_cons_succ]
        have hB := hB.other (i := 0) hab.symm (.int .u64 ((min lo x.s : Nat) : Nat))
        refine wpAnyH_ready (rs := [9]) (by kernel_rfl) (by simp) ?_
        refine AllReadyH.cons (o := (⟨none, Op.store 69 (Operand.tmp 5) (Operand.tmp 31), 0, "fact.go:232", #[{ on := 7, ground := Ground.data }, { on := 8, ground := Ground.chain }, { on := 0, ground := Ground.phase }, { on := 1, ground := Ground.phase }, { on := 2, ground := Ground.phase }, { on := 3, ground := Ground.phase }, { on := 4, ground := Ground.phase }, { on := 5, ground := Ground.phase }, { on := 6, ground := Ground.phase }, { on := 7, ground := Ground.phase }, { on := 8, ground := Ground.phase }], none⟩)) rfl ?_ (AllReadyH.nil)
        · skip
          refine next_skip (by kernel_rfl) (run_storeI_op (by kernel_rfl) rfl rfl (hB.cell 0) (hB.frozen 0)) (hS.other hxb _) (fun hS => ?_)
          simp only [Act.put, List.setIfInBounds_toArray, List.set_cons_zero, List.set_cons_succ]
          refine wpAnyH_done (by kernel_rfl) ?_ _
          exact OnlyN.normal (hend ((((w.drew).setCell ⟨ga, 0, none⟩ (.int .u64 ((min lo x.s : Nat) : Nat)))).setCell ⟨gb, 0, none⟩ (.int .u64 ((max hi x.s : Nat) : Nat))) _ _ _ _ _ _ _ _ rfl)
def opsBo7 : Array Oper := #[{ dst := some 32, op := Op.move (Operand.tmp 0), type := 65, pos := "fact.go:234", after := #[], guard := none }, { dst := some 33, op := Op.nilCheck (Operand.tmp 32), type := 0, pos := "fact.go:234", after := #[{ on := 0, ground := Ground.data }], guard := none }, { dst := some 34, op := Op.fieldAddr 129 (Operand.tmp 33) 0, type := 0, pos := "fact.go:234", after := #[{ on := 1, ground := Ground.data }], guard := none }, { dst := some 35, op := Op.load 56 (Operand.tmp 34), type := 56, pos := "fact.go:234", after := #[{ on := 2, ground := Ground.data }], guard := none }, { dst := some 36, op := Op.indexAddr 56 (Operand.tmp 35) (Operand.const (Value.int IntKind.i64 0)), type := 0, pos := "fact.go:234", after := #[{ on := 3, ground := Ground.data }], guard := none }, { dst := some 37, op := Op.fieldAddr 71 (Operand.tmp 36) 0, type := 0, pos := "fact.go:234", after := #[{ on := 4, ground := Ground.data }], guard := none }, { dst := some 38, op := Op.load 9 (Operand.tmp 37), type := 9, pos := "fact.go:234", after := #[{ on := 5, ground := Ground.data }], guard := none }, { dst := some 39, op := Op.move (Operand.tmp 0), type := 65, pos := "fact.go:234", after := #[{ on := 22, ground := Ground.gcOnly Departure.lateStores }], guard := none }, { dst := some 40, op := Op.nilCheck (Operand.tmp 39), type := 0, pos := "fact.go:234", after := #[{ on := 7, ground := Ground.data }, { on := 22, ground := Ground.gcOnly Departure.lateStores }], guard := none }, { dst := some 41, op := Op.fieldAddr 129 (Operand.tmp 40) 0, type := 0, pos := "fact.go:234", after := #[{ on := 8, ground := Ground.data }, { on := 22, ground := Ground.gcOnly Departure.lateStores }], guard := none }, { dst := some 42, op := Op.load 56 (Operand.tmp 41), type := 56, pos := "fact.go:234", after := #[{ on := 9, ground := Ground.data }, { on := 22, ground := Ground.gcOnly Departure.lateStores }], guard := none }, { dst := some 43, op := Op.move (Operand.tmp 0), type := 65, pos := "fact.go:234", after := #[], guard := none }, { dst := some 44, op := Op.nilCheck (Operand.tmp 43), type := 0, pos := "fact.go:234", after := #[{ on := 11, ground := Ground.data }], guard := none }, { dst := some 45, op := Op.fieldAddr 129 (Operand.tmp 44) 0, type := 0, pos := "fact.go:234", after := #[{ on := 12, ground := Ground.data }], guard := none }, { dst := some 46, op := Op.load 56 (Operand.tmp 45), type := 56, pos := "fact.go:234", after := #[{ on := 13, ground := Ground.data }], guard := none }, { dst := some 47, op := Op.call { callee := Callee.builtin Builtin.len, args := #[Operand.tmp 46], argTypes := #[56] }, type := 3, pos := "fact.go:234", after := #[{ on := 14, ground := Ground.data }], guard := none }, { dst := some 48, op := Op.binOp BinOp.sub 3 (Operand.tmp 47) (Operand.const (Value.int IntKind.i64 1)) 3, type := 3, pos := "fact.go:234", after := #[{ on := 15, ground := Ground.data }, { on := 22, ground := Ground.gcOnly Departure.lateStores }], guard := none }, { dst := some 49, op := Op.indexAddr 56 (Operand.tmp 42) (Operand.tmp 48), type := 0, pos := "fact.go:234", after := #[{ on := 10, ground := Ground.data }, { on := 16, ground := Ground.data }, { on := 22, ground := Ground.gcOnly Departure.lateStores }], guard := none }, { dst := some 50, op := Op.fieldAddr 71 (Operand.tmp 49) 0, type := 0, pos := "fact.go:234", after := #[{ on := 17, ground := Ground.data }, { on := 22, ground := Ground.gcOnly Departure.lateStores }], guard := none }, { dst := some 51, op := Op.load 9 (Operand.tmp 50), type := 9, pos := "fact.go:234", after := #[{ on := 18, ground := Ground.data }, { on := 22, ground := Ground.gcOnly Departure.lateStores }], guard := none }, { dst := some 52, op := Op.load 69 (Operand.tmp 4), type := 69, pos := "fact.go:234", after := #[{ on := 23, ground := Ground.gcOnly Departure.lateStores }], guard := none }, { dst := some 53, op := Op.load 69 (Operand.tmp 5), type := 69, pos := "fact.go:234", after := #[], guard := none }, { dst := some 2, op := Op.assign (Operand.tmp 38), type := 9, pos := "fact.go:234", after := #[{ on := 6, ground := Ground.data }, { on := 0, ground := Ground.phase }, { on := 1, ground := Ground.phase }, { on := 2, ground := Ground.phase }, { on := 3, ground := Ground.phase }, { on := 4, ground := Ground.phase }, { on := 5, ground := Ground.phase }, { on := 6, ground := Ground.phase }, { on := 7, ground := Ground.textOnly Departure.lateStores }, { on := 8, ground := Ground.textOnly Departure.lateStores }, { on := 9, ground := Ground.textOnly Departure.lateStores }, { on := 10, ground := Ground.textOnly Departure.lateStores }, { on := 11, ground := Ground.textOnly Departure.lateStores }, { on := 12, ground := Ground.textOnly Departure.lateStores }, { on := 13, ground := Ground.textOnly Departure.lateStores }, { on := 14, ground := Ground.textOnly Departure.lateStores }, { on := 15, ground := Ground.textOnly Departure.lateStoresUnsure }, { on := 16, ground := Ground.textOnly Departure.lateStores }, { on := 17, ground := Ground.textOnly Departure.lateStores }, { on := 18, ground := Ground.textOnly Departure.lateStores }, { on := 19, ground := Ground.textOnly Departure.lateStores }, { on := 20, ground := Ground.textOnly Departure.lateStores }, { on := 21, ground := Ground.textOnly Departure.inlinedCapture }], guard := none }, { dst := some 3, op := Op.assign (Operand.tmp 51), type := 9, pos := "fact.go:234", after := #[{ on := 19, ground := Ground.data }, { on := 22, ground := Ground.chain }, { on := 0, ground := Ground.phase }, { on := 1, ground := Ground.phase }, { on := 2, ground := Ground.phase }, { on := 3, ground := Ground.phase }, { on := 4, ground := Ground.phase }, { on := 5, ground := Ground.phase }, { on := 6, ground := Ground.phase }, { on := 7, ground := Ground.phase }, { on := 8, ground := Ground.phase }, { on := 9, ground := Ground.phase }, { on := 10, ground := Ground.phase }, { on := 11, ground := Ground.phase }, { on := 12, ground := Ground.phase }, { on := 13, ground := Ground.phase }, { on := 14, ground := Ground.phase }, { on := 15, ground := Ground.phase }, { on := 16, ground := Ground.phase }, { on := 17, ground := Ground.phase }, { on := 18, ground := Ground.phase }, { on := 19, ground := Ground.phase }, { on := 20, ground := Ground.textOnly Departure.lateStores }, { on := 21, ground := Ground.textOnly Departure.inlinedCapture }, { on := 22, ground := Ground.phase }], guard := none }, { dst := none, op := Op.store 69 (Operand.tmp 4) (Operand.tmp 52), type := 0, pos := "fact.go:234", after := #[{ on := 20, ground := Ground.data }, { on := 23, ground := Ground.chain }, { on := 0, ground := Ground.phase }, { on := 1, ground := Ground.phase }, { on := 2, ground := Ground.phase }, { on := 3, ground := Ground.phase }, { on := 4, ground := Ground.phase }, { on := 5, ground := Ground.phase }, { on := 6, ground := Ground.phase }, { on := 7, ground := Ground.phase }, { on := 8, ground := Ground.phase }, { on := 9, ground := Ground.phase }, { on := 10, ground := Ground.phase }, { on := 11, ground := Ground.phase }, { on := 12, ground := Ground.phase }, { on := 13, ground := Ground.phase }, { on := 14, ground := Ground.phase }, { on := 15, ground := Ground.phase }, { on := 16, ground := Ground.phase }, { on := 17, ground := Ground.phase }, { on := 18, ground := Ground.phase }, { on := 19, ground := Ground.phase }, { on := 20, ground := Ground.phase }, { on := 21, ground := Ground.textOnly Departure.inlinedCapture }, { on := 22, ground := Ground.phase }, { on := 23, ground := Ground.phase }], guard := none }, { dst := none, op := Op.store 69 (Operand.tmp 5) (Operand.tmp 53), type := 0, pos := "fact.go:234", after := #[{ on := 21, ground := Ground.data }, { on := 24, ground := Ground.chain }, { on := 0, ground := Ground.phase }, { on := 1, ground := Ground.phase }, { on := 2, ground := Ground.phase }, { on := 3, ground := Ground.phase }, { on := 4, ground := Ground.phase }, { on := 5, ground := Ground.phase }, { on := 6, ground := Ground.phase }, { on := 7, ground := Ground.phase }, { on := 8, ground := Ground.phase }, { on := 9, ground := Ground.phase }, { on := 10, ground := Ground.phase }, { on := 11, ground := Ground.phase }, { on := 12, ground := Ground.phase }, { on := 13, ground := Ground.phase }, { on := 14, ground := Ground.phase }, { on := 15, ground := Ground.phase }, { on := 16, ground := Ground.phase }, { on := 17, ground := Ground.phase }, { on := 18, ground := Ground.phase }, { on := 19, ground := Ground.phase }, { on := 20, ground := Ground.phase }, { on := 21, ground := Ground.phase }, { on := 22, ground := Ground.phase }, { on := 23, ground := Ground.phase }, { on := 24, ground := Ground.phase }], guard := none }, { dst := some 6, op := Op.assign (Operand.const (Value.bool true)), type := 4, pos := "fact.go:234", after := #[{ on := 25, ground := Ground.chain }, { on := 0, ground := Ground.phase }, { on := 1, ground := Ground.phase }, { on := 2, ground := Ground.phase }, { on := 3, ground := Ground.phase }, { on := 4, ground := Ground.phase }, { on := 5, ground := Ground.phase }, { on := 6, ground := Ground.phase }, { on := 7, ground := Ground.phase }, { on := 8, ground := Ground.phase }, { on := 9, ground := Ground.phase }, { on := 10, ground := Ground.phase }, { on := 11, ground := Ground.phase }, { on := 12, ground := Ground.phase }, { on := 13, ground := Ground.phase }, { on := 14, ground := Ground.phase }, { on := 15, ground := Ground.phase }, { on := 16, ground := Ground.phase }, { on := 17, ground := Ground.phase }, { on := 18, ground := Ground.phase }, { on := 19, ground := Ground.phase }, { on := 20, ground := Ground.phase }, { on := 21, ground := Ground.phase }, { on := 22, ground := Ground.phase }, { on := 23, ground := Ground.phase }, { on := 24, ground := Ground.phase }, { on := 25, ground := Ground.phase }], guard := none }]
structure BndS (g ga gb : Nat) (A : Option Addr) (l : List FM) (c lo hi : Nat) (W : World) : Prop where
  tbl : TblAt W g A l c
  ba : Blk W ga 69 #[.int .u64 (lo : Nat)]
  bb : Blk W gb 69 #[.int .u64 (hi : Nat)]
theorem BndS.seta {g ga gb c lo hi : Nat} {A : Option Addr} {l : List FM} {W : World} (h : BndS g ga gb A l c lo hi W) (hga : g ≠ ga) (hab : ga ≠ gb) (hA : ∀ ad, A = some ad → ad.block ≠ ga) : BndS g ga gb A l c lo hi (W.setCell ⟨ga, 0, none⟩ (.int .u64 (lo : Nat))) :=
  ⟨⟨h.tbl.blk.other hga _, h.tbl.rd.setCell _ hA, h.tbl.cap⟩, h.ba.set 0 _, h.bb.other hab.symm _⟩
theorem BndS.setb {g ga gb c lo hi : Nat} {A : Option Addr} {l : List FM} {W : World} (h : BndS g ga gb A l c lo hi W) (hgb : g ≠ gb) (hab : ga ≠ gb) (hA : ∀ ad, A = some ad → ad.block ≠ gb) : BndS g ga gb A l c lo hi (W.setCell ⟨gb, 0, none⟩ (.int .u64 (hi : Nat))) :=
  ⟨⟨h.tbl.blk.other hgb _, h.tbl.rd.setCell _ hA, h.tbl.cap⟩, h.ba.other hab _, h.bb.set 0 _⟩
theorem regBo7 {u1 u2 u3 u6 u7 u8 u9 u10 u11 u12 u13 u14 u15 u16 u17 u18 u19 u20 u21 u22 u23 u24 u25 u26 u27 u28 u29 u30 u31 u32 u33 u34 u35 u36 u37 u38 u39 u40 u41 u42 u43 u44 u45 u46 u47 u48 u49 u50 u51 u52 u53 : Value} {DD : List Deferred} {Q : Exit → Act → World → Prop} {w : World} {g ga gb c lo hi z : Nat} {la : Addr} {l : List FM} {f0 fz : FM} (hS0 : BndS g ga gb (some la) l c lo hi w.drew) (h0 : l[0]? = some f0) (hz : l[z]? = some fz) (hzl : l.length = z + 1) (hl : l.length ≤ 1048576) (hga : g ≠ ga) (hgb : g ≠ gb) (hab : ga ≠ gb) (hAa : ∀ ad, some la = some ad → ad.block ≠ ga) (hAb : ∀ ad, some la = some ad → ad.block ≠ gb)
    (hend : ∀ (w2 : World) (x32 x33 x34 x35 x36 x37 x38 x39 x40 x41 x42 x43 x44 x45 x46 x47 x48 x49 x50 x51 x52 x53 : Value) (_ : w2 = (w.drew.setCell ⟨ga, 0, none⟩ (.int .u64 (lo : Nat))).setCell ⟨gb, 0, none⟩ (.int .u64 (hi : Nat))), Q .normal ⟨#[.pointer (some ⟨g, 0, none⟩), u1, .string f0.k, .string fz.k, .pointer (some ⟨ga, 0, none⟩), .pointer (some ⟨gb, 0, none⟩), .bool true, u7, u8, u9, u10, u11, u12, u13, u14, u15, u16, u17, u18, u19, u20, u21, u22, u23, u24, u25, u26, u27, u28, u29, u30, u31, x32, x33, x34, x35, x36, x37, x38, x39, x40, x41, x42, x43, x44, x45, x46, x47, x48, x49, x50, x51, x52, x53], DD⟩ w2) :
    (Code.region 7 opsBo7 true).wp Try.prog Q ⟨#[.pointer (some ⟨g, 0, none⟩), u1, u2, u3, .pointer (some ⟨ga, 0, none⟩), .pointer (some ⟨gb, 0, none⟩), u6, u7, u8, u9, u10, u11, u12, u13, u14, u15, u16, u17, u18, u19, u20, u21, u22, u23, u24, u25, u26, u27, u28, u29, u30, u31, u32, u33, u34, u35, u36, u37, u38, u39, u40, u41, u42, u43, u44, u45, u46, u47, u48, u49, u50, u51, u52, u53], DD⟩ w := by
  refine wp_region_noPanic ?_
  refine wp_region_held_drew (S := fun W => BndS g ga gb (some la) l c lo hi W) (by kernel_rfl) hS0 (fun hS => ?_)
  refine wpAnyH_take (i := 0) (oi := (⟨some 32, Op.move (Operand.tmp 0), 65, "fact.go:234", #[], none⟩)) (v := .pointer (some ⟨g, 0, none⟩)) rfl (by kernel_rfl) (by kernel_rfl) (by kernel_rfl) (fun _ _ _ h => h) (Or.inl ⟨by kernel_rfl, fun _ _ => by kernel_rfl⟩) hS ?_
  simp only [Act.put, List.setIfInBounds_toArray, List.set_cons_zero, List.set_cons_succ]
  refine wpAnyH_take (i := 1) (oi := (⟨some 33, Op.nilCheck (Operand.tmp 32), 0, "fact.go:234", #[{ on := 0, ground := Ground.data }], none⟩)) (v := .pointer (some ⟨g, 0, none⟩)) rfl (by kernel_rfl) (by kernel_rfl) (by kernel_rfl) (fun _ _ _ h => h) (Or.inl ⟨by kernel_rfl, fun _ _ => by kernel_rfl⟩) hS ?_
  simp only [Act.put, List.setIfInBounds_toArray, List.set_cons_zero, List.set_cons_succ]
  refine wpAnyH_take (i := 2) (oi := (⟨some 34, Op.fieldAddr 129 (Operand.tmp 33) 0, 0, "fact.go:234", #[{ on := 1, ground := Ground.data }], none⟩)) (v := .pointer (some ⟨g, 0, none⟩)) rfl (by kernel_rfl) (by kernel_rfl) (by kernel_rfl) (fun _ _ _ h => h) (Or.inl ⟨by kernel_rfl, fun _ _ => by kernel_rfl⟩) hS ?_
  simp only [Act.put, List.setIfInBounds_toArray, List.set_cons_zero, List.set_cons_succ]
  refine wpAnyH_take (i := 3) (oi := (⟨some 35, Op.load 56 (Operand.tmp 34), 56, "fact.go:234", #[{ on := 2, ground := Ground.data }], none⟩)) (v := .slice (some la) l.length c) rfl (by kernel_rfl) (by kernel_rfl) (by kernel_rfl) (fun _ _ _ h => h) (Or.inl ⟨by kernel_rfl, fun W hW => run_load1_op (by kernel_rfl) (by kernel_rfl) (hW.tbl.blk.cell 0)⟩) hS ?_
  simp only [Act.put, List.setIfInBounds_toArray, List.set_cons_zero, List.set_cons_succ]
  refine wpAnyH_take (i := 4) (oi := (⟨some 36, Op.indexAddr 56 (Operand.tmp 35) (Operand.const (Value.int IntKind.i64 0)), 0, "fact.go:234", #[{ on := 3, ground := Ground.data }], none⟩)) (v := .pointer (some (la.add (0 * 3)))) rfl (by kernel_rfl) (by kernel_rfl) (by kernel_rfl) (fun _ _ _ h => h) (Or.inl ⟨by kernel_rfl, fun W _ => run_index_op (size := 3) (i := 0) (n := l.length) (c := c) Try.underlying56 (by kernel_rfl) rfl rfl (by omega)⟩) hS ?_
  simp only [Act.put, List.setIfInBounds_toArray, List.set_cons_zero, List.set_cons_succ]
  refine wpAnyH_take (i := 5) (oi := (⟨some 37, Op.fieldAddr 71 (Operand.tmp 36) 0, 0, "fact.go:234", #[{ on := 4, ground := Ground.data }], none⟩)) (v := .pointer (some (la.add (0 * 3)))) rfl (by kernel_rfl) (by kernel_rfl) (by kernel_rfl) (fun _ _ _ h => h) (Or.inl ⟨by kernel_rfl, fun _ _ => by kernel_rfl⟩) hS ?_
  simp only [Act.put, List.setIfInBounds_toArray, List.set_cons_zero, List.set_cons_succ]
  refine wpAnyH_take (i := 6) (oi := (⟨some 38, Op.load 9 (Operand.tmp 37), 9, "fact.go:234", #[{ on := 5, ground := Ground.data }], none⟩)) (v := .string f0.k) rfl (by kernel_rfl) (by kernel_rfl) (by kernel_rfl) (fun _ _ _ h => h) (Or.inl ⟨by kernel_rfl, fun W hW => run_load1_op (by kernel_rfl) (by kernel_rfl) (facts_cells' hW.tbl.rd h0 0 _ rfl)⟩) hS ?_
  simp only [Act.put, List.setIfInBounds_toArray, List.set_cons_zero, List.set_cons_succ]
  refine wpAnyH_take (i := 7) (oi := (⟨some 39, Op.move (Operand.tmp 0), 65, "fact.go:234", #[{ on := 22, ground := Ground.gcOnly Departure.lateStores }], none⟩)) (v := .pointer (some ⟨g, 0, none⟩)) rfl (by kernel_rfl) (by kernel_rfl) (by kernel_rfl) (fun _ _ _ h => h) (Or.inl ⟨by kernel_rfl, fun _ _ => by kernel_rfl⟩) hS ?_
  simp only [Act.put, List.setIfInBounds_toArray, List.set_cons_zero, List.set_cons_succ]
  refine wpAnyH_take (i := 8) (oi := (⟨some 40, Op.nilCheck (Operand.tmp 39), 0, "fact.go:234", #[{ on := 7, ground := Ground.data }, { on := 22, ground := Ground.gcOnly Departure.lateStores }], none⟩)) (v := .pointer (some ⟨g, 0, none⟩)) rfl (by kernel_rfl) (by kernel_rfl) (by kernel_rfl) (fun _ _ _ h => h) (Or.inl ⟨by kernel_rfl, fun _ _ => by kernel_rfl⟩) hS ?_
  simp only [Act.put, List.setIfInBounds_toArray, List.set_cons_zero, List.set_cons_succ]
  refine wpAnyH_take (i := 9) (oi := (⟨some 41, Op.fieldAddr 129 (Operand.tmp 40) 0, 0, "fact.go:234", #[{ on := 8, ground := Ground.data }, { on := 22, ground := Ground.gcOnly Departure.lateStores }], none⟩)) (v := .pointer (some ⟨g, 0, none⟩)) rfl (by kernel_rfl) (by kernel_rfl) (by kernel_rfl) (fun _ _ _ h => h) (Or.inl ⟨by kernel_rfl, fun _ _ => by kernel_rfl⟩) hS ?_
  simp only [Act.put, List.setIfInBounds_toArray, List.set_cons_zero, List.set_cons_succ]
  refine wpAnyH_take (i := 10) (oi := (⟨some 42, Op.load 56 (Operand.tmp 41), 56, "fact.go:234", #[{ on := 9, ground := Ground.data }, { on := 22, ground := Ground.gcOnly Departure.lateStores }], none⟩)) (v := .slice (some la) l.length c) rfl (by kernel_rfl) (by kernel_rfl) (by kernel_rfl) (fun _ _ _ h => h) (Or.inl ⟨by kernel_rfl, fun W hW => run_load1_op (by kernel_rfl) (by kernel_rfl) (hW.tbl.blk.cell 0)⟩) hS ?_
  simp only [Act.put, List.setIfInBounds_toArray, List.set_cons_zero, List.set_cons_succ]
  refine wpAnyH_take (i := 11) (oi := (⟨some 43, Op.move (Operand.tmp 0), 65, "fact.go:234", #[], none⟩)) (v := .pointer (some ⟨g, 0, none⟩)) rfl (by kernel_rfl) (by kernel_rfl) (by kernel_rfl) (fun _ _ _ h => h) (Or.inl ⟨by kernel_rfl, fun _ _ => by kernel_rfl⟩) hS ?_
  simp only [Act.put, List.setIfInBounds_toArray, List.set_cons_zero, List.set_cons_succ]
  refine wpAnyH_take (i := 12) (oi := (⟨some 44, Op.nilCheck (Operand.tmp 43), 0, "fact.go:234", #[{ on := 11, ground := Ground.data }], none⟩)) (v := .pointer (some ⟨g, 0, none⟩)) rfl (by kernel_rfl) (by kernel_rfl) (by kernel_rfl) (fun _ _ _ h => h) (Or.inl ⟨by kernel_rfl, fun _ _ => by kernel_rfl⟩) hS ?_
  simp only [Act.put, List.setIfInBounds_toArray, List.set_cons_zero, List.set_cons_succ]
  refine wpAnyH_take (i := 13) (oi := (⟨some 45, Op.fieldAddr 129 (Operand.tmp 44) 0, 0, "fact.go:234", #[{ on := 12, ground := Ground.data }], none⟩)) (v := .pointer (some ⟨g, 0, none⟩)) rfl (by kernel_rfl) (by kernel_rfl) (by kernel_rfl) (fun _ _ _ h => h) (Or.inl ⟨by kernel_rfl, fun _ _ => by kernel_rfl⟩) hS ?_
  simp only [Act.put, List.setIfInBounds_toArray, List.set_cons_zero, List.set_cons_succ]
  refine wpAnyH_take (i := 14) (oi := (⟨some 46, Op.load 56 (Operand.tmp 45), 56, "fact.go:234", #[{ on := 13, ground := Ground.data }], none⟩)) (v := .slice (some la) l.length c) rfl (by kernel_rfl) (by kernel_rfl) (by kernel_rfl) (fun _ _ _ h => h) (Or.inl ⟨by kernel_rfl, fun W hW => run_load1_op (by kernel_rfl) (by kernel_rfl) (hW.tbl.blk.cell 0)⟩) hS ?_
  simp only [Act.put, List.setIfInBounds_toArray, List.set_cons_zero, List.set_cons_succ]
  refine wpAnyH_take (i := 15) (oi := (⟨some 47, Op.call { callee := Callee.builtin Builtin.len, args := #[Operand.tmp 46], argTypes := #[56] }, 3, "fact.go:234", #[{ on := 14, ground := Ground.data }], none⟩)) (v := .int .i64 ((l.length : Nat) : Nat)) rfl (by kernel_rfl) (by kernel_rfl) (by kernel_rfl) (fun _ _ _ h => h) (Or.inl ⟨by kernel_rfl, fun W _ => run_len_op Try.underlying56 rfl⟩) hS ?_
  simp only [Act.put, List.setIfInBounds_toArray, List.set_cons_zero, List.set_cons_succ]
  refine wpAnyH_take (i := 16) (oi := (⟨some 48, Op.binOp BinOp.sub 3 (Operand.tmp 47) (Operand.const (Value.int IntKind.i64 1)) 3, 3, "fact.go:234", #[{ on := 15, ground := Ground.data }, { on := 22, ground := Ground.gcOnly Departure.lateStores }], none⟩)) (v := .int .i64 (z : Nat)) rfl (by kernel_rfl) (by kernel_rfl) (by kernel_rfl) (fun _ _ _ h => h) (Or.inl ⟨by kernel_rfl, fun W _ => run_sub1_op (by show Value.int .i64 _ = _; rw [hzl]) rfl (by omega)⟩) hS ?_
  simp only [Act.put, List.setIfInBounds_toArray, List.set_cons_zero, List.set_cons_succ]
  refine wpAnyH_take (i := 17) (oi := (⟨some 49, Op.indexAddr 56 (Operand.tmp 42) (Operand.tmp 48), 0, "fact.go:234", #[{ on := 10, ground := Ground.data }, { on := 16, ground := Ground.data }, { on := 22, ground := Ground.gcOnly Departure.lateStores }], none⟩)) (v := .pointer (some (la.add (z * 3)))) rfl (by kernel_rfl) (by kernel_rfl) (by kernel_rfl) (fun _ _ _ h => h) (Or.inl ⟨by kernel_rfl, fun W _ => run_index_op (size := 3) (i := z) (n := l.length) (c := c) Try.underlying56 (by kernel_rfl) rfl rfl (by omega)⟩) hS ?_
  simp only [Act.put, List.setIfInBounds_toArray, List.set_cons_zero, List.set_cons_succ]
  refine wpAnyH_take (i := 18) (oi := (⟨some 50, Op.fieldAddr 71 (Operand.tmp 49) 0, 0, "fact.go:234", #[{ on := 17, ground := Ground.data }, { on := 22, ground := Ground.gcOnly Departure.lateStores }], none⟩)) (v := .pointer (some (la.add (z * 3)))) rfl (by kernel_rfl) (by kernel_rfl) (by kernel_rfl) (fun _ _ _ h => h) (Or.inl ⟨by kernel_rfl, fun _ _ => by kernel_rfl⟩) hS ?_
  simp only [Act.put, List.setIfInBounds_toArray, List.set_cons_zero, List.set_cons_succ]
  refine wpAnyH_take (i := 19) (oi := (⟨some 51, Op.load 9 (Operand.tmp 50), 9, "fact.go:234", #[{ on := 18, ground := Ground.data }, { on := 22, ground := Ground.gcOnly Departure.lateStores }], none⟩)) (v := .string fz.k) rfl (by kernel_rfl) (by kernel_rfl) (by kernel_rfl) (fun _ _ _ h => h) (Or.inl ⟨by kernel_rfl, fun W hW => run_load1_op (by kernel_rfl) (by kernel_rfl) (facts_cells' hW.tbl.rd hz 0 _ rfl)⟩) hS ?_
  simp only [Act.put, List.setIfInBounds_toArray, List.set_cons_zero, List.set_cons_succ]
  refine wpAnyH_take (i := 20) (oi := (⟨some 52, Op.load 69 (Operand.tmp 4), 69, "fact.go:234", #[{ on := 23, ground := Ground.gcOnly Departure.lateStores }], none⟩)) (v := .int .u64 (lo : Nat)) rfl (by kernel_rfl) (by kernel_rfl) (by kernel_rfl) (fun _ _ _ h => h) (Or.inl ⟨by kernel_rfl, fun W hW => run_load1_op (by kernel_rfl) (by kernel_rfl) (hW.ba.cell 0)⟩) hS ?_
  simp only [Act.put, List.setIfInBounds_toArray, List.set_cons_zero, List.set_cons_succ]
  refine wpAnyH_take (i := 21) (oi := (⟨some 53, Op.load 69 (Operand.tmp 5), 69, "fact.go:234", #[], none⟩)) (v := .int .u64 (hi : Nat)) rfl (by kernel_rfl) (by kernel_rfl) (by kernel_rfl) (fun _ _ _ h => h) (Or.inl ⟨by kernel_rfl, fun W hW => run_load1_op (by kernel_rfl) (by kernel_rfl) (hW.bb.cell 0)⟩) hS ?_
  simp only [Act.put, List.setIfInBounds_toArray, List.set_cons_zero, List.set_cons_succ]
  refine wpAnyH_take (i := 22) (oi := (⟨some 2, Op.assign (Operand.tmp 38), 9, "fact.go:234", #[{ on := 6, ground := Ground.data }, { on := 0, ground := Ground.phase }, { on := 1, ground := Ground.phase }, { on := 2, ground := Ground.phase }, { on := 3, ground := Ground.phase }, { on := 4, ground := Ground.phase }, { on := 5, ground := Ground.phase }, { on := 6, ground := Ground.phase }, { on := 7, ground := Ground.textOnly Departure.lateStores }, { on := 8, ground := Ground.textOnly Departure.lateStores }, { on := 9, ground := Ground.textOnly Departure.lateStores }, { on := 10, ground := Ground.textOnly Departure.lateStores }, { on := 11, ground := Ground.textOnly Departure.lateStores }, { on := 12, ground := Ground.textOnly Departure.lateStores }, { on := 13, ground := Ground.textOnly Departure.lateStores }, { on := 14, ground := Ground.textOnly Departure.lateStores }, { on := 15, ground := Ground.textOnly Departure.lateStoresUnsure }, { on := 16, ground := Ground.textOnly Departure.lateStores }, { on := 17, ground := Ground.textOnly Departure.lateStores }, { on := 18, ground := Ground.textOnly Departure.lateStores }, { on := 19, ground := Ground.textOnly Departure.lateStores }, { on := 20, ground := Ground.textOnly Departure.lateStores }, { on := 21, ground := Ground.textOnly Departure.inlinedCapture }], none⟩)) (v := .string f0.k) rfl (by kernel_rfl) (by kernel_rfl) (by kernel_rfl) (fun _ _ _ h => h) (Or.inl ⟨by kernel_rfl, fun _ _ => by kernel_rfl⟩) hS ?_
  simp only [Act.put, List.setIfInBounds_toArray, List.set_cons_zero, List.set_cons_succ]
  refine wpAnyH_take (i := 23) (oi := (⟨some 3, Op.assign (Operand.tmp 51), 9, "fact.go:234", #[{ on := 19, ground := Ground.data }, { on := 22, ground := Ground.chain }, { on := 0, ground := Ground.phase }, { on := 1, ground := Ground.phase }, { on := 2, ground := Ground.phase }, { on := 3, ground := Ground.phase }, { on := 4, ground := Ground.phase }, { on := 5, ground := Ground.phase }, { on := 6, ground := Ground.phase }, { on := 7, ground := Ground.phase }, { on := 8, ground := Ground.phase }, { on := 9, ground := Ground.phase }, { on := 10, ground := Ground.phase }, { on := 11, ground := Ground.phase }, { on := 12, ground := Ground.phase }, { on := 13, ground := Ground.phase }, { on := 14, ground := Ground.phase }, { on := 15, ground := Ground.phase }, { on := 16, ground := Ground.phase }, { on := 17, ground := Ground.phase }, { on := 18, ground := Ground.phase }, { on := 19, ground := Ground.phase }, { on := 20, ground := Ground.textOnly Departure.lateStores }, { on := 21, ground := Ground.textOnly Departure.inlinedCapture }, { on := 22, ground := Ground.phase }], none⟩)) (v := .string fz.k) rfl (by kernel_rfl) (by kernel_rfl) (by kernel_rfl) (fun _ _ _ h => h) (Or.inl ⟨by kernel_rfl, fun _ _ => by kernel_rfl⟩) hS ?_
  simp only [Act.put, List.setIfInBounds_toArray, List.set_cons_zero, List.set_cons_succ]
  refine wpAnyH_ready (rs := [24]) (by kernel_rfl) (by simp) ?_
  refine AllReadyH.cons (o := (⟨none, Op.store 69 (Operand.tmp 4) (Operand.tmp 52), 0, "fact.go:234", #[{ on := 20, ground := Ground.data }, { on := 23, ground := Ground.chain }, { on := 0, ground := Ground.phase }, { on := 1, ground := Ground.phase }, { on := 2, ground := Ground.phase }, { on := 3, ground := Ground.phase }, { on := 4, ground := Ground.phase }, { on := 5, ground := Ground.phase }, { on := 6, ground := Ground.phase }, { on := 7, ground := Ground.phase }, { on := 8, ground := Ground.phase }, { on := 9, ground := Ground.phase }, { on := 10, ground := Ground.phase }, { on := 11, ground := Ground.phase }, { on := 12, ground := Ground.phase }, { on := 13, ground := Ground.phase }, { on := 14, ground := Ground.phase }, { on := 15, ground := Ground.phase }, { on := 16, ground := Ground.phase }, { on := 17, ground := Ground.phase }, { on := 18, ground := Ground.phase }, { on := 19, ground := Ground.phase }, { on := 20, ground := Ground.phase }, { on := 21, ground := Ground.textOnly Departure.inlinedCapture }, { on := 22, ground := Ground.phase }, { on := 23, ground := Ground.phase }], none⟩)) rfl ?_ (AllReadyH.nil)
  · skip
    refine next_skip (by kernel_rfl) (run_storeI_op (by kernel_rfl) rfl rfl (hS.ba.cell 0) (hS.ba.frozen 0)) (hS.seta hga hab hAa) (fun hS => ?_)
    simp only [Act.put, List.setIfInBounds_toArray, List.set_cons_zero, List.set_cons_succ]
    refine wpAnyH_ready (rs := [25]) (by kernel_rfl) (by simp) ?_
    refine AllReadyH.cons (o := (⟨none, Op.store 69 (Operand.tmp 5) (Operand.tmp 53), 0, "fact.go:234", #[{ on := 21, ground := Ground.data }, { on := 24, ground := Ground.chain }, { on := 0, ground := Ground.phase }, { on := 1, ground := Ground.phase }, { on := 2, ground := Ground.phase }, { on := 3, ground := Ground.phase }, { on := 4, ground := Ground.phase }, { on := 5, ground := Ground.phase }, { on := 6, ground := Ground.phase }, { on := 7, ground := Ground.phase }, { on := 8, ground := Ground.phase }, { on := 9, ground := Ground.phase }, { on := 10, ground := Ground.phase }, { on := 11, ground := Ground.phase }, { on := 12, ground := Ground.phase }, { on := 13, ground := Ground.phase }, { on := 14, ground := Ground.phase }, { on := 15, ground := Ground.phase }, { on := 16, ground := Ground.phase }, { on := 17, ground := Ground.phase }, { on := 18, ground := Ground.phase }, { on := 19, ground := Ground.phase }, { on := 20, ground := Ground.phase }, { on := 21, ground := Ground.phase }, { on := 22, ground := Ground.phase }, { on := 23, ground := Ground.phase }, { on := 24, ground := Ground.phase }], none⟩)) rfl ?_ (AllReadyH.nil)
    · skip
      refine next_skip (by kernel_rfl) (run_storeI_op (by kernel_rfl) rfl rfl (hS.bb.cell 0) (hS.bb.frozen 0)) (hS.setb hgb hab hAb) (fun hS => ?_)
      simp only [Act.put, List.setIfInBounds_toArray, List.set_cons_zero, List.set_cons_succ]
      refine wpAnyH_take (i := 26) (oi := (⟨some 6, Op.assign (Operand.const (Value.bool true)), 4, "fact.go:234", #[{ on := 25, ground := Ground.chain }, { on := 0, ground := Ground.phase }, { on := 1, ground := Ground.phase }, { on := 2, ground := Ground.phase }, { on := 3, ground := Ground.phase }, { on := 4, ground := Ground.phase }, { on := 5, ground := Ground.phase }, { on := 6, ground := Ground.phase }, { on := 7, ground := Ground.phase }, { on := 8, ground := Ground.phase }, { on := 9, ground := Ground.phase }, { on := 10, ground := Ground.phase }, { on := 11, ground := Ground.phase }, { on := 12, ground := Ground.phase }, { on := 13, ground := Ground.phase }, { on := 14, ground := Ground.phase }, { on := 15, ground := Ground.phase }, { on := 16, ground := Ground.phase }, { on := 17, ground := Ground.phase }, { on := 18, ground := Ground.phase }, { on := 19, ground := Ground.phase }, { on := 20, ground := Ground.phase }, { on := 21, ground := Ground.phase }, { on := 22, ground := Ground.phase }, { on := 23, ground := Ground.phase }, { on := 24, ground := Ground.phase }, { on := 25, ground := Ground.phase }], none⟩)) (v := .bool true) rfl (by kernel_rfl) (by kernel_rfl) (by kernel_rfl) (fun _ _ _ h => h) (Or.inl ⟨by kernel_rfl, fun _ _ => by kernel_rfl⟩) hS ?_
      simp only [Act.put, List.setIfInBounds_toArray, List.set_cons_zero, List.set_cons_succ]
      refine wpAnyH_done (by kernel_rfl) ?_ _
      exact NoPanic.normal (hend ((((w.drew).setCell ⟨ga, 0, none⟩ (.int .u64 (lo : Nat)))).setCell ⟨gb, 0, none⟩ (.int .u64 (hi : Nat))) _ _ _ _ _ _ _ _ _ _ _ _ _ _ _ _ _ _ _ _ _ _ rfl)
end Go.Proofs.Ytadgaphgomagkaa
/- A table's bounds. -/
namespace Go.Proofs.Ytadgaphgomagkaa
open Go.RowKit Go.Shelf
attribute [local go_sem] Oper.semAt_some
set_option maxHeartbeats 8000000
set_option maxRecDepth 100000

def mnF (d : Nat) (xs : List Nat) : Nat := xs.foldl min d
def mxF (xs : List Nat) : Nat := xs.foldl max 0
theorem mnF_snoc (d : Nat) (xs : List Nat) (x : Nat) : mnF d (xs ++ [x]) = min (mnF d xs) x := by simp [mnF, List.foldl_append]
theorem mxF_snoc (xs : List Nat) (x : Nat) : mxF (xs ++ [x]) = max (mxF xs) x := by simp [mxF, List.foldl_append]
theorem mnF_le (d : Nat) : ∀ (xs : List Nat), mnF d xs ≤ d
  | [] => Nat.le_refl _
  | x :: r => by
    show mnF (min d x) r ≤ d
    exact Nat.le_trans (mnF_le _ r) (Nat.min_le_left _ _)
/-- what Bounds tells -/
def bndF (l : List FM) : Value := match l[0]?, l[l.length - 1]? with
  | some f, some z => .tuple #[.string f.k, .string z.k, .int .u64 (mnF f.s (l.map FM.s) : Nat), .int .u64 (mxF (l.map FM.s) : Nat), .bool true]
  | _, _ => .tuple #[.string ⟨#[]⟩, .string ⟨#[]⟩, .int .u64 0, .int .u64 0, .bool false]
theorem results_bounds {fn : Func} (h : fn.results = #[.tmp 2, .tmp 3, .cell 4 69, .cell 5 69, .tmp 6]) (tmps : Array Value) (w : World) (ga gb : Nat) (a b : Value) (lo hi : Int) (c : Bool)
    (h2 : tmps.getD 2 undef = a) (h3 : tmps.getD 3 undef = b) (h4 : tmps.getD 4 undef = .pointer (some ⟨ga, 0, none⟩)) (h5 : tmps.getD 5 undef = .pointer (some ⟨gb, 0, none⟩)) (h6 : tmps.getD 6 undef = .bool c)
    (hga : w.cell? ⟨ga, 0, none⟩ = some (.int .u64 lo)) (hgb : w.cell? ⟨gb, 0, none⟩ = some (.int .u64 hi)) :
    (results fn tmps).run Try.prog w = .ok (.tuple #[a, b, .int .u64 lo, .int .u64 hi, .bool c]) w := by
  have h2' : tmps[2]?.getD undef = a := by simpa using h2
  have h3' : tmps[3]?.getD undef = b := by simpa using h3
  have h4' : tmps[4]?.getD undef = .pointer (some ⟨ga, 0, none⟩) := by simpa using h4
  have h5' : tmps[5]?.getD undef = .pointer (some ⟨gb, 0, none⟩) := by simpa using h5
  have h6' : tmps[6]?.getD undef = .bool c := by simpa using h6
  simp [results, h, h2', h3', h4', h5', h6', go_sem, hga, hgb]
/-- the boxes of Bounds between two rounds -/
structure BAt (W0 : World) (n₀ ga gb lo hi : Nat) (W : World) : Prop where
  ba : Blk W ga 69 #[.int .u64 (lo : Nat)]
  bb : Blk W gb 69 #[.int .u64 (hi : Nat)]
  exc : Exc n₀ (fun k => k = ga ∨ k = gb) W0 W
  siz : n₀ ≤ W.heap.size
theorem Exc.drew (n₀ : Nat) (X : Nat → Prop) (w : World) : Exc n₀ X w w.drew := ⟨rfl, rfl, rfl, Nat.le_refl _, fun _ _ _ => rfl⟩
theorem BAt.kept {W0 : World} {n₀ ga gb lo hi B : Nat} {A C : World} {row : Option Nat} (h : BAt W0 n₀ ga gb lo hi A) (hB : n₀ ≤ B) (hg : A.grownBy C row) (hr : ∀ r, row = some r → B ≤ r ∧ ∃ o : Obj, A.heap[r]? = some o ∧ o.isCells = false) : BAt W0 n₀ ga gb lo hi C :=
  ⟨h.ba.turned hg fun r e => (hr r e).2, h.bb.turned hg fun r e => (hr r e).2, h.exc.trans (Exc.below (B := n₀) ⟨hg.os, hg.tape, hg.output, hg.size, fun q hq => hg.block q (by have := h.siz; omega) fun e => by have := (hr q e.symm).1; omega⟩ (Nat.le_refl _)), Nat.le_trans h.siz hg.size⟩
theorem BAt.below {W0 : World} {n₀ ga gb lo hi : Nat} {A C : World} (h : BAt W0 n₀ ga gb lo hi A) (hb : Below A.heap.size A C) : BAt W0 n₀ ga gb lo hi C :=
  ⟨h.ba.below' hb, h.bb.below' hb, h.exc.trans (Exc.below hb h.siz), Nat.le_trans h.siz hb.size⟩
def BndPost (w : World) (l : List FM) (e : Ending) (w' : World) : Prop := e = .returned (bndF l) ∧ Below w.heap.size w w'
theorem bounds_any (g : Nat) (A : Option Addr) (c : Nat) (l : List FM) (w : World) (h : TblAt w g A l c) (hA : ∀ ad, A = some ad → ad.block < w.heap.size) (hok : ∀ f ∈ l, f.ok w) (hlo : ∀ f ∈ l, ∀ ad, f.A = some ad → ad.block < w.heap.size) (hl : l.length ≤ 1048576) :
    Calls Try.prog 86 #[.pointer (some ⟨g, 0, none⟩)] w (BndPost w l) := by
  refine (callsIn_wide (n := 0)).1 ?_
  refine callsIn_of_wp_marks Try.func86 rfl trivial ?_ rfl
  simp only [Try.ntmps86, List.size_toArray, List.length_cons, List.length_nil, Nat.reduceAdd, Nat.reduceSub, Array.replicate_succ, Array.replicate_zero, List.push_toArray, List.append_toArray, List.nil_append, List.cons_append]
  refine wpIn_wide.2 ?_
  have hgl : g < w.heap.size := h.blk.lt
  have hb0 := ((Below.refl w.heap.size w).alloc (Nat.le_refl _) (.cells #[.int .u64 0] 69)).alloc (by rw [World.size_alloc]; omega) (.cells #[.int .u64 0] 69)
  have hBa := (Blk.new w 69 #[.int .u64 0]).alloc (.cells #[.int .u64 0] 69)
  have hBb := Blk.new (w.alloc (.cells #[.int .u64 0] 69)) 69 #[.int .u64 0]
  rw [World.size_alloc] at hBb
  have hT := (⟨h.blk.below' hb0, h.rd.below hb0, h.cap⟩ : TblAt ((w.alloc (.cells #[.int .u64 0] 69)).alloc (.cells #[.int .u64 0] 69)) g A l c)
  have hx0 := hT.blk.cell 0
  go_upto_region 1 with fail
  obtain ⟨W0, hW0⟩ : ∃ W0, (w.alloc (.cells #[.int .u64 0] 69)).alloc (.cells #[.int .u64 0] 69) = W0 := ⟨_, rfl⟩
  rw [hW0] at hb0 hBa hBb hT hx0 ⊢
  have hs0 : W0.heap.size = w.heap.size + 1 + 1 := by rw [← hW0, World.size_alloc, World.size_alloc]
  clear hW0
  generalize hga : w.heap.size = ga at *
  have HGA := Lib.hid hga
  clear hga
  have ya := hBa.cell 0
  have yb := hBb.cell 0
  have fa := hBa.frozen 0
  have fb := hBb.frozen 0
  rcases Nat.eq_zero_or_pos l.length with hl0 | hl0
  · have e0 : l = [] := List.eq_nil_of_length_eq_zero hl0
    subst e0
    have hBa2 := (hBa.set 0 (.int .u64 0)).other (i := 0) (k := ga + 1) (by omega) (.int .u64 0)
    have hBb2 := (hBb.other (i := 0) (k := ga) (by omega) (.int .u64 0)).set 0 (.int .u64 0)
    have hbx := ((hb0.setCell (p := ⟨ga, 0, none⟩) (Nat.le_refl _) (.int .u64 0)).setCell (p := ⟨ga + 1, 0, none⟩) (by show ga ≤ ga + 1; omega) (.int .u64 0))
    go_wp2_with fail
    refine ⟨_, results_bounds rfl _ _ ga (ga + 1) _ _ 0 0 false rfl rfl rfl rfl rfl (hBa2.cell 0) (hBb2.cell 0), rfl, ?_⟩
    rw [HGA.out]
    exact hbx
  · have k0 : ((l.length : Int) == 0) = false := by rw [beq_eq_false_iff_ne]; omega
    obtain ⟨la, rfl⟩ : ∃ la, A = some la := by
      obtain ⟨ad, e, _⟩ := hT.rd.at_ (k := 0) (by rw [fcells_length]; omega)
      exact ⟨ad, e⟩
    obtain ⟨f0, hf0⟩ : ∃ f0, l[0]? = some f0 := ⟨l[0], List.getElem?_eq_getElem hl0⟩
    have c1 : W0.cell? ⟨la.block, la.off + 1, none⟩ = some (.int .u64 (f0.s : Nat)) := by
      have := facts_cells' hT.rd hf0 1 _ rfl
      simpa [Addr.add] using this
    have hAl : ∀ ad, some la = some ad → ad.block < ga := hA
    have hBa2 := hBa.set 0 (.int .u64 (f0.s : Nat))
    have hBb2 := hBb.other (i := 0) (k := ga) (by omega) (.int .u64 (f0.s : Nat))
    have hbx := hb0.setCell (p := ⟨ga, 0, none⟩) (Nat.le_refl _) (.int .u64 (f0.s : Nat))
    have hT2 : TblAt (W0.setCell ⟨ga, 0, none⟩ (.int .u64 (f0.s : Nat))) g (some la) l c := ⟨hT.blk.other (by omega) _, hT.rd.setCell _ fun ad e => by have := hAl ad e; show ad.block ≠ ga; omega, hT.cap⟩
    have hall := all_any g (some la) c l _ hT2
    have hs2 : (W0.setCell ⟨ga, 0, none⟩ (.int .u64 (f0.s : Nat))).heap.size = ga + 1 + 1 := by simpa using hs0
    go_wp2_with fail
    clear ya yb fa fb c1 hx0 hT hBa hBb hb0
    generalize W0.setCell ⟨ga, 0, none⟩ (.int .u64 (f0.s : Nat)) = W1 at *
    refine hall.mono ?_
    rintro e w1 ⟨rfl, rfl⟩
    clear hall
    rw [hs2]
    have hbv := (Below.refl W1.heap.size W1).alloc (Nat.le_refl _) (.cells #[.slice (some la) l.length c] 56)
    have hBv := Blk.new W1 56 #[.slice (some la) l.length c]
    have hBa3 := hBa2.below' hbv
    have hBb3 := hBb2.below' hbv
    have hT3 : TblAt (W1.alloc (.cells #[.slice (some la) l.length c] 56)) g (some la) l c := ⟨hT2.blk.below' hbv, hT2.rd.below hbv, hT2.cap⟩
    have hbw := hbx.trans (hbv.mono (by omega))
    have hs3 : (W1.alloc (.cells #[.slice (some la) l.length c] 56)).heap.size = ga + 1 + 1 + 1 := by rw [World.size_alloc, hs2]
    rw [hs2] at hBv
    clear hBa2 hBb2 hT2 hbv hbx
    generalize W1.alloc (.cells #[.slice (some la) l.length c] 56) = W2 at *
    have hok2 : ∀ f ∈ l, f.ok W2 := fun f hf => ⟨(hok f hf).rd.under hbw (hlo f hf), (hok f hf).cap, (hok f hf).few, (hok f hf).seq, (hok f hf).key⟩
    go_wp2_with fail
    refine (wpIn_wide (n := 0)).1 ?_
    refine wpIn_each (gf := 104) (lb := #[.pointer (some ⟨ga + 1 + 1, 0, none⟩)]) rfl (enters_of Try.func104 (by kernel_rfl) rfl) (enc := FM.val) (n₀ := ga + 1 + 1 + 1) (X := fun k => k = ga ∨ k = ga + 1) (M := FreshL _) (S := fun xs => xs.map FM.fv = l.map FM.fv)
      (by omega) (over1_each (ga + 1 + 1) (ga + 1 + 1 + 1) (fun k => k = ga ∨ k = ga + 1) (some la) c l W2 hBv hT3.rd (fun ad e => by have := hAl ad e; omega) hok2 (fun f hf ad e => by have := hlo f hf ad e; omega) (by omega) hl) rfl
      (fun pre W => BAt W2 (ga + 1 + 1 + 1) ga (ga + 1) (mnF f0.s (pre.map FM.s)) (mxF (pre.map FM.s)) W) (fun _ _ _ => False) (fun _ _ _ _ hs hg hr => hs.kept (by omega) hg hr) (fun _ _ _ _ _ hs _ _ => hs) ⟨hBa3, hBb3, Exc.refl _ _ _, by omega⟩ ?round ?done ?stop
    case stop =>
      rintro _ _ _ _ _ h _
      exact h.elim
    case round =>
      rintro lr pre ⟨xk, xs, xA, xc, xl⟩ W3 W hlr hI hb1 ⟨⟨hxo, hxf⟩, _⟩ hlen ⟨r0, hr0'⟩
      have hI2 := hI.below hb1
      simp only [FM.val]
      have hbx := (Below.refl W.heap.size W).alloc (Nat.le_refl _) (.cells #[.string xk, .int .u64 (xs : Nat), .slice xA xl.length xc] 71)
      have hsW := hI2.siz
      gi_wp2
      refine ⟨KeepsOthers.alloc _ _, Exc.below hbx (by omega), fun r => ?_⟩
      have hlrs : lr < W.heap.size := (Array.getElem?_eq_some_iff.1 hr0').1
      have hBx := Blk.new W 71 #[.string xk, .int .u64 (xs : Nat), .slice xA xl.length xc]
      have hI3 := hI2.below hbx
      have hrow : ∀ q, some lr = some q → ga + 1 + 1 + 1 ≤ q ∧ ∃ o : Obj, (W.alloc (.cells #[.string xk, .int .u64 (xs : Nat), .slice xA xl.length xc] 71)).heap[q]? = some o ∧ o.isCells = false := fun q e => by
        injection e with e
        subst e
        exact ⟨by omega, _, (hbx.block _ hlrs).trans hr0', rfl⟩
      generalize hgx : W.heap.size = gx at *
      have HGX := Lib.hid hgx
      clear hgx
      generalize W.alloc (.cells #[.string xk, .int .u64 (xs : Nat), .slice xA xl.length xc] 71) = Wa at *
      have hg3 := grownBy_putObj' Wa lr (.loop r)
      have hI4 := hI3.kept (B := ga + 1 + 1 + 1) (by omega) hg3 hrow
      have hBx4 := hBx.turned hg3 fun q e => (hrow q e).2
      generalize Wa.putObj lr (.loop r) = W4 at *
      clear hI3 hBx hg3 hrow hI2 hI hbx hb1 hxo hr0'
      have hmn : mnF f0.s ((pre ++ [(⟨xk, xs, xA, xc, xl⟩ : FM)]).map FM.s) = min (mnF f0.s (pre.map FM.s)) xs := by rw [List.map_append, show [(⟨xk, xs, xA, xc, xl⟩ : FM)].map FM.s = [xs] from rfl, mnF_snoc]
      have hmx : mxF ((pre ++ [(⟨xk, xs, xA, xc, xl⟩ : FM)]).map FM.s) = max (mxF (pre.map FM.s)) xs := by rw [List.map_append, show [(⟨xk, xs, xA, xc, xl⟩ : FM)].map FM.s = [xs] from rfl, mxF_snoc]
      have HMN := Lib.hid hmn
      have HMX := Lib.hid hmx
      clear hmn hmx
      generalize mnF f0.s (pre.map FM.s) = mn at *
      generalize mxF (pre.map FM.s) = mx at *
      gi_wp2
      refine regBo6 (x := ⟨xk, xs, xA, xc, xl⟩) hBx4 hI4.ba hI4.bb (by omega) (by omega) (by omega) ?_
      rintro w9 _ _ _ _ _ _ _ _ rfl
      refine (show _ ∧ _ ∧ _ from ⟨((KeepsOthers.drew _).trans (KeepsOthers.setCell _ _ _)).trans (KeepsOthers.setCell _ _ _), ((Exc.drew _ _ W4).trans (Exc.set (X := fun k => k = ga ∨ k = ga + 1) ga 0 (Or.inl rfl) _ _)).trans (Exc.set (X := fun k => k = ga ∨ k = ga + 1) (ga + 1) 0 (Or.inr rfl) _ _), ?_⟩)
      show BAt W2 (ga + 1 + 1 + 1) ga (ga + 1) (mnF f0.s ((pre ++ [_]).map FM.s)) (mxF ((pre ++ [_]).map FM.s)) _
      rw [HMN.out, HMX.out]
      have hba : Blk W4.drew ga 69 #[.int .u64 (mn : Nat)] := hI4.ba
      have hbb : Blk W4.drew (ga + 1) 69 #[.int .u64 (mx : Nat)] := hI4.bb
      exact ⟨(hba.set 0 _).other (by omega) _, (hbb.other (by omega) _).set 0 _, (hI4.exc.trans ((Exc.drew _ _ W4).trans (Exc.set (X := fun k => k = ga ∨ k = ga + 1) ga 0 (Or.inl rfl) _ _))).trans (Exc.set (X := fun k => k = ga ∨ k = ga + 1) (ga + 1) 0 (Or.inr rfl) _ _), by have := hI4.siz; simpa using this⟩
    case done =>
      rintro D xs W hD hS hI hK
      have hxs : xs.map FM.s = l.map FM.s := by
        have := congrArg (List.map FV.s) hS
        simpa [List.map_map, Function.comp_def, FM.fv] using this
      rw [hxs] at hI
      obtain ⟨z, hz⟩ : ∃ z, l.length = z + 1 := ⟨l.length - 1, by omega⟩
      obtain ⟨fz, hfz⟩ : ∃ fz, l[z]? = some fz := ⟨l[z]'(by omega), List.getElem?_eq_getElem (by omega)⟩
      have hR : bndF l = .tuple #[.string f0.k, .string fz.k, .int .u64 (mnF f0.s (l.map FM.s) : Nat), .int .u64 (mxF (l.map FM.s) : Nat), .bool true] := by
        unfold bndF
        rw [hf0, show l.length - 1 = z by omega, hfz]
      generalize mnF f0.s (l.map FM.s) = mn at *
      generalize mxF (l.map FM.s) = mx at *
      have HR := Lib.hid hR
      have hTW : TblAt W.drew g (some la) l c := ⟨(hI.exc.block g (by omega) (by omega)).trans hT3.blk, Rd.exc (A := some la) (n₀ := ga + 1 + 1 + 1) (X := fun k => k = ga ∨ k = ga + 1) (w := W2) (w' := W.drew) hT3.rd (hI.exc.trans (Exc.drew _ _ W)) (fun ad e => by have := hAl ad e; exact ⟨by omega, by omega⟩), hT3.cap⟩
      have hDl : D < W.heap.size := (Array.getElem?_eq_some_iff.1 hK).1
      have hsW := hI.siz
      have hbD : Below w.heap.size w W := by
        rw [HGA.out]
        exact hbw.trans ⟨hI.exc.os, hI.exc.tape, hI.exc.output, hI.exc.size, fun k hk => hI.exc.block k (by omega) (by omega)⟩
      clear hR hxs hS
      go_wp2_with fail
      refine regBo7 (ga := ga) (gb := ga + 1) (c := c) (lo := mn) (hi := mx) ⟨hTW, hI.ba, hI.bb⟩ hf0 hfz hz hl (by omega) (by omega) (by omega) (fun ad e => by have := hAl ad e; omega) (fun ad e => by have := hAl ad e; omega) ?_
      rintro w9 _ _ _ _ _ _ _ _ _ _ _ _ _ _ _ _ _ _ _ _ _ _ rfl
      have hDa : ((W.drew.setCell ⟨ga, 0, none⟩ (.int .u64 (mn : Nat))).setCell ⟨ga + 1, 0, none⟩ (.int .u64 (mx : Nat))).heap[D]? = some (.deferred (some [])) := by
        rw [Below.heap_setCell _ ⟨ga + 1, 0, none⟩ _ D (by show D ≠ ga + 1; omega), Below.heap_setCell _ ⟨ga, 0, none⟩ _ D (by show D ≠ ga; omega)]
        exact hK
      have hba : Blk W.drew ga 69 #[.int .u64 (mn : Nat)] := hI.ba
      have hbb : Blk W.drew (ga + 1) 69 #[.int .u64 (mx : Nat)] := hI.bb
      have hba2 := (hba.set 0 (.int .u64 (mn : Nat))).other (i := 0) (k := ga + 1) (by omega) (.int .u64 (mx : Nat))
      have hbb2 := (hbb.other (i := 0) (k := ga) (by omega) (.int .u64 (mn : Nat))).set 0 (.int .u64 (mx : Nat))
      have hbe : Below w.heap.size w ((W.drew.setCell ⟨ga, 0, none⟩ (.int .u64 (mn : Nat))).setCell ⟨ga + 1, 0, none⟩ (.int .u64 (mx : Nat))) := (hbD.drew.setCell (p := ⟨ga, 0, none⟩) (by show w.heap.size ≤ ga; rw [HGA.out]; omega) _).setCell (p := ⟨ga + 1, 0, none⟩) (by show w.heap.size ≤ ga + 1; rw [HGA.out]; omega) _
      generalize (W.drew.setCell ⟨ga, 0, none⟩ (.int .u64 (mn : Nat))).setCell ⟨ga + 1, 0, none⟩ (.int .u64 (mx : Nat)) = W9 at *
      go_wp2_with fail
      refine ⟨by simp, .inl ⟨_, _, rfl, run_takeDeferred hDa, ?_⟩⟩
      have hp : ∀ k, k < D → (W9.putObj D (.deferred none)).cell? ⟨k, 0, none⟩ = W9.cell? ⟨k, 0, none⟩ := fun k hk => World.cell?_of_block (w := W9) (World.putObj_heap_other (by show k ≠ D; omega))
      refine ⟨_, results_bounds rfl _ _ ga (ga + 1) (.string f0.k) (.string fz.k) mn mx true rfl rfl rfl rfl rfl ((hp ga (by omega)).trans (hba2.cell 0)) ((hp (ga + 1) (by omega)).trans (hbb2.cell 0)), by rw [HR.out], ?_⟩
      exact hbe.trans (below_putObj W9 _ (by rw [HGA.out]; omega))
end Go.Proofs.Ytadgaphgomagkaa
