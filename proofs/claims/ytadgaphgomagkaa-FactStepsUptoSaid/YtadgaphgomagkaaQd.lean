/- The stable sort over facts: the statements that draw their order. PRINTED by tools/regs_q.py. -/
import Derived.Test.YtadgaphgomagkaaQc
namespace Go.Proofs.Ytadgaphgomagkaa
open Go.RowKit
set_option maxHeartbeats 8000000
set_option maxRecDepth 100000
theorem run_sub_nat2 {P : Program} {ρ : Operand → Value} {d : Option Tmp} {ty : TypeId} {pos : String} {af : Array Edge} {g : Option (Nat × Bool)} {w : World} {t : TypeId} {x y : Operand} {a b : Nat} (hx : ρ x = .int .i64 (a : Nat)) (hy : ρ y = .int .i64 (b : Nat)) (h : b ≤ a) (h2 : a ≤ 9223372036854775807) : (execOp ρ ⟨d, .binOp .sub t x y t, ty, pos, af, g⟩).run P w = .ok (.value (.int .i64 ((a - b : Nat) : Nat))) w := by
  have e : IntKind.i64.wrap ((a : Int) - (b : Int)) = ((a - b : Nat) : Int) := by rw [IntWalk.i64_in _ (by omega)]; omega
  simp [execOp, hx, hy, eqGuard, go_sem, e]
theorem run_gtr_true {P : Program} {ρ : Operand → Value} {d : Option Tmp} {ty : TypeId} {pos : String} {af : Array Edge} {g : Option (Nat × Bool)} {w : World} {t r : TypeId} {x y : Operand} {a b : Nat} (hx : ρ x = .int .i64 (a : Nat)) (hy : ρ y = .int .i64 (b : Nat)) (h : b < a) : (execOp ρ ⟨d, .binOp .gtr t x y r, ty, pos, af, g⟩).run P w = .ok (.value (.bool true)) w := by
  have e : (b : Int) < (a : Int) := by omega
  simp [execOp, hx, hy, eqGuard, go_sem, e]
theorem run_ixA {ρ : Operand → Value} {d : Option Tmp} {ty : TypeId} {pos : String} {af : Array Edge} {gd : Option (Nat × Bool)} {W : World} {x ix : Operand} {g n c i : Nat} (hx : ρ x = .slice (some ⟨g, 0, none⟩) n c) (hi : ρ ix = .int .i64 (i : Nat)) (h : i < n) : (execOp ρ ⟨d, .indexAddr 56 x ix, ty, pos, af, gd⟩).run Try.prog W = .ok (.value (.pointer (some ⟨g, i * 3, none⟩))) W := by
  have h1 := run_index_op (P := Try.prog) (ρ := ρ) (d := d) (ty := ty) (pos := pos) (af := af) (g := gd) (w := W) (size := 3) (i := i) (n := n) (c := c) (x := x) (ix := ix) Try.underlying56 (by kernel_rfl) hx hi h
  have e : (⟨g, 0, none⟩ : Addr).add (i * 3) = ⟨g, i * 3, none⟩ := by unfold Addr.add; split <;> simp_all
  rw [e] at h1
  exact h1
def opsIs6 : Array Oper := #[{ dst := some 37, op := Op.move (Operand.tmp 0), type := 56, pos := "zsortanyfunc.go:13", after := #[], guard := none }, { dst := some 38, op := Op.move (Operand.tmp 9), type := 3, pos := "zsortanyfunc.go:13", after := #[], guard := none }, { dst := some 39, op := Op.move (Operand.tmp 0), type := 56, pos := "zsortanyfunc.go:13", after := #[{ on := 15, ground := Ground.gcOnly Departure.lateStores }], guard := none }, { dst := some 40, op := Op.move (Operand.tmp 9), type := 3, pos := "zsortanyfunc.go:13", after := #[{ on := 15, ground := Ground.gcOnly Departure.lateStores }], guard := none }, { dst := some 41, op := Op.binOp BinOp.sub 3 (Operand.tmp 40) (Operand.const (Value.int IntKind.i64 1)) 3, type := 3, pos := "zsortanyfunc.go:13", after := #[{ on := 3, ground := Ground.data }, { on := 15, ground := Ground.gcOnly Departure.lateStores }], guard := none }, { dst := some 42, op := Op.move (Operand.tmp 0), type := 56, pos := "zsortanyfunc.go:13", after := #[], guard := none }, { dst := some 43, op := Op.move (Operand.tmp 9), type := 3, pos := "zsortanyfunc.go:13", after := #[], guard := none }, { dst := some 44, op := Op.binOp BinOp.sub 3 (Operand.tmp 43) (Operand.const (Value.int IntKind.i64 1)) 3, type := 3, pos := "zsortanyfunc.go:13", after := #[{ on := 6, ground := Ground.data }], guard := none }, { dst := some 45, op := Op.indexAddr 56 (Operand.tmp 42) (Operand.tmp 44), type := 0, pos := "zsortanyfunc.go:13", after := #[{ on := 5, ground := Ground.data }, { on := 7, ground := Ground.data }], guard := none }, { dst := some 46, op := Op.load 71 (Operand.tmp 45), type := 71, pos := "zsortanyfunc.go:13", after := #[{ on := 8, ground := Ground.data }], guard := none }, { dst := some 47, op := Op.move (Operand.tmp 0), type := 56, pos := "zsortanyfunc.go:13", after := #[], guard := none }, { dst := some 48, op := Op.move (Operand.tmp 9), type := 3, pos := "zsortanyfunc.go:13", after := #[], guard := none }, { dst := some 49, op := Op.indexAddr 56 (Operand.tmp 47) (Operand.tmp 48), type := 0, pos := "zsortanyfunc.go:13", after := #[{ on := 10, ground := Ground.data }, { on := 11, ground := Ground.data }], guard := none }, { dst := some 50, op := Op.load 71 (Operand.tmp 49), type := 71, pos := "zsortanyfunc.go:13", after := #[{ on := 12, ground := Ground.data }], guard := none }, { dst := some 51, op := Op.indexAddr 56 (Operand.tmp 37) (Operand.tmp 38), type := 0, pos := "zsortanyfunc.go:13", after := #[{ on := 0, ground := Ground.data }, { on := 1, ground := Ground.data }, { on := 0, ground := Ground.phase }, { on := 1, ground := Ground.phase }, { on := 2, ground := Ground.textOnly Departure.lateStores }, { on := 3, ground := Ground.textOnly Departure.lateStores }, { on := 4, ground := Ground.textOnly Departure.lateStores }, { on := 5, ground := Ground.phase }, { on := 6, ground := Ground.phase }, { on := 7, ground := Ground.phase }, { on := 8, ground := Ground.phase }, { on := 9, ground := Ground.phase }, { on := 10, ground := Ground.textOnly Departure.lateStores }, { on := 11, ground := Ground.textOnly Departure.lateStores }, { on := 12, ground := Ground.textOnly Departure.lateStoresUnsure }, { on := 13, ground := Ground.phase }], guard := none }, { dst := none, op := Op.store 71 (Operand.tmp 51) (Operand.tmp 46), type := 0, pos := "zsortanyfunc.go:13", after := #[{ on := 14, ground := Ground.data }, { on := 9, ground := Ground.data }, { on := 0, ground := Ground.phase }, { on := 1, ground := Ground.phase }, { on := 2, ground := Ground.textOnly Departure.lateStores }, { on := 3, ground := Ground.textOnly Departure.lateStores }, { on := 4, ground := Ground.textOnly Departure.lateStores }, { on := 5, ground := Ground.phase }, { on := 6, ground := Ground.phase }, { on := 7, ground := Ground.phase }, { on := 8, ground := Ground.phase }, { on := 9, ground := Ground.phase }, { on := 10, ground := Ground.textOnly Departure.lateStores }, { on := 11, ground := Ground.textOnly Departure.lateStores }, { on := 12, ground := Ground.textOnly Departure.lateStoresUnsure }, { on := 13, ground := Ground.phase }], guard := none }, { dst := some 52, op := Op.indexAddr 56 (Operand.tmp 39) (Operand.tmp 41), type := 0, pos := "zsortanyfunc.go:13", after := #[{ on := 2, ground := Ground.data }, { on := 4, ground := Ground.data }, { on := 0, ground := Ground.phase }, { on := 1, ground := Ground.phase }, { on := 2, ground := Ground.phase }, { on := 3, ground := Ground.phase }, { on := 4, ground := Ground.phase }, { on := 5, ground := Ground.phase }, { on := 6, ground := Ground.phase }, { on := 7, ground := Ground.phase }, { on := 8, ground := Ground.phase }, { on := 9, ground := Ground.phase }, { on := 10, ground := Ground.phase }, { on := 11, ground := Ground.phase }, { on := 12, ground := Ground.phase }, { on := 13, ground := Ground.phase }, { on := 14, ground := Ground.phase }, { on := 15, ground := Ground.phase }], guard := none }, { dst := none, op := Op.store 71 (Operand.tmp 52) (Operand.tmp 50), type := 0, pos := "zsortanyfunc.go:13", after := #[{ on := 16, ground := Ground.data }, { on := 13, ground := Ground.data }, { on := 15, ground := Ground.chain }, { on := 0, ground := Ground.phase }, { on := 1, ground := Ground.phase }, { on := 2, ground := Ground.phase }, { on := 3, ground := Ground.phase }, { on := 4, ground := Ground.phase }, { on := 5, ground := Ground.phase }, { on := 6, ground := Ground.phase }, { on := 7, ground := Ground.phase }, { on := 8, ground := Ground.phase }, { on := 9, ground := Ground.phase }, { on := 10, ground := Ground.phase }, { on := 11, ground := Ground.phase }, { on := 12, ground := Ground.phase }, { on := 13, ground := Ground.phase }, { on := 14, ground := Ground.phase }, { on := 15, ground := Ground.phase }], guard := none }]
theorem regIs6 {u1 u2 u3 u4 u5 u6 u7 u8 u10 u11 u12 u13 u14 u15 u16 u17 u18 u19 u20 u21 u22 u23 u24 u25 u26 u27 u28 u29 u30 u31 u32 u33 u34 u35 u36 u37 u38 u39 u40 u41 u42 u43 u44 u45 u46 u47 u48 u49 u50 u51 u52 : Value} {DD : List Deferred} {Q : Exit → Act → World → Prop} {w : World} {g N n c : Nat} {f : Nat → FM} {j : Nat} (hA : Arr w.drew g N n f) (hj : j + 1 < n) (hn : n ≤ 1099511627776)
    (hend : ∀ (w2 : World) (x37 x38 x39 x40 x41 x42 x43 x44 x45 x46 x47 x48 x49 x50 x51 x52 : Value) (_ : Arr w2 g N n (swp f (j + 1) (j))) (_ : But g w w2), Q .normal ⟨#[.slice (some ⟨g, 0, none⟩) n c, u1, u2, u3, u4, u5, u6, u7, u8, .int .i64 ((j + 1 : Nat) : Nat), u10, u11, u12, u13, u14, u15, u16, u17, u18, u19, u20, u21, u22, u23, u24, u25, u26, u27, u28, u29, u30, u31, u32, u33, u34, u35, u36, x37, x38, x39, x40, x41, x42, x43, x44, x45, x46, x47, x48, x49, x50, x51, x52], DD⟩ w2) :
    (Code.region 6 opsIs6 true).wp Try.prog Q ⟨#[.slice (some ⟨g, 0, none⟩) n c, u1, u2, u3, u4, u5, u6, u7, u8, .int .i64 ((j + 1 : Nat) : Nat), u10, u11, u12, u13, u14, u15, u16, u17, u18, u19, u20, u21, u22, u23, u24, u25, u26, u27, u28, u29, u30, u31, u32, u33, u34, u35, u36, u37, u38, u39, u40, u41, u42, u43, u44, u45, u46, u47, u48, u49, u50, u51, u52], DD⟩ w := by
  have hA0 := hA
  have hbt : But g w w.drew := ⟨rfl, rfl, rfl, Nat.le_refl _, fun _ _ _ => rfl⟩
  refine wp_region_noPanic ?_
  refine wp_region_held_drew (S := fun _ => True) (by kernel_rfl) trivial (fun _ => ?_)
  refine wpAnyH_take (i := 0) (oi := (⟨some 37, Op.move (Operand.tmp 0), 56, "zsortanyfunc.go:13", #[], none⟩)) (v := .slice (some ⟨g, 0, none⟩) n c) rfl (by kernel_rfl) (by kernel_rfl) (by kernel_rfl) (fun _ _ _ h => h) (Or.inl ⟨by kernel_rfl, fun _ _ => by kernel_rfl⟩) trivial ?_
  simp only [Act.put, List.setIfInBounds_toArray, List.set_cons_zero, List.set_cons_succ]
  refine wpAnyH_take (i := 1) (oi := (⟨some 38, Op.move (Operand.tmp 9), 3, "zsortanyfunc.go:13", #[], none⟩)) (v := .int .i64 ((j + 1 : Nat) : Nat)) rfl (by kernel_rfl) (by kernel_rfl) (by kernel_rfl) (fun _ _ _ h => h) (Or.inl ⟨by kernel_rfl, fun _ _ => by kernel_rfl⟩) trivial ?_
  simp only [Act.put, List.setIfInBounds_toArray, List.set_cons_zero, List.set_cons_succ]
  refine wpAnyH_take (i := 2) (oi := (⟨some 39, Op.move (Operand.tmp 0), 56, "zsortanyfunc.go:13", #[{ on := 15, ground := Ground.gcOnly Departure.lateStores }], none⟩)) (v := .slice (some ⟨g, 0, none⟩) n c) rfl (by kernel_rfl) (by kernel_rfl) (by kernel_rfl) (fun _ _ _ h => h) (Or.inl ⟨by kernel_rfl, fun _ _ => by kernel_rfl⟩) trivial ?_
  simp only [Act.put, List.setIfInBounds_toArray, List.set_cons_zero, List.set_cons_succ]
  refine wpAnyH_take (i := 3) (oi := (⟨some 40, Op.move (Operand.tmp 9), 3, "zsortanyfunc.go:13", #[{ on := 15, ground := Ground.gcOnly Departure.lateStores }], none⟩)) (v := .int .i64 ((j + 1 : Nat) : Nat)) rfl (by kernel_rfl) (by kernel_rfl) (by kernel_rfl) (fun _ _ _ h => h) (Or.inl ⟨by kernel_rfl, fun _ _ => by kernel_rfl⟩) trivial ?_
  simp only [Act.put, List.setIfInBounds_toArray, List.set_cons_zero, List.set_cons_succ]
  refine wpAnyH_take (i := 4) (oi := (⟨some 41, Op.binOp BinOp.sub 3 (Operand.tmp 40) (Operand.const (Value.int IntKind.i64 1)) 3, 3, "zsortanyfunc.go:13", #[{ on := 3, ground := Ground.data }, { on := 15, ground := Ground.gcOnly Departure.lateStores }], none⟩)) (v := .int .i64 (j : Nat)) rfl (by kernel_rfl) (by kernel_rfl) (by kernel_rfl) (fun _ _ _ h => h) (Or.inl ⟨by kernel_rfl, fun W _ => run_sub1_op (a := j) rfl rfl (by omega)⟩) trivial ?_
  simp only [Act.put, List.setIfInBounds_toArray, List.set_cons_zero, List.set_cons_succ]
  refine wpAnyH_take (i := 5) (oi := (⟨some 42, Op.move (Operand.tmp 0), 56, "zsortanyfunc.go:13", #[], none⟩)) (v := .slice (some ⟨g, 0, none⟩) n c) rfl (by kernel_rfl) (by kernel_rfl) (by kernel_rfl) (fun _ _ _ h => h) (Or.inl ⟨by kernel_rfl, fun _ _ => by kernel_rfl⟩) trivial ?_
  simp only [Act.put, List.setIfInBounds_toArray, List.set_cons_zero, List.set_cons_succ]
  refine wpAnyH_take (i := 6) (oi := (⟨some 43, Op.move (Operand.tmp 9), 3, "zsortanyfunc.go:13", #[], none⟩)) (v := .int .i64 ((j + 1 : Nat) : Nat)) rfl (by kernel_rfl) (by kernel_rfl) (by kernel_rfl) (fun _ _ _ h => h) (Or.inl ⟨by kernel_rfl, fun _ _ => by kernel_rfl⟩) trivial ?_
  simp only [Act.put, List.setIfInBounds_toArray, List.set_cons_zero, List.set_cons_succ]
  refine wpAnyH_take (i := 7) (oi := (⟨some 44, Op.binOp BinOp.sub 3 (Operand.tmp 43) (Operand.const (Value.int IntKind.i64 1)) 3, 3, "zsortanyfunc.go:13", #[{ on := 6, ground := Ground.data }], none⟩)) (v := .int .i64 (j : Nat)) rfl (by kernel_rfl) (by kernel_rfl) (by kernel_rfl) (fun _ _ _ h => h) (Or.inl ⟨by kernel_rfl, fun W _ => run_sub1_op (a := j) rfl rfl (by omega)⟩) trivial ?_
  simp only [Act.put, List.setIfInBounds_toArray, List.set_cons_zero, List.set_cons_succ]
  refine wpAnyH_take (i := 8) (oi := (⟨some 45, Op.indexAddr 56 (Operand.tmp 42) (Operand.tmp 44), 0, "zsortanyfunc.go:13", #[{ on := 5, ground := Ground.data }, { on := 7, ground := Ground.data }], none⟩)) (v := .pointer (some ⟨g, (j) * 3, none⟩)) rfl (by kernel_rfl) (by kernel_rfl) (by kernel_rfl) (fun _ _ _ h => h) (Or.inl ⟨by kernel_rfl, fun W _ => run_ixA (i := j) (n := n) (c := c) rfl rfl (by omega)⟩) trivial ?_
  simp only [Act.put, List.setIfInBounds_toArray, List.set_cons_zero, List.set_cons_succ]
  refine wpAnyH_take (i := 10) (oi := (⟨some 47, Op.move (Operand.tmp 0), 56, "zsortanyfunc.go:13", #[], none⟩)) (v := .slice (some ⟨g, 0, none⟩) n c) rfl (by kernel_rfl) (by kernel_rfl) (by kernel_rfl) (fun _ _ _ h => h) (Or.inl ⟨by kernel_rfl, fun _ _ => by kernel_rfl⟩) trivial ?_
  simp only [Act.put, List.setIfInBounds_toArray, List.set_cons_zero, List.set_cons_succ]
  refine wpAnyH_take (i := 11) (oi := (⟨some 48, Op.move (Operand.tmp 9), 3, "zsortanyfunc.go:13", #[], none⟩)) (v := .int .i64 ((j + 1 : Nat) : Nat)) rfl (by kernel_rfl) (by kernel_rfl) (by kernel_rfl) (fun _ _ _ h => h) (Or.inl ⟨by kernel_rfl, fun _ _ => by kernel_rfl⟩) trivial ?_
  simp only [Act.put, List.setIfInBounds_toArray, List.set_cons_zero, List.set_cons_succ]
  refine wpAnyH_take (i := 12) (oi := (⟨some 49, Op.indexAddr 56 (Operand.tmp 47) (Operand.tmp 48), 0, "zsortanyfunc.go:13", #[{ on := 10, ground := Ground.data }, { on := 11, ground := Ground.data }], none⟩)) (v := .pointer (some ⟨g, (j + 1) * 3, none⟩)) rfl (by kernel_rfl) (by kernel_rfl) (by kernel_rfl) (fun _ _ _ h => h) (Or.inl ⟨by kernel_rfl, fun W _ => run_ixA (i := j + 1) (n := n) (c := c) rfl rfl (by omega)⟩) trivial ?_
  simp only [Act.put, List.setIfInBounds_toArray, List.set_cons_zero, List.set_cons_succ]
  refine wpAnyH_ready (rs := [9, 13]) (by kernel_rfl) (by simp) ?_
  refine AllReadyH.cons (o := (⟨some 46, Op.load 71 (Operand.tmp 45), 71, "zsortanyfunc.go:13", #[{ on := 8, ground := Ground.data }], none⟩)) rfl ?_ (AllReadyH.cons (o := (⟨some 50, Op.load 71 (Operand.tmp 49), 71, "zsortanyfunc.go:13", #[{ on := 12, ground := Ground.data }], none⟩)) rfl ?_ (AllReadyH.nil))
  · skip
    refine next_op (v := (f (j)).val) (by kernel_rfl) (run_loadS_op (f (j)).cells (by kernel_rfl) (by kernel_rfl) rfl (hA.cells (j) (by omega))) trivial (fun _ => ?_)
    simp only [Act.put, List.setIfInBounds_toArray, List.set_cons_zero, List.set_cons_succ]
    refine wpAnyH_ready (rs := [13]) (by kernel_rfl) (by simp) ?_
    refine AllReadyH.cons (o := (⟨some 50, Op.load 71 (Operand.tmp 49), 71, "zsortanyfunc.go:13", #[{ on := 12, ground := Ground.data }], none⟩)) rfl ?_ (AllReadyH.nil)
    · skip
      refine next_op (v := (f (j + 1)).val) (by kernel_rfl) (run_loadS_op (f (j + 1)).cells (by kernel_rfl) (by kernel_rfl) rfl (hA.cells (j + 1) (by omega))) trivial (fun _ => ?_)
      simp only [Act.put, List.setIfInBounds_toArray, List.set_cons_zero, List.set_cons_succ]
      refine wpAnyH_take (i := 14) (oi := (⟨some 51, Op.indexAddr 56 (Operand.tmp 37) (Operand.tmp 38), 0, "zsortanyfunc.go:13", #[{ on := 0, ground := Ground.data }, { on := 1, ground := Ground.data }, { on := 0, ground := Ground.phase }, { on := 1, ground := Ground.phase }, { on := 2, ground := Ground.textOnly Departure.lateStores }, { on := 3, ground := Ground.textOnly Departure.lateStores }, { on := 4, ground := Ground.textOnly Departure.lateStores }, { on := 5, ground := Ground.phase }, { on := 6, ground := Ground.phase }, { on := 7, ground := Ground.phase }, { on := 8, ground := Ground.phase }, { on := 9, ground := Ground.phase }, { on := 10, ground := Ground.textOnly Departure.lateStores }, { on := 11, ground := Ground.textOnly Departure.lateStores }, { on := 12, ground := Ground.textOnly Departure.lateStoresUnsure }, { on := 13, ground := Ground.phase }], none⟩)) (v := .pointer (some ⟨g, (j + 1) * 3, none⟩)) rfl (by kernel_rfl) (by kernel_rfl) (by kernel_rfl) (fun _ _ _ h => h) (Or.inl ⟨by kernel_rfl, fun W _ => run_ixA (i := j + 1) (n := n) (c := c) rfl rfl (by omega)⟩) trivial ?_
      simp only [Act.put, List.setIfInBounds_toArray, List.set_cons_zero, List.set_cons_succ]
      refine wpAnyH_ready (rs := [15]) (by kernel_rfl) (by simp) ?_
      refine AllReadyH.cons (o := (⟨none, Op.store 71 (Operand.tmp 51) (Operand.tmp 46), 0, "zsortanyfunc.go:13", #[{ on := 14, ground := Ground.data }, { on := 9, ground := Ground.data }, { on := 0, ground := Ground.phase }, { on := 1, ground := Ground.phase }, { on := 2, ground := Ground.textOnly Departure.lateStores }, { on := 3, ground := Ground.textOnly Departure.lateStores }, { on := 4, ground := Ground.textOnly Departure.lateStores }, { on := 5, ground := Ground.phase }, { on := 6, ground := Ground.phase }, { on := 7, ground := Ground.phase }, { on := 8, ground := Ground.phase }, { on := 9, ground := Ground.phase }, { on := 10, ground := Ground.textOnly Departure.lateStores }, { on := 11, ground := Ground.textOnly Departure.lateStores }, { on := 12, ground := Ground.textOnly Departure.lateStoresUnsure }, { on := 13, ground := Ground.phase }], none⟩)) rfl ?_ (AllReadyH.nil)
      · skip
        have hput := hA.put (j + 1) (by omega) (f (j))
        refine next_skip (by kernel_rfl) (run_storeF_op (i := j + 1) (x := f (j)) hA (by omega) rfl rfl) trivial (fun _ => ?_)
        simp only [Act.put]
        have hA := hput.1
        have hbt := hbt.trans hput.2
        refine wpAnyH_take (i := 16) (oi := (⟨some 52, Op.indexAddr 56 (Operand.tmp 39) (Operand.tmp 41), 0, "zsortanyfunc.go:13", #[{ on := 2, ground := Ground.data }, { on := 4, ground := Ground.data }, { on := 0, ground := Ground.phase }, { on := 1, ground := Ground.phase }, { on := 2, ground := Ground.phase }, { on := 3, ground := Ground.phase }, { on := 4, ground := Ground.phase }, { on := 5, ground := Ground.phase }, { on := 6, ground := Ground.phase }, { on := 7, ground := Ground.phase }, { on := 8, ground := Ground.phase }, { on := 9, ground := Ground.phase }, { on := 10, ground := Ground.phase }, { on := 11, ground := Ground.phase }, { on := 12, ground := Ground.phase }, { on := 13, ground := Ground.phase }, { on := 14, ground := Ground.phase }, { on := 15, ground := Ground.phase }], none⟩)) (v := .pointer (some ⟨g, (j) * 3, none⟩)) rfl (by kernel_rfl) (by kernel_rfl) (by kernel_rfl) (fun _ _ _ h => h) (Or.inl ⟨by kernel_rfl, fun W _ => run_ixA (i := j) (n := n) (c := c) rfl rfl (by omega)⟩) trivial ?_
        simp only [Act.put, List.setIfInBounds_toArray, List.set_cons_zero, List.set_cons_succ]
        refine wpAnyH_ready (rs := [17]) (by kernel_rfl) (by simp) ?_
        refine AllReadyH.cons (o := (⟨none, Op.store 71 (Operand.tmp 52) (Operand.tmp 50), 0, "zsortanyfunc.go:13", #[{ on := 16, ground := Ground.data }, { on := 13, ground := Ground.data }, { on := 15, ground := Ground.chain }, { on := 0, ground := Ground.phase }, { on := 1, ground := Ground.phase }, { on := 2, ground := Ground.phase }, { on := 3, ground := Ground.phase }, { on := 4, ground := Ground.phase }, { on := 5, ground := Ground.phase }, { on := 6, ground := Ground.phase }, { on := 7, ground := Ground.phase }, { on := 8, ground := Ground.phase }, { on := 9, ground := Ground.phase }, { on := 10, ground := Ground.phase }, { on := 11, ground := Ground.phase }, { on := 12, ground := Ground.phase }, { on := 13, ground := Ground.phase }, { on := 14, ground := Ground.phase }, { on := 15, ground := Ground.phase }], none⟩)) rfl ?_ (AllReadyH.nil)
        · skip
          have hput := hA.put (j) (by omega) (f (j + 1))
          refine next_skip (by kernel_rfl) (run_storeF_op (i := j) (x := f (j + 1)) hA (by omega) rfl rfl) trivial (fun _ => ?_)
          simp only [Act.put]
          have hA := hput.1
          have hbt := hbt.trans hput.2
          refine wpAnyH_done (by kernel_rfl) ?_ _
          exact NoPanic.normal (hend ((((w.drew).setCells g ((j + 1) * 3) (f (j)).cells)).setCells g ((j) * 3) (f (j + 1)).cells) _ _ _ _ _ _ _ _ _ _ _ _ _ _ _ _ (upd_swp f (j + 1) (j) (by omega) ▸ hA) hbt)
  · skip
    refine next_op (v := (f (j + 1)).val) (by kernel_rfl) (run_loadS_op (f (j + 1)).cells (by kernel_rfl) (by kernel_rfl) rfl (hA.cells (j + 1) (by omega))) trivial (fun _ => ?_)
    simp only [Act.put, List.setIfInBounds_toArray, List.set_cons_zero, List.set_cons_succ]
    refine wpAnyH_ready (rs := [9]) (by kernel_rfl) (by simp) ?_
    refine AllReadyH.cons (o := (⟨some 46, Op.load 71 (Operand.tmp 45), 71, "zsortanyfunc.go:13", #[{ on := 8, ground := Ground.data }], none⟩)) rfl ?_ (AllReadyH.nil)
    · skip
      refine next_op (v := (f (j)).val) (by kernel_rfl) (run_loadS_op (f (j)).cells (by kernel_rfl) (by kernel_rfl) rfl (hA.cells (j) (by omega))) trivial (fun _ => ?_)
      simp only [Act.put, List.setIfInBounds_toArray, List.set_cons_zero, List.set_cons_succ]
      refine wpAnyH_take (i := 14) (oi := (⟨some 51, Op.indexAddr 56 (Operand.tmp 37) (Operand.tmp 38), 0, "zsortanyfunc.go:13", #[{ on := 0, ground := Ground.data }, { on := 1, ground := Ground.data }, { on := 0, ground := Ground.phase }, { on := 1, ground := Ground.phase }, { on := 2, ground := Ground.textOnly Departure.lateStores }, { on := 3, ground := Ground.textOnly Departure.lateStores }, { on := 4, ground := Ground.textOnly Departure.lateStores }, { on := 5, ground := Ground.phase }, { on := 6, ground := Ground.phase }, { on := 7, ground := Ground.phase }, { on := 8, ground := Ground.phase }, { on := 9, ground := Ground.phase }, { on := 10, ground := Ground.textOnly Departure.lateStores }, { on := 11, ground := Ground.textOnly Departure.lateStores }, { on := 12, ground := Ground.textOnly Departure.lateStoresUnsure }, { on := 13, ground := Ground.phase }], none⟩)) (v := .pointer (some ⟨g, (j + 1) * 3, none⟩)) rfl (by kernel_rfl) (by kernel_rfl) (by kernel_rfl) (fun _ _ _ h => h) (Or.inl ⟨by kernel_rfl, fun W _ => run_ixA (i := j + 1) (n := n) (c := c) rfl rfl (by omega)⟩) trivial ?_
      simp only [Act.put, List.setIfInBounds_toArray, List.set_cons_zero, List.set_cons_succ]
      refine wpAnyH_ready (rs := [15]) (by kernel_rfl) (by simp) ?_
      refine AllReadyH.cons (o := (⟨none, Op.store 71 (Operand.tmp 51) (Operand.tmp 46), 0, "zsortanyfunc.go:13", #[{ on := 14, ground := Ground.data }, { on := 9, ground := Ground.data }, { on := 0, ground := Ground.phase }, { on := 1, ground := Ground.phase }, { on := 2, ground := Ground.textOnly Departure.lateStores }, { on := 3, ground := Ground.textOnly Departure.lateStores }, { on := 4, ground := Ground.textOnly Departure.lateStores }, { on := 5, ground := Ground.phase }, { on := 6, ground := Ground.phase }, { on := 7, ground := Ground.phase }, { on := 8, ground := Ground.phase }, { on := 9, ground := Ground.phase }, { on := 10, ground := Ground.textOnly Departure.lateStores }, { on := 11, ground := Ground.textOnly Departure.lateStores }, { on := 12, ground := Ground.textOnly Departure.lateStoresUnsure }, { on := 13, ground := Ground.phase }], none⟩)) rfl ?_ (AllReadyH.nil)
      · skip
        have hput := hA.put (j + 1) (by omega) (f (j))
        refine next_skip (by kernel_rfl) (run_storeF_op (i := j + 1) (x := f (j)) hA (by omega) rfl rfl) trivial (fun _ => ?_)
        simp only [Act.put]
        have hA := hput.1
        have hbt := hbt.trans hput.2
        refine wpAnyH_take (i := 16) (oi := (⟨some 52, Op.indexAddr 56 (Operand.tmp 39) (Operand.tmp 41), 0, "zsortanyfunc.go:13", #[{ on := 2, ground := Ground.data }, { on := 4, ground := Ground.data }, { on := 0, ground := Ground.phase }, { on := 1, ground := Ground.phase }, { on := 2, ground := Ground.phase }, { on := 3, ground := Ground.phase }, { on := 4, ground := Ground.phase }, { on := 5, ground := Ground.phase }, { on := 6, ground := Ground.phase }, { on := 7, ground := Ground.phase }, { on := 8, ground := Ground.phase }, { on := 9, ground := Ground.phase }, { on := 10, ground := Ground.phase }, { on := 11, ground := Ground.phase }, { on := 12, ground := Ground.phase }, { on := 13, ground := Ground.phase }, { on := 14, ground := Ground.phase }, { on := 15, ground := Ground.phase }], none⟩)) (v := .pointer (some ⟨g, (j) * 3, none⟩)) rfl (by kernel_rfl) (by kernel_rfl) (by kernel_rfl) (fun _ _ _ h => h) (Or.inl ⟨by kernel_rfl, fun W _ => run_ixA (i := j) (n := n) (c := c) rfl rfl (by omega)⟩) trivial ?_
        simp only [Act.put, List.setIfInBounds_toArray, List.set_cons_zero, List.set_cons_succ]
        refine wpAnyH_ready (rs := [17]) (by kernel_rfl) (by simp) ?_
        refine AllReadyH.cons (o := (⟨none, Op.store 71 (Operand.tmp 52) (Operand.tmp 50), 0, "zsortanyfunc.go:13", #[{ on := 16, ground := Ground.data }, { on := 13, ground := Ground.data }, { on := 15, ground := Ground.chain }, { on := 0, ground := Ground.phase }, { on := 1, ground := Ground.phase }, { on := 2, ground := Ground.phase }, { on := 3, ground := Ground.phase }, { on := 4, ground := Ground.phase }, { on := 5, ground := Ground.phase }, { on := 6, ground := Ground.phase }, { on := 7, ground := Ground.phase }, { on := 8, ground := Ground.phase }, { on := 9, ground := Ground.phase }, { on := 10, ground := Ground.phase }, { on := 11, ground := Ground.phase }, { on := 12, ground := Ground.phase }, { on := 13, ground := Ground.phase }, { on := 14, ground := Ground.phase }, { on := 15, ground := Ground.phase }], none⟩)) rfl ?_ (AllReadyH.nil)
        · skip
          have hput := hA.put (j) (by omega) (f (j + 1))
          refine next_skip (by kernel_rfl) (run_storeF_op (i := j) (x := f (j + 1)) hA (by omega) rfl rfl) trivial (fun _ => ?_)
          simp only [Act.put]
          have hA := hput.1
          have hbt := hbt.trans hput.2
          refine wpAnyH_done (by kernel_rfl) ?_ _
          exact NoPanic.normal (hend ((((w.drew).setCells g ((j + 1) * 3) (f (j)).cells)).setCells g ((j) * 3) (f (j + 1)).cells) _ _ _ _ _ _ _ _ _ _ _ _ _ _ _ _ (upd_swp f (j + 1) (j) (by omega) ▸ hA) hbt)
def opsSr3 : Array Oper := #[{ dst := some 16, op := Op.move (Operand.tmp 0), type := 56, pos := "zsortanyfunc.go:331", after := #[], guard := none }, { dst := some 17, op := Op.move (Operand.tmp 1), type := 3, pos := "zsortanyfunc.go:331", after := #[], guard := none }, { dst := some 18, op := Op.move (Operand.tmp 10), type := 3, pos := "zsortanyfunc.go:331", after := #[], guard := none }, { dst := some 19, op := Op.binOp BinOp.add 3 (Operand.tmp 17) (Operand.tmp 18) 3, type := 3, pos := "zsortanyfunc.go:331", after := #[{ on := 1, ground := Ground.data }, { on := 2, ground := Ground.data }], guard := none }, { dst := some 20, op := Op.move (Operand.tmp 0), type := 56, pos := "zsortanyfunc.go:331", after := #[{ on := 21, ground := Ground.gcOnly Departure.lateStores }], guard := none }, { dst := some 21, op := Op.move (Operand.tmp 2), type := 3, pos := "zsortanyfunc.go:331", after := #[{ on := 21, ground := Ground.gcOnly Departure.lateStores }], guard := none }, { dst := some 22, op := Op.move (Operand.tmp 10), type := 3, pos := "zsortanyfunc.go:331", after := #[{ on := 21, ground := Ground.gcOnly Departure.lateStores }], guard := none }, { dst := some 23, op := Op.binOp BinOp.add 3 (Operand.tmp 21) (Operand.tmp 22) 3, type := 3, pos := "zsortanyfunc.go:331", after := #[{ on := 5, ground := Ground.data }, { on := 6, ground := Ground.data }, { on := 21, ground := Ground.gcOnly Departure.lateStores }], guard := none }, { dst := some 24, op := Op.move (Operand.tmp 0), type := 56, pos := "zsortanyfunc.go:331", after := #[], guard := none }, { dst := some 25, op := Op.move (Operand.tmp 2), type := 3, pos := "zsortanyfunc.go:331", after := #[], guard := none }, { dst := some 26, op := Op.move (Operand.tmp 10), type := 3, pos := "zsortanyfunc.go:331", after := #[], guard := none }, { dst := some 27, op := Op.binOp BinOp.add 3 (Operand.tmp 25) (Operand.tmp 26) 3, type := 3, pos := "zsortanyfunc.go:331", after := #[{ on := 9, ground := Ground.data }, { on := 10, ground := Ground.data }], guard := none }, { dst := some 28, op := Op.indexAddr 56 (Operand.tmp 24) (Operand.tmp 27), type := 0, pos := "zsortanyfunc.go:331", after := #[{ on := 8, ground := Ground.data }, { on := 11, ground := Ground.data }], guard := none }, { dst := some 29, op := Op.load 71 (Operand.tmp 28), type := 71, pos := "zsortanyfunc.go:331", after := #[{ on := 12, ground := Ground.data }], guard := none }, { dst := some 30, op := Op.move (Operand.tmp 0), type := 56, pos := "zsortanyfunc.go:331", after := #[], guard := none }, { dst := some 31, op := Op.move (Operand.tmp 1), type := 3, pos := "zsortanyfunc.go:331", after := #[], guard := none }, { dst := some 32, op := Op.move (Operand.tmp 10), type := 3, pos := "zsortanyfunc.go:331", after := #[], guard := none }, { dst := some 33, op := Op.binOp BinOp.add 3 (Operand.tmp 31) (Operand.tmp 32) 3, type := 3, pos := "zsortanyfunc.go:331", after := #[{ on := 15, ground := Ground.data }, { on := 16, ground := Ground.data }], guard := none }, { dst := some 34, op := Op.indexAddr 56 (Operand.tmp 30) (Operand.tmp 33), type := 0, pos := "zsortanyfunc.go:331", after := #[{ on := 14, ground := Ground.data }, { on := 17, ground := Ground.data }], guard := none }, { dst := some 35, op := Op.load 71 (Operand.tmp 34), type := 71, pos := "zsortanyfunc.go:331", after := #[{ on := 18, ground := Ground.data }], guard := none }, { dst := some 36, op := Op.indexAddr 56 (Operand.tmp 16) (Operand.tmp 19), type := 0, pos := "zsortanyfunc.go:331", after := #[{ on := 0, ground := Ground.data }, { on := 3, ground := Ground.data }, { on := 0, ground := Ground.phase }, { on := 1, ground := Ground.phase }, { on := 2, ground := Ground.phase }, { on := 3, ground := Ground.phase }, { on := 4, ground := Ground.textOnly Departure.lateStores }, { on := 5, ground := Ground.textOnly Departure.lateStores }, { on := 6, ground := Ground.textOnly Departure.lateStores }, { on := 7, ground := Ground.textOnly Departure.lateStores }, { on := 8, ground := Ground.phase }, { on := 9, ground := Ground.phase }, { on := 10, ground := Ground.phase }, { on := 11, ground := Ground.phase }, { on := 12, ground := Ground.phase }, { on := 13, ground := Ground.phase }, { on := 14, ground := Ground.textOnly Departure.lateStores }, { on := 15, ground := Ground.textOnly Departure.lateStores }, { on := 16, ground := Ground.textOnly Departure.lateStores }, { on := 17, ground := Ground.textOnly Departure.lateStores }, { on := 18, ground := Ground.textOnly Departure.lateStoresUnsure }, { on := 19, ground := Ground.phase }], guard := none }, { dst := none, op := Op.store 71 (Operand.tmp 36) (Operand.tmp 29), type := 0, pos := "zsortanyfunc.go:331", after := #[{ on := 20, ground := Ground.data }, { on := 13, ground := Ground.data }, { on := 0, ground := Ground.phase }, { on := 1, ground := Ground.phase }, { on := 2, ground := Ground.phase }, { on := 3, ground := Ground.phase }, { on := 4, ground := Ground.textOnly Departure.lateStores }, { on := 5, ground := Ground.textOnly Departure.lateStores }, { on := 6, ground := Ground.textOnly Departure.lateStores }, { on := 7, ground := Ground.textOnly Departure.lateStores }, { on := 8, ground := Ground.phase }, { on := 9, ground := Ground.phase }, { on := 10, ground := Ground.phase }, { on := 11, ground := Ground.phase }, { on := 12, ground := Ground.phase }, { on := 13, ground := Ground.phase }, { on := 14, ground := Ground.textOnly Departure.lateStores }, { on := 15, ground := Ground.textOnly Departure.lateStores }, { on := 16, ground := Ground.textOnly Departure.lateStores }, { on := 17, ground := Ground.textOnly Departure.lateStores }, { on := 18, ground := Ground.textOnly Departure.lateStoresUnsure }, { on := 19, ground := Ground.phase }], guard := none }, { dst := some 37, op := Op.indexAddr 56 (Operand.tmp 20) (Operand.tmp 23), type := 0, pos := "zsortanyfunc.go:331", after := #[{ on := 4, ground := Ground.data }, { on := 7, ground := Ground.data }, { on := 0, ground := Ground.phase }, { on := 1, ground := Ground.phase }, { on := 2, ground := Ground.phase }, { on := 3, ground := Ground.phase }, { on := 4, ground := Ground.phase }, { on := 5, ground := Ground.phase }, { on := 6, ground := Ground.phase }, { on := 7, ground := Ground.phase }, { on := 8, ground := Ground.phase }, { on := 9, ground := Ground.phase }, { on := 10, ground := Ground.phase }, { on := 11, ground := Ground.phase }, { on := 12, ground := Ground.phase }, { on := 13, ground := Ground.phase }, { on := 14, ground := Ground.phase }, { on := 15, ground := Ground.phase }, { on := 16, ground := Ground.phase }, { on := 17, ground := Ground.phase }, { on := 18, ground := Ground.phase }, { on := 19, ground := Ground.phase }, { on := 20, ground := Ground.phase }, { on := 21, ground := Ground.phase }], guard := none }, { dst := none, op := Op.store 71 (Operand.tmp 37) (Operand.tmp 35), type := 0, pos := "zsortanyfunc.go:331", after := #[{ on := 22, ground := Ground.data }, { on := 19, ground := Ground.data }, { on := 21, ground := Ground.chain }, { on := 0, ground := Ground.phase }, { on := 1, ground := Ground.phase }, { on := 2, ground := Ground.phase }, { on := 3, ground := Ground.phase }, { on := 4, ground := Ground.phase }, { on := 5, ground := Ground.phase }, { on := 6, ground := Ground.phase }, { on := 7, ground := Ground.phase }, { on := 8, ground := Ground.phase }, { on := 9, ground := Ground.phase }, { on := 10, ground := Ground.phase }, { on := 11, ground := Ground.phase }, { on := 12, ground := Ground.phase }, { on := 13, ground := Ground.phase }, { on := 14, ground := Ground.phase }, { on := 15, ground := Ground.phase }, { on := 16, ground := Ground.phase }, { on := 17, ground := Ground.phase }, { on := 18, ground := Ground.phase }, { on := 19, ground := Ground.phase }, { on := 20, ground := Ground.phase }, { on := 21, ground := Ground.phase }], guard := none }]
theorem regSr3 {u3 u4 u5 u6 u7 u8 u9 u11 u12 u13 u14 u15 u16 u17 u18 u19 u20 u21 u22 u23 u24 u25 u26 u27 u28 u29 u30 u31 u32 u33 u34 u35 u36 u37 : Value} {DD : List Deferred} {Q : Exit → Act → World → Prop} {w : World} {g N n c : Nat} {f : Nat → FM} {x y k : Nat} (hA : Arr w.drew g N n f) (hx : x + k < n) (hy : y + k < n) (hxy : x ≠ y) (hn : n ≤ 1099511627776)
    (hend : ∀ (w2 : World) (x16 x17 x18 x19 x20 x21 x22 x23 x24 x25 x26 x27 x28 x29 x30 x31 x32 x33 x34 x35 x36 x37 : Value) (_ : Arr w2 g N n (swp f (x + k) (y + k))) (_ : But g w w2), Q .normal ⟨#[.slice (some ⟨g, 0, none⟩) n c, .int .i64 (x : Nat), .int .i64 (y : Nat), u3, u4, u5, u6, u7, u8, u9, .int .i64 (k : Nat), u11, u12, u13, u14, u15, x16, x17, x18, x19, x20, x21, x22, x23, x24, x25, x26, x27, x28, x29, x30, x31, x32, x33, x34, x35, x36, x37], DD⟩ w2) :
    (Code.region 3 opsSr3 true).wp Try.prog Q ⟨#[.slice (some ⟨g, 0, none⟩) n c, .int .i64 (x : Nat), .int .i64 (y : Nat), u3, u4, u5, u6, u7, u8, u9, .int .i64 (k : Nat), u11, u12, u13, u14, u15, u16, u17, u18, u19, u20, u21, u22, u23, u24, u25, u26, u27, u28, u29, u30, u31, u32, u33, u34, u35, u36, u37], DD⟩ w := by
  have hA0 := hA
  have hbt : But g w w.drew := ⟨rfl, rfl, rfl, Nat.le_refl _, fun _ _ _ => rfl⟩
  refine wp_region_noPanic ?_
  refine wp_region_held_drew (S := fun _ => True) (by kernel_rfl) trivial (fun _ => ?_)
  refine wpAnyH_take (i := 0) (oi := (⟨some 16, Op.move (Operand.tmp 0), 56, "zsortanyfunc.go:331", #[], none⟩)) (v := .slice (some ⟨g, 0, none⟩) n c) rfl (by kernel_rfl) (by kernel_rfl) (by kernel_rfl) (fun _ _ _ h => h) (Or.inl ⟨by kernel_rfl, fun _ _ => by kernel_rfl⟩) trivial ?_
  simp only [Act.put, List.setIfInBounds_toArray, List.set_cons_zero, List.set_cons_succ]
  refine wpAnyH_take (i := 1) (oi := (⟨some 17, Op.move (Operand.tmp 1), 3, "zsortanyfunc.go:331", #[], none⟩)) (v := .int .i64 (x : Nat)) rfl (by kernel_rfl) (by kernel_rfl) (by kernel_rfl) (fun _ _ _ h => h) (Or.inl ⟨by kernel_rfl, fun _ _ => by kernel_rfl⟩) trivial ?_
  simp only [Act.put, List.setIfInBounds_toArray, List.set_cons_zero, List.set_cons_succ]
  refine wpAnyH_take (i := 2) (oi := (⟨some 18, Op.move (Operand.tmp 10), 3, "zsortanyfunc.go:331", #[], none⟩)) (v := .int .i64 (k : Nat)) rfl (by kernel_rfl) (by kernel_rfl) (by kernel_rfl) (fun _ _ _ h => h) (Or.inl ⟨by kernel_rfl, fun _ _ => by kernel_rfl⟩) trivial ?_
  simp only [Act.put, List.setIfInBounds_toArray, List.set_cons_zero, List.set_cons_succ]
  refine wpAnyH_take (i := 3) (oi := (⟨some 19, Op.binOp BinOp.add 3 (Operand.tmp 17) (Operand.tmp 18) 3, 3, "zsortanyfunc.go:331", #[{ on := 1, ground := Ground.data }, { on := 2, ground := Ground.data }], none⟩)) (v := .int .i64 ((x + k : Nat) : Nat)) rfl (by kernel_rfl) (by kernel_rfl) (by kernel_rfl) (fun _ _ _ h => h) (Or.inl ⟨by kernel_rfl, fun W _ => run_add_nat (a := x) (b := k) rfl rfl (by omega)⟩) trivial ?_
  simp only [Act.put, List.setIfInBounds_toArray, List.set_cons_zero, List.set_cons_succ]
  refine wpAnyH_take (i := 4) (oi := (⟨some 20, Op.move (Operand.tmp 0), 56, "zsortanyfunc.go:331", #[{ on := 21, ground := Ground.gcOnly Departure.lateStores }], none⟩)) (v := .slice (some ⟨g, 0, none⟩) n c) rfl (by kernel_rfl) (by kernel_rfl) (by kernel_rfl) (fun _ _ _ h => h) (Or.inl ⟨by kernel_rfl, fun _ _ => by kernel_rfl⟩) trivial ?_
  simp only [Act.put, List.setIfInBounds_toArray, List.set_cons_zero, List.set_cons_succ]
  refine wpAnyH_take (i := 5) (oi := (⟨some 21, Op.move (Operand.tmp 2), 3, "zsortanyfunc.go:331", #[{ on := 21, ground := Ground.gcOnly Departure.lateStores }], none⟩)) (v := .int .i64 (y : Nat)) rfl (by kernel_rfl) (by kernel_rfl) (by kernel_rfl) (fun _ _ _ h => h) (Or.inl ⟨by kernel_rfl, fun _ _ => by kernel_rfl⟩) trivial ?_
  simp only [Act.put, List.setIfInBounds_toArray, List.set_cons_zero, List.set_cons_succ]
  refine wpAnyH_take (i := 6) (oi := (⟨some 22, Op.move (Operand.tmp 10), 3, "zsortanyfunc.go:331", #[{ on := 21, ground := Ground.gcOnly Departure.lateStores }], none⟩)) (v := .int .i64 (k : Nat)) rfl (by kernel_rfl) (by kernel_rfl) (by kernel_rfl) (fun _ _ _ h => h) (Or.inl ⟨by kernel_rfl, fun _ _ => by kernel_rfl⟩) trivial ?_
  simp only [Act.put, List.setIfInBounds_toArray, List.set_cons_zero, List.set_cons_succ]
  refine wpAnyH_take (i := 7) (oi := (⟨some 23, Op.binOp BinOp.add 3 (Operand.tmp 21) (Operand.tmp 22) 3, 3, "zsortanyfunc.go:331", #[{ on := 5, ground := Ground.data }, { on := 6, ground := Ground.data }, { on := 21, ground := Ground.gcOnly Departure.lateStores }], none⟩)) (v := .int .i64 ((y + k : Nat) : Nat)) rfl (by kernel_rfl) (by kernel_rfl) (by kernel_rfl) (fun _ _ _ h => h) (Or.inl ⟨by kernel_rfl, fun W _ => run_add_nat (a := y) (b := k) rfl rfl (by omega)⟩) trivial ?_
  simp only [Act.put, List.setIfInBounds_toArray, List.set_cons_zero, List.set_cons_succ]
  refine wpAnyH_take (i := 8) (oi := (⟨some 24, Op.move (Operand.tmp 0), 56, "zsortanyfunc.go:331", #[], none⟩)) (v := .slice (some ⟨g, 0, none⟩) n c) rfl (by kernel_rfl) (by kernel_rfl) (by kernel_rfl) (fun _ _ _ h => h) (Or.inl ⟨by kernel_rfl, fun _ _ => by kernel_rfl⟩) trivial ?_
  simp only [Act.put, List.setIfInBounds_toArray, List.set_cons_zero, List.set_cons_succ]
  refine wpAnyH_take (i := 9) (oi := (⟨some 25, Op.move (Operand.tmp 2), 3, "zsortanyfunc.go:331", #[], none⟩)) (v := .int .i64 (y : Nat)) rfl (by kernel_rfl) (by kernel_rfl) (by kernel_rfl) (fun _ _ _ h => h) (Or.inl ⟨by kernel_rfl, fun _ _ => by kernel_rfl⟩) trivial ?_
  simp only [Act.put, List.setIfInBounds_toArray, List.set_cons_zero, List.set_cons_succ]
  refine wpAnyH_take (i := 10) (oi := (⟨some 26, Op.move (Operand.tmp 10), 3, "zsortanyfunc.go:331", #[], none⟩)) (v := .int .i64 (k : Nat)) rfl (by kernel_rfl) (by kernel_rfl) (by kernel_rfl) (fun _ _ _ h => h) (Or.inl ⟨by kernel_rfl, fun _ _ => by kernel_rfl⟩) trivial ?_
  simp only [Act.put, List.setIfInBounds_toArray, List.set_cons_zero, List.set_cons_succ]
  refine wpAnyH_take (i := 11) (oi := (⟨some 27, Op.binOp BinOp.add 3 (Operand.tmp 25) (Operand.tmp 26) 3, 3, "zsortanyfunc.go:331", #[{ on := 9, ground := Ground.data }, { on := 10, ground := Ground.data }], none⟩)) (v := .int .i64 ((y + k : Nat) : Nat)) rfl (by kernel_rfl) (by kernel_rfl) (by kernel_rfl) (fun _ _ _ h => h) (Or.inl ⟨by kernel_rfl, fun W _ => run_add_nat (a := y) (b := k) rfl rfl (by omega)⟩) trivial ?_
  simp only [Act.put, List.setIfInBounds_toArray, List.set_cons_zero, List.set_cons_succ]
  refine wpAnyH_take (i := 12) (oi := (⟨some 28, Op.indexAddr 56 (Operand.tmp 24) (Operand.tmp 27), 0, "zsortanyfunc.go:331", #[{ on := 8, ground := Ground.data }, { on := 11, ground := Ground.data }], none⟩)) (v := .pointer (some ⟨g, (y + k) * 3, none⟩)) rfl (by kernel_rfl) (by kernel_rfl) (by kernel_rfl) (fun _ _ _ h => h) (Or.inl ⟨by kernel_rfl, fun W _ => run_ixA (i := y + k) (n := n) (c := c) rfl rfl (by omega)⟩) trivial ?_
  simp only [Act.put, List.setIfInBounds_toArray, List.set_cons_zero, List.set_cons_succ]
  refine wpAnyH_take (i := 14) (oi := (⟨some 30, Op.move (Operand.tmp 0), 56, "zsortanyfunc.go:331", #[], none⟩)) (v := .slice (some ⟨g, 0, none⟩) n c) rfl (by kernel_rfl) (by kernel_rfl) (by kernel_rfl) (fun _ _ _ h => h) (Or.inl ⟨by kernel_rfl, fun _ _ => by kernel_rfl⟩) trivial ?_
  simp only [Act.put, List.setIfInBounds_toArray, List.set_cons_zero, List.set_cons_succ]
  refine wpAnyH_take (i := 15) (oi := (⟨some 31, Op.move (Operand.tmp 1), 3, "zsortanyfunc.go:331", #[], none⟩)) (v := .int .i64 (x : Nat)) rfl (by kernel_rfl) (by kernel_rfl) (by kernel_rfl) (fun _ _ _ h => h) (Or.inl ⟨by kernel_rfl, fun _ _ => by kernel_rfl⟩) trivial ?_
  simp only [Act.put, List.setIfInBounds_toArray, List.set_cons_zero, List.set_cons_succ]
  refine wpAnyH_take (i := 16) (oi := (⟨some 32, Op.move (Operand.tmp 10), 3, "zsortanyfunc.go:331", #[], none⟩)) (v := .int .i64 (k : Nat)) rfl (by kernel_rfl) (by kernel_rfl) (by kernel_rfl) (fun _ _ _ h => h) (Or.inl ⟨by kernel_rfl, fun _ _ => by kernel_rfl⟩) trivial ?_
  simp only [Act.put, List.setIfInBounds_toArray, List.set_cons_zero, List.set_cons_succ]
  refine wpAnyH_take (i := 17) (oi := (⟨some 33, Op.binOp BinOp.add 3 (Operand.tmp 31) (Operand.tmp 32) 3, 3, "zsortanyfunc.go:331", #[{ on := 15, ground := Ground.data }, { on := 16, ground := Ground.data }], none⟩)) (v := .int .i64 ((x + k : Nat) : Nat)) rfl (by kernel_rfl) (by kernel_rfl) (by kernel_rfl) (fun _ _ _ h => h) (Or.inl ⟨by kernel_rfl, fun W _ => run_add_nat (a := x) (b := k) rfl rfl (by omega)⟩) trivial ?_
  simp only [Act.put, List.setIfInBounds_toArray, List.set_cons_zero, List.set_cons_succ]
  refine wpAnyH_take (i := 18) (oi := (⟨some 34, Op.indexAddr 56 (Operand.tmp 30) (Operand.tmp 33), 0, "zsortanyfunc.go:331", #[{ on := 14, ground := Ground.data }, { on := 17, ground := Ground.data }], none⟩)) (v := .pointer (some ⟨g, (x + k) * 3, none⟩)) rfl (by kernel_rfl) (by kernel_rfl) (by kernel_rfl) (fun _ _ _ h => h) (Or.inl ⟨by kernel_rfl, fun W _ => run_ixA (i := x + k) (n := n) (c := c) rfl rfl (by omega)⟩) trivial ?_
  simp only [Act.put, List.setIfInBounds_toArray, List.set_cons_zero, List.set_cons_succ]
  refine wpAnyH_ready (rs := [13, 19]) (by kernel_rfl) (by simp) ?_
  refine AllReadyH.cons (o := (⟨some 29, Op.load 71 (Operand.tmp 28), 71, "zsortanyfunc.go:331", #[{ on := 12, ground := Ground.data }], none⟩)) rfl ?_ (AllReadyH.cons (o := (⟨some 35, Op.load 71 (Operand.tmp 34), 71, "zsortanyfunc.go:331", #[{ on := 18, ground := Ground.data }], none⟩)) rfl ?_ (AllReadyH.nil))
  · skip
    refine next_op (v := (f (y + k)).val) (by kernel_rfl) (run_loadS_op (f (y + k)).cells (by kernel_rfl) (by kernel_rfl) rfl (hA.cells (y + k) (by omega))) trivial (fun _ => ?_)
    simp only [Act.put, List.setIfInBounds_toArray, List.set_cons_zero, List.set_cons_succ]
    refine wpAnyH_ready (rs := [19]) (by kernel_rfl) (by simp) ?_
    refine AllReadyH.cons (o := (⟨some 35, Op.load 71 (Operand.tmp 34), 71, "zsortanyfunc.go:331", #[{ on := 18, ground := Ground.data }], none⟩)) rfl ?_ (AllReadyH.nil)
    · skip
      refine next_op (v := (f (x + k)).val) (by kernel_rfl) (run_loadS_op (f (x + k)).cells (by kernel_rfl) (by kernel_rfl) rfl (hA.cells (x + k) (by omega))) trivial (fun _ => ?_)
      simp only [Act.put, List.setIfInBounds_toArray, List.set_cons_zero, List.set_cons_succ]
      refine wpAnyH_take (i := 20) (oi := (⟨some 36, Op.indexAddr 56 (Operand.tmp 16) (Operand.tmp 19), 0, "zsortanyfunc.go:331", #[{ on := 0, ground := Ground.data }, { on := 3, ground := Ground.data }, { on := 0, ground := Ground.phase }, { on := 1, ground := Ground.phase }, { on := 2, ground := Ground.phase }, { on := 3, ground := Ground.phase }, { on := 4, ground := Ground.textOnly Departure.lateStores }, { on := 5, ground := Ground.textOnly Departure.lateStores }, { on := 6, ground := Ground.textOnly Departure.lateStores }, { on := 7, ground := Ground.textOnly Departure.lateStores }, { on := 8, ground := Ground.phase }, { on := 9, ground := Ground.phase }, { on := 10, ground := Ground.phase }, { on := 11, ground := Ground.phase }, { on := 12, ground := Ground.phase }, { on := 13, ground := Ground.phase }, { on := 14, ground := Ground.textOnly Departure.lateStores }, { on := 15, ground := Ground.textOnly Departure.lateStores }, { on := 16, ground := Ground.textOnly Departure.lateStores }, { on := 17, ground := Ground.textOnly Departure.lateStores }, { on := 18, ground := Ground.textOnly Departure.lateStoresUnsure }, { on := 19, ground := Ground.phase }], none⟩)) (v := .pointer (some ⟨g, (x + k) * 3, none⟩)) rfl (by kernel_rfl) (by kernel_rfl) (by kernel_rfl) (fun _ _ _ h => h) (Or.inl ⟨by kernel_rfl, fun W _ => run_ixA (i := x + k) (n := n) (c := c) rfl rfl (by omega)⟩) trivial ?_
      simp only [Act.put, List.setIfInBounds_toArray, List.set_cons_zero, List.set_cons_succ]
      refine wpAnyH_ready (rs := [21]) (by kernel_rfl) (by simp) ?_
      refine AllReadyH.cons (o := (⟨none, Op.store 71 (Operand.tmp 36) (Operand.tmp 29), 0, "zsortanyfunc.go:331", #[{ on := 20, ground := Ground.data }, { on := 13, ground := Ground.data }, { on := 0, ground := Ground.phase }, { on := 1, ground := Ground.phase }, { on := 2, ground := Ground.phase }, { on := 3, ground := Ground.phase }, { on := 4, ground := Ground.textOnly Departure.lateStores }, { on := 5, ground := Ground.textOnly Departure.lateStores }, { on := 6, ground := Ground.textOnly Departure.lateStores }, { on := 7, ground := Ground.textOnly Departure.lateStores }, { on := 8, ground := Ground.phase }, { on := 9, ground := Ground.phase }, { on := 10, ground := Ground.phase }, { on := 11, ground := Ground.phase }, { on := 12, ground := Ground.phase }, { on := 13, ground := Ground.phase }, { on := 14, ground := Ground.textOnly Departure.lateStores }, { on := 15, ground := Ground.textOnly Departure.lateStores }, { on := 16, ground := Ground.textOnly Departure.lateStores }, { on := 17, ground := Ground.textOnly Departure.lateStores }, { on := 18, ground := Ground.textOnly Departure.lateStoresUnsure }, { on := 19, ground := Ground.phase }], none⟩)) rfl ?_ (AllReadyH.nil)
      · skip
        have hput := hA.put (x + k) (by omega) (f (y + k))
        refine next_skip (by kernel_rfl) (run_storeF_op (i := x + k) (x := f (y + k)) hA (by omega) rfl rfl) trivial (fun _ => ?_)
        simp only [Act.put]
        have hA := hput.1
        have hbt := hbt.trans hput.2
        refine wpAnyH_take (i := 22) (oi := (⟨some 37, Op.indexAddr 56 (Operand.tmp 20) (Operand.tmp 23), 0, "zsortanyfunc.go:331", #[{ on := 4, ground := Ground.data }, { on := 7, ground := Ground.data }, { on := 0, ground := Ground.phase }, { on := 1, ground := Ground.phase }, { on := 2, ground := Ground.phase }, { on := 3, ground := Ground.phase }, { on := 4, ground := Ground.phase }, { on := 5, ground := Ground.phase }, { on := 6, ground := Ground.phase }, { on := 7, ground := Ground.phase }, { on := 8, ground := Ground.phase }, { on := 9, ground := Ground.phase }, { on := 10, ground := Ground.phase }, { on := 11, ground := Ground.phase }, { on := 12, ground := Ground.phase }, { on := 13, ground := Ground.phase }, { on := 14, ground := Ground.phase }, { on := 15, ground := Ground.phase }, { on := 16, ground := Ground.phase }, { on := 17, ground := Ground.phase }, { on := 18, ground := Ground.phase }, { on := 19, ground := Ground.phase }, { on := 20, ground := Ground.phase }, { on := 21, ground := Ground.phase }], none⟩)) (v := .pointer (some ⟨g, (y + k) * 3, none⟩)) rfl (by kernel_rfl) (by kernel_rfl) (by kernel_rfl) (fun _ _ _ h => h) (Or.inl ⟨by kernel_rfl, fun W _ => run_ixA (i := y + k) (n := n) (c := c) rfl rfl (by omega)⟩) trivial ?_
        simp only [Act.put, List.setIfInBounds_toArray, List.set_cons_zero, List.set_cons_succ]
        refine wpAnyH_ready (rs := [23]) (by kernel_rfl) (by simp) ?_
        refine AllReadyH.cons (o := (⟨none, Op.store 71 (Operand.tmp 37) (Operand.tmp 35), 0, "zsortanyfunc.go:331", #[{ on := 22, ground := Ground.data }, { on := 19, ground := Ground.data }, { on := 21, ground := Ground.chain }, { on := 0, ground := Ground.phase }, { on := 1, ground := Ground.phase }, { on := 2, ground := Ground.phase }, { on := 3, ground := Ground.phase }, { on := 4, ground := Ground.phase }, { on := 5, ground := Ground.phase }, { on := 6, ground := Ground.phase }, { on := 7, ground := Ground.phase }, { on := 8, ground := Ground.phase }, { on := 9, ground := Ground.phase }, { on := 10, ground := Ground.phase }, { on := 11, ground := Ground.phase }, { on := 12, ground := Ground.phase }, { on := 13, ground := Ground.phase }, { on := 14, ground := Ground.phase }, { on := 15, ground := Ground.phase }, { on := 16, ground := Ground.phase }, { on := 17, ground := Ground.phase }, { on := 18, ground := Ground.phase }, { on := 19, ground := Ground.phase }, { on := 20, ground := Ground.phase }, { on := 21, ground := Ground.phase }], none⟩)) rfl ?_ (AllReadyH.nil)
        · skip
          have hput := hA.put (y + k) (by omega) (f (x + k))
          refine next_skip (by kernel_rfl) (run_storeF_op (i := y + k) (x := f (x + k)) hA (by omega) rfl rfl) trivial (fun _ => ?_)
          simp only [Act.put]
          have hA := hput.1
          have hbt := hbt.trans hput.2
          refine wpAnyH_done (by kernel_rfl) ?_ _
          exact NoPanic.normal (hend ((((w.drew).setCells g ((x + k) * 3) (f (y + k)).cells)).setCells g ((y + k) * 3) (f (x + k)).cells) _ _ _ _ _ _ _ _ _ _ _ _ _ _ _ _ _ _ _ _ _ _ (upd_swp f (x + k) (y + k) (by omega) ▸ hA) hbt)
  · skip
    refine next_op (v := (f (x + k)).val) (by kernel_rfl) (run_loadS_op (f (x + k)).cells (by kernel_rfl) (by kernel_rfl) rfl (hA.cells (x + k) (by omega))) trivial (fun _ => ?_)
    simp only [Act.put, List.setIfInBounds_toArray, List.set_cons_zero, List.set_cons_succ]
    refine wpAnyH_ready (rs := [13]) (by kernel_rfl) (by simp) ?_
    refine AllReadyH.cons (o := (⟨some 29, Op.load 71 (Operand.tmp 28), 71, "zsortanyfunc.go:331", #[{ on := 12, ground := Ground.data }], none⟩)) rfl ?_ (AllReadyH.nil)
    · skip
      refine next_op (v := (f (y + k)).val) (by kernel_rfl) (run_loadS_op (f (y + k)).cells (by kernel_rfl) (by kernel_rfl) rfl (hA.cells (y + k) (by omega))) trivial (fun _ => ?_)
      simp only [Act.put, List.setIfInBounds_toArray, List.set_cons_zero, List.set_cons_succ]
      refine wpAnyH_take (i := 20) (oi := (⟨some 36, Op.indexAddr 56 (Operand.tmp 16) (Operand.tmp 19), 0, "zsortanyfunc.go:331", #[{ on := 0, ground := Ground.data }, { on := 3, ground := Ground.data }, { on := 0, ground := Ground.phase }, { on := 1, ground := Ground.phase }, { on := 2, ground := Ground.phase }, { on := 3, ground := Ground.phase }, { on := 4, ground := Ground.textOnly Departure.lateStores }, { on := 5, ground := Ground.textOnly Departure.lateStores }, { on := 6, ground := Ground.textOnly Departure.lateStores }, { on := 7, ground := Ground.textOnly Departure.lateStores }, { on := 8, ground := Ground.phase }, { on := 9, ground := Ground.phase }, { on := 10, ground := Ground.phase }, { on := 11, ground := Ground.phase }, { on := 12, ground := Ground.phase }, { on := 13, ground := Ground.phase }, { on := 14, ground := Ground.textOnly Departure.lateStores }, { on := 15, ground := Ground.textOnly Departure.lateStores }, { on := 16, ground := Ground.textOnly Departure.lateStores }, { on := 17, ground := Ground.textOnly Departure.lateStores }, { on := 18, ground := Ground.textOnly Departure.lateStoresUnsure }, { on := 19, ground := Ground.phase }], none⟩)) (v := .pointer (some ⟨g, (x + k) * 3, none⟩)) rfl (by kernel_rfl) (by kernel_rfl) (by kernel_rfl) (fun _ _ _ h => h) (Or.inl ⟨by kernel_rfl, fun W _ => run_ixA (i := x + k) (n := n) (c := c) rfl rfl (by omega)⟩) trivial ?_
      simp only [Act.put, List.setIfInBounds_toArray, List.set_cons_zero, List.set_cons_succ]
      refine wpAnyH_ready (rs := [21]) (by kernel_rfl) (by simp) ?_
      refine AllReadyH.cons (o := (⟨none, Op.store 71 (Operand.tmp 36) (Operand.tmp 29), 0, "zsortanyfunc.go:331", #[{ on := 20, ground := Ground.data }, { on := 13, ground := Ground.data }, { on := 0, ground := Ground.phase }, { on := 1, ground := Ground.phase }, { on := 2, ground := Ground.phase }, { on := 3, ground := Ground.phase }, { on := 4, ground := Ground.textOnly Departure.lateStores }, { on := 5, ground := Ground.textOnly Departure.lateStores }, { on := 6, ground := Ground.textOnly Departure.lateStores }, { on := 7, ground := Ground.textOnly Departure.lateStores }, { on := 8, ground := Ground.phase }, { on := 9, ground := Ground.phase }, { on := 10, ground := Ground.phase }, { on := 11, ground := Ground.phase }, { on := 12, ground := Ground.phase }, { on := 13, ground := Ground.phase }, { on := 14, ground := Ground.textOnly Departure.lateStores }, { on := 15, ground := Ground.textOnly Departure.lateStores }, { on := 16, ground := Ground.textOnly Departure.lateStores }, { on := 17, ground := Ground.textOnly Departure.lateStores }, { on := 18, ground := Ground.textOnly Departure.lateStoresUnsure }, { on := 19, ground := Ground.phase }], none⟩)) rfl ?_ (AllReadyH.nil)
      · skip
        have hput := hA.put (x + k) (by omega) (f (y + k))
        refine next_skip (by kernel_rfl) (run_storeF_op (i := x + k) (x := f (y + k)) hA (by omega) rfl rfl) trivial (fun _ => ?_)
        simp only [Act.put]
        have hA := hput.1
        have hbt := hbt.trans hput.2
        refine wpAnyH_take (i := 22) (oi := (⟨some 37, Op.indexAddr 56 (Operand.tmp 20) (Operand.tmp 23), 0, "zsortanyfunc.go:331", #[{ on := 4, ground := Ground.data }, { on := 7, ground := Ground.data }, { on := 0, ground := Ground.phase }, { on := 1, ground := Ground.phase }, { on := 2, ground := Ground.phase }, { on := 3, ground := Ground.phase }, { on := 4, ground := Ground.phase }, { on := 5, ground := Ground.phase }, { on := 6, ground := Ground.phase }, { on := 7, ground := Ground.phase }, { on := 8, ground := Ground.phase }, { on := 9, ground := Ground.phase }, { on := 10, ground := Ground.phase }, { on := 11, ground := Ground.phase }, { on := 12, ground := Ground.phase }, { on := 13, ground := Ground.phase }, { on := 14, ground := Ground.phase }, { on := 15, ground := Ground.phase }, { on := 16, ground := Ground.phase }, { on := 17, ground := Ground.phase }, { on := 18, ground := Ground.phase }, { on := 19, ground := Ground.phase }, { on := 20, ground := Ground.phase }, { on := 21, ground := Ground.phase }], none⟩)) (v := .pointer (some ⟨g, (y + k) * 3, none⟩)) rfl (by kernel_rfl) (by kernel_rfl) (by kernel_rfl) (fun _ _ _ h => h) (Or.inl ⟨by kernel_rfl, fun W _ => run_ixA (i := y + k) (n := n) (c := c) rfl rfl (by omega)⟩) trivial ?_
        simp only [Act.put, List.setIfInBounds_toArray, List.set_cons_zero, List.set_cons_succ]
        refine wpAnyH_ready (rs := [23]) (by kernel_rfl) (by simp) ?_
        refine AllReadyH.cons (o := (⟨none, Op.store 71 (Operand.tmp 37) (Operand.tmp 35), 0, "zsortanyfunc.go:331", #[{ on := 22, ground := Ground.data }, { on := 19, ground := Ground.data }, { on := 21, ground := Ground.chain }, { on := 0, ground := Ground.phase }, { on := 1, ground := Ground.phase }, { on := 2, ground := Ground.phase }, { on := 3, ground := Ground.phase }, { on := 4, ground := Ground.phase }, { on := 5, ground := Ground.phase }, { on := 6, ground := Ground.phase }, { on := 7, ground := Ground.phase }, { on := 8, ground := Ground.phase }, { on := 9, ground := Ground.phase }, { on := 10, ground := Ground.phase }, { on := 11, ground := Ground.phase }, { on := 12, ground := Ground.phase }, { on := 13, ground := Ground.phase }, { on := 14, ground := Ground.phase }, { on := 15, ground := Ground.phase }, { on := 16, ground := Ground.phase }, { on := 17, ground := Ground.phase }, { on := 18, ground := Ground.phase }, { on := 19, ground := Ground.phase }, { on := 20, ground := Ground.phase }, { on := 21, ground := Ground.phase }], none⟩)) rfl ?_ (AllReadyH.nil)
        · skip
          have hput := hA.put (y + k) (by omega) (f (x + k))
          refine next_skip (by kernel_rfl) (run_storeF_op (i := y + k) (x := f (x + k)) hA (by omega) rfl rfl) trivial (fun _ => ?_)
          simp only [Act.put]
          have hA := hput.1
          have hbt := hbt.trans hput.2
          refine wpAnyH_done (by kernel_rfl) ?_ _
          exact NoPanic.normal (hend ((((w.drew).setCells g ((x + k) * 3) (f (y + k)).cells)).setCells g ((y + k) * 3) (f (x + k)).cells) _ _ _ _ _ _ _ _ _ _ _ _ _ _ _ _ _ _ _ _ _ _ (upd_swp f (x + k) (y + k) (by omega) ▸ hA) hbt)
def opsSm11 : Array Oper := #[{ dst := some 61, op := Op.move (Operand.tmp 0), type := 56, pos := "zsortanyfunc.go:398", after := #[], guard := none }, { dst := some 62, op := Op.move (Operand.tmp 13), type := 3, pos := "zsortanyfunc.go:398", after := #[], guard := none }, { dst := some 63, op := Op.move (Operand.tmp 0), type := 56, pos := "zsortanyfunc.go:398", after := #[{ on := 15, ground := Ground.gcOnly Departure.lateStores }], guard := none }, { dst := some 64, op := Op.move (Operand.tmp 13), type := 3, pos := "zsortanyfunc.go:398", after := #[{ on := 15, ground := Ground.gcOnly Departure.lateStores }], guard := none }, { dst := some 65, op := Op.binOp BinOp.add 3 (Operand.tmp 64) (Operand.const (Value.int IntKind.i64 1)) 3, type := 3, pos := "zsortanyfunc.go:398", after := #[{ on := 3, ground := Ground.data }, { on := 15, ground := Ground.gcOnly Departure.lateStores }], guard := none }, { dst := some 66, op := Op.move (Operand.tmp 0), type := 56, pos := "zsortanyfunc.go:398", after := #[], guard := none }, { dst := some 67, op := Op.move (Operand.tmp 13), type := 3, pos := "zsortanyfunc.go:398", after := #[], guard := none }, { dst := some 68, op := Op.binOp BinOp.add 3 (Operand.tmp 67) (Operand.const (Value.int IntKind.i64 1)) 3, type := 3, pos := "zsortanyfunc.go:398", after := #[{ on := 6, ground := Ground.data }], guard := none }, { dst := some 69, op := Op.indexAddr 56 (Operand.tmp 66) (Operand.tmp 68), type := 0, pos := "zsortanyfunc.go:398", after := #[{ on := 5, ground := Ground.data }, { on := 7, ground := Ground.data }], guard := none }, { dst := some 70, op := Op.load 71 (Operand.tmp 69), type := 71, pos := "zsortanyfunc.go:398", after := #[{ on := 8, ground := Ground.data }], guard := none }, { dst := some 71, op := Op.move (Operand.tmp 0), type := 56, pos := "zsortanyfunc.go:398", after := #[], guard := none }, { dst := some 72, op := Op.move (Operand.tmp 13), type := 3, pos := "zsortanyfunc.go:398", after := #[], guard := none }, { dst := some 73, op := Op.indexAddr 56 (Operand.tmp 71) (Operand.tmp 72), type := 0, pos := "zsortanyfunc.go:398", after := #[{ on := 10, ground := Ground.data }, { on := 11, ground := Ground.data }], guard := none }, { dst := some 74, op := Op.load 71 (Operand.tmp 73), type := 71, pos := "zsortanyfunc.go:398", after := #[{ on := 12, ground := Ground.data }], guard := none }, { dst := some 75, op := Op.indexAddr 56 (Operand.tmp 61) (Operand.tmp 62), type := 0, pos := "zsortanyfunc.go:398", after := #[{ on := 0, ground := Ground.data }, { on := 1, ground := Ground.data }, { on := 0, ground := Ground.phase }, { on := 1, ground := Ground.phase }, { on := 2, ground := Ground.textOnly Departure.lateStores }, { on := 3, ground := Ground.textOnly Departure.lateStores }, { on := 4, ground := Ground.textOnly Departure.lateStores }, { on := 5, ground := Ground.phase }, { on := 6, ground := Ground.phase }, { on := 7, ground := Ground.phase }, { on := 8, ground := Ground.phase }, { on := 9, ground := Ground.phase }, { on := 10, ground := Ground.textOnly Departure.lateStores }, { on := 11, ground := Ground.textOnly Departure.lateStores }, { on := 12, ground := Ground.textOnly Departure.lateStoresUnsure }, { on := 13, ground := Ground.phase }], guard := none }, { dst := none, op := Op.store 71 (Operand.tmp 75) (Operand.tmp 70), type := 0, pos := "zsortanyfunc.go:398", after := #[{ on := 14, ground := Ground.data }, { on := 9, ground := Ground.data }, { on := 0, ground := Ground.phase }, { on := 1, ground := Ground.phase }, { on := 2, ground := Ground.textOnly Departure.lateStores }, { on := 3, ground := Ground.textOnly Departure.lateStores }, { on := 4, ground := Ground.textOnly Departure.lateStores }, { on := 5, ground := Ground.phase }, { on := 6, ground := Ground.phase }, { on := 7, ground := Ground.phase }, { on := 8, ground := Ground.phase }, { on := 9, ground := Ground.phase }, { on := 10, ground := Ground.textOnly Departure.lateStores }, { on := 11, ground := Ground.textOnly Departure.lateStores }, { on := 12, ground := Ground.textOnly Departure.lateStoresUnsure }, { on := 13, ground := Ground.phase }], guard := none }, { dst := some 76, op := Op.indexAddr 56 (Operand.tmp 63) (Operand.tmp 65), type := 0, pos := "zsortanyfunc.go:398", after := #[{ on := 2, ground := Ground.data }, { on := 4, ground := Ground.data }, { on := 0, ground := Ground.phase }, { on := 1, ground := Ground.phase }, { on := 2, ground := Ground.phase }, { on := 3, ground := Ground.phase }, { on := 4, ground := Ground.phase }, { on := 5, ground := Ground.phase }, { on := 6, ground := Ground.phase }, { on := 7, ground := Ground.phase }, { on := 8, ground := Ground.phase }, { on := 9, ground := Ground.phase }, { on := 10, ground := Ground.phase }, { on := 11, ground := Ground.phase }, { on := 12, ground := Ground.phase }, { on := 13, ground := Ground.phase }, { on := 14, ground := Ground.phase }, { on := 15, ground := Ground.phase }], guard := none }, { dst := none, op := Op.store 71 (Operand.tmp 76) (Operand.tmp 74), type := 0, pos := "zsortanyfunc.go:398", after := #[{ on := 16, ground := Ground.data }, { on := 13, ground := Ground.data }, { on := 15, ground := Ground.chain }, { on := 0, ground := Ground.phase }, { on := 1, ground := Ground.phase }, { on := 2, ground := Ground.phase }, { on := 3, ground := Ground.phase }, { on := 4, ground := Ground.phase }, { on := 5, ground := Ground.phase }, { on := 6, ground := Ground.phase }, { on := 7, ground := Ground.phase }, { on := 8, ground := Ground.phase }, { on := 9, ground := Ground.phase }, { on := 10, ground := Ground.phase }, { on := 11, ground := Ground.phase }, { on := 12, ground := Ground.phase }, { on := 13, ground := Ground.phase }, { on := 14, ground := Ground.phase }, { on := 15, ground := Ground.phase }], guard := none }]
theorem regSm11 {u1 u2 u3 u4 u5 u6 u7 u8 u9 u10 u11 u12 u14 u15 u16 u17 u18 u19 u20 u21 u22 u23 u24 u25 u26 u27 u28 u29 u30 u31 u32 u33 u34 u35 u36 u37 u38 u39 u40 u41 u42 u43 u44 u45 u46 u47 u48 u49 u50 u51 u52 u53 u54 u55 u56 u57 u58 u59 u60 u61 u62 u63 u64 u65 u66 u67 u68 u69 u70 u71 u72 u73 u74 u75 u76 u77 u78 u79 u80 u81 u82 u83 u84 u85 u86 u87 u88 u89 u90 u91 u92 u93 u94 u95 u96 u97 u98 u99 u100 u101 u102 u103 u104 u105 u106 u107 u108 u109 u110 u111 u112 u113 u114 u115 u116 u117 u118 u119 u120 u121 u122 u123 u124 u125 u126 u127 u128 u129 u130 u131 u132 u133 u134 u135 u136 u137 u138 u139 u140 u141 u142 u143 u144 u145 u146 u147 u148 u149 u150 u151 u152 u153 u154 u155 u156 u157 u158 u159 u160 u161 u162 u163 u164 u165 u166 u167 u168 u169 u170 u171 u172 u173 u174 u175 u176 u177 u178 u179 u180 u181 u182 u183 u184 u185 u186 u187 u188 u189 u190 u191 u192 u193 u194 u195 u196 u197 u198 u199 u200 u201 u202 u203 u204 u205 u206 u207 u208 u209 u210 u211 u212 u213 u214 u215 u216 u217 u218 u219 : Value} {DD : List Deferred} {Q : Exit → Act → World → Prop} {w : World} {g N n c : Nat} {f : Nat → FM} {k : Nat} (hA : Arr w.drew g N n f) (hk : k + 1 < n) (hn : n ≤ 1099511627776)
    (hend : ∀ (w2 : World) (x61 x62 x63 x64 x65 x66 x67 x68 x69 x70 x71 x72 x73 x74 x75 x76 : Value) (_ : Arr w2 g N n (swp f (k) (k + 1))) (_ : But g w w2), Q .normal ⟨#[.slice (some ⟨g, 0, none⟩) n c, u1, u2, u3, u4, u5, u6, u7, u8, u9, u10, u11, u12, .int .i64 (k : Nat), u14, u15, u16, u17, u18, u19, u20, u21, u22, u23, u24, u25, u26, u27, u28, u29, u30, u31, u32, u33, u34, u35, u36, u37, u38, u39, u40, u41, u42, u43, u44, u45, u46, u47, u48, u49, u50, u51, u52, u53, u54, u55, u56, u57, u58, u59, u60, x61, x62, x63, x64, x65, x66, x67, x68, x69, x70, x71, x72, x73, x74, x75, x76, u77, u78, u79, u80, u81, u82, u83, u84, u85, u86, u87, u88, u89, u90, u91, u92, u93, u94, u95, u96, u97, u98, u99, u100, u101, u102, u103, u104, u105, u106, u107, u108, u109, u110, u111, u112, u113, u114, u115, u116, u117, u118, u119, u120, u121, u122, u123, u124, u125, u126, u127, u128, u129, u130, u131, u132, u133, u134, u135, u136, u137, u138, u139, u140, u141, u142, u143, u144, u145, u146, u147, u148, u149, u150, u151, u152, u153, u154, u155, u156, u157, u158, u159, u160, u161, u162, u163, u164, u165, u166, u167, u168, u169, u170, u171, u172, u173, u174, u175, u176, u177, u178, u179, u180, u181, u182, u183, u184, u185, u186, u187, u188, u189, u190, u191, u192, u193, u194, u195, u196, u197, u198, u199, u200, u201, u202, u203, u204, u205, u206, u207, u208, u209, u210, u211, u212, u213, u214, u215, u216, u217, u218, u219], DD⟩ w2) :
    (Code.region 11 opsSm11 true).wp Try.prog Q ⟨#[.slice (some ⟨g, 0, none⟩) n c, u1, u2, u3, u4, u5, u6, u7, u8, u9, u10, u11, u12, .int .i64 (k : Nat), u14, u15, u16, u17, u18, u19, u20, u21, u22, u23, u24, u25, u26, u27, u28, u29, u30, u31, u32, u33, u34, u35, u36, u37, u38, u39, u40, u41, u42, u43, u44, u45, u46, u47, u48, u49, u50, u51, u52, u53, u54, u55, u56, u57, u58, u59, u60, u61, u62, u63, u64, u65, u66, u67, u68, u69, u70, u71, u72, u73, u74, u75, u76, u77, u78, u79, u80, u81, u82, u83, u84, u85, u86, u87, u88, u89, u90, u91, u92, u93, u94, u95, u96, u97, u98, u99, u100, u101, u102, u103, u104, u105, u106, u107, u108, u109, u110, u111, u112, u113, u114, u115, u116, u117, u118, u119, u120, u121, u122, u123, u124, u125, u126, u127, u128, u129, u130, u131, u132, u133, u134, u135, u136, u137, u138, u139, u140, u141, u142, u143, u144, u145, u146, u147, u148, u149, u150, u151, u152, u153, u154, u155, u156, u157, u158, u159, u160, u161, u162, u163, u164, u165, u166, u167, u168, u169, u170, u171, u172, u173, u174, u175, u176, u177, u178, u179, u180, u181, u182, u183, u184, u185, u186, u187, u188, u189, u190, u191, u192, u193, u194, u195, u196, u197, u198, u199, u200, u201, u202, u203, u204, u205, u206, u207, u208, u209, u210, u211, u212, u213, u214, u215, u216, u217, u218, u219], DD⟩ w := by
  have hA0 := hA
  have hbt : But g w w.drew := ⟨rfl, rfl, rfl, Nat.le_refl _, fun _ _ _ => rfl⟩
  refine wp_region_noPanic ?_
  refine wp_region_held_drew (S := fun _ => True) (by kernel_rfl) trivial (fun _ => ?_)
  refine wpAnyH_take (i := 0) (oi := (⟨some 61, Op.move (Operand.tmp 0), 56, "zsortanyfunc.go:398", #[], none⟩)) (v := .slice (some ⟨g, 0, none⟩) n c) rfl (by kernel_rfl) (by kernel_rfl) (by kernel_rfl) (fun _ _ _ h => h) (Or.inl ⟨by kernel_rfl, fun _ _ => by kernel_rfl⟩) trivial ?_
  simp only [Act.put, List.setIfInBounds_toArray, List.set_cons_zero, List.set_cons_succ]
  refine wpAnyH_take (i := 1) (oi := (⟨some 62, Op.move (Operand.tmp 13), 3, "zsortanyfunc.go:398", #[], none⟩)) (v := .int .i64 (k : Nat)) rfl (by kernel_rfl) (by kernel_rfl) (by kernel_rfl) (fun _ _ _ h => h) (Or.inl ⟨by kernel_rfl, fun _ _ => by kernel_rfl⟩) trivial ?_
  simp only [Act.put, List.setIfInBounds_toArray, List.set_cons_zero, List.set_cons_succ]
  refine wpAnyH_take (i := 2) (oi := (⟨some 63, Op.move (Operand.tmp 0), 56, "zsortanyfunc.go:398", #[{ on := 15, ground := Ground.gcOnly Departure.lateStores }], none⟩)) (v := .slice (some ⟨g, 0, none⟩) n c) rfl (by kernel_rfl) (by kernel_rfl) (by kernel_rfl) (fun _ _ _ h => h) (Or.inl ⟨by kernel_rfl, fun _ _ => by kernel_rfl⟩) trivial ?_
  simp only [Act.put, List.setIfInBounds_toArray, List.set_cons_zero, List.set_cons_succ]
  refine wpAnyH_take (i := 3) (oi := (⟨some 64, Op.move (Operand.tmp 13), 3, "zsortanyfunc.go:398", #[{ on := 15, ground := Ground.gcOnly Departure.lateStores }], none⟩)) (v := .int .i64 (k : Nat)) rfl (by kernel_rfl) (by kernel_rfl) (by kernel_rfl) (fun _ _ _ h => h) (Or.inl ⟨by kernel_rfl, fun _ _ => by kernel_rfl⟩) trivial ?_
  simp only [Act.put, List.setIfInBounds_toArray, List.set_cons_zero, List.set_cons_succ]
  refine wpAnyH_take (i := 4) (oi := (⟨some 65, Op.binOp BinOp.add 3 (Operand.tmp 64) (Operand.const (Value.int IntKind.i64 1)) 3, 3, "zsortanyfunc.go:398", #[{ on := 3, ground := Ground.data }, { on := 15, ground := Ground.gcOnly Departure.lateStores }], none⟩)) (v := .int .i64 ((k + 1 : Nat) : Nat)) rfl (by kernel_rfl) (by kernel_rfl) (by kernel_rfl) (fun _ _ _ h => h) (Or.inl ⟨by kernel_rfl, fun W _ => run_add_nat (a := k) (b := 1) rfl rfl (by omega)⟩) trivial ?_
  simp only [Act.put, List.setIfInBounds_toArray, List.set_cons_zero, List.set_cons_succ]
  refine wpAnyH_take (i := 5) (oi := (⟨some 66, Op.move (Operand.tmp 0), 56, "zsortanyfunc.go:398", #[], none⟩)) (v := .slice (some ⟨g, 0, none⟩) n c) rfl (by kernel_rfl) (by kernel_rfl) (by kernel_rfl) (fun _ _ _ h => h) (Or.inl ⟨by kernel_rfl, fun _ _ => by kernel_rfl⟩) trivial ?_
  simp only [Act.put, List.setIfInBounds_toArray, List.set_cons_zero, List.set_cons_succ]
  refine wpAnyH_take (i := 6) (oi := (⟨some 67, Op.move (Operand.tmp 13), 3, "zsortanyfunc.go:398", #[], none⟩)) (v := .int .i64 (k : Nat)) rfl (by kernel_rfl) (by kernel_rfl) (by kernel_rfl) (fun _ _ _ h => h) (Or.inl ⟨by kernel_rfl, fun _ _ => by kernel_rfl⟩) trivial ?_
  simp only [Act.put, List.setIfInBounds_toArray, List.set_cons_zero, List.set_cons_succ]
  refine wpAnyH_take (i := 7) (oi := (⟨some 68, Op.binOp BinOp.add 3 (Operand.tmp 67) (Operand.const (Value.int IntKind.i64 1)) 3, 3, "zsortanyfunc.go:398", #[{ on := 6, ground := Ground.data }], none⟩)) (v := .int .i64 ((k + 1 : Nat) : Nat)) rfl (by kernel_rfl) (by kernel_rfl) (by kernel_rfl) (fun _ _ _ h => h) (Or.inl ⟨by kernel_rfl, fun W _ => run_add_nat (a := k) (b := 1) rfl rfl (by omega)⟩) trivial ?_
  simp only [Act.put, List.setIfInBounds_toArray, List.set_cons_zero, List.set_cons_succ]
  refine wpAnyH_take (i := 8) (oi := (⟨some 69, Op.indexAddr 56 (Operand.tmp 66) (Operand.tmp 68), 0, "zsortanyfunc.go:398", #[{ on := 5, ground := Ground.data }, { on := 7, ground := Ground.data }], none⟩)) (v := .pointer (some ⟨g, (k + 1) * 3, none⟩)) rfl (by kernel_rfl) (by kernel_rfl) (by kernel_rfl) (fun _ _ _ h => h) (Or.inl ⟨by kernel_rfl, fun W _ => run_ixA (i := k + 1) (n := n) (c := c) rfl rfl (by omega)⟩) trivial ?_
  simp only [Act.put, List.setIfInBounds_toArray, List.set_cons_zero, List.set_cons_succ]
  refine wpAnyH_take (i := 10) (oi := (⟨some 71, Op.move (Operand.tmp 0), 56, "zsortanyfunc.go:398", #[], none⟩)) (v := .slice (some ⟨g, 0, none⟩) n c) rfl (by kernel_rfl) (by kernel_rfl) (by kernel_rfl) (fun _ _ _ h => h) (Or.inl ⟨by kernel_rfl, fun _ _ => by kernel_rfl⟩) trivial ?_
  simp only [Act.put, List.setIfInBounds_toArray, List.set_cons_zero, List.set_cons_succ]
  refine wpAnyH_take (i := 11) (oi := (⟨some 72, Op.move (Operand.tmp 13), 3, "zsortanyfunc.go:398", #[], none⟩)) (v := .int .i64 (k : Nat)) rfl (by kernel_rfl) (by kernel_rfl) (by kernel_rfl) (fun _ _ _ h => h) (Or.inl ⟨by kernel_rfl, fun _ _ => by kernel_rfl⟩) trivial ?_
  simp only [Act.put, List.setIfInBounds_toArray, List.set_cons_zero, List.set_cons_succ]
  refine wpAnyH_take (i := 12) (oi := (⟨some 73, Op.indexAddr 56 (Operand.tmp 71) (Operand.tmp 72), 0, "zsortanyfunc.go:398", #[{ on := 10, ground := Ground.data }, { on := 11, ground := Ground.data }], none⟩)) (v := .pointer (some ⟨g, (k) * 3, none⟩)) rfl (by kernel_rfl) (by kernel_rfl) (by kernel_rfl) (fun _ _ _ h => h) (Or.inl ⟨by kernel_rfl, fun W _ => run_ixA (i := k) (n := n) (c := c) rfl rfl (by omega)⟩) trivial ?_
  simp only [Act.put, List.setIfInBounds_toArray, List.set_cons_zero, List.set_cons_succ]
  refine wpAnyH_ready (rs := [9, 13]) (by kernel_rfl) (by simp) ?_
  refine AllReadyH.cons (o := (⟨some 70, Op.load 71 (Operand.tmp 69), 71, "zsortanyfunc.go:398", #[{ on := 8, ground := Ground.data }], none⟩)) rfl ?_ (AllReadyH.cons (o := (⟨some 74, Op.load 71 (Operand.tmp 73), 71, "zsortanyfunc.go:398", #[{ on := 12, ground := Ground.data }], none⟩)) rfl ?_ (AllReadyH.nil))
  · skip
    refine next_op (v := (f (k + 1)).val) (by kernel_rfl) (run_loadS_op (f (k + 1)).cells (by kernel_rfl) (by kernel_rfl) rfl (hA.cells (k + 1) (by omega))) trivial (fun _ => ?_)
    simp only [Act.put, List.setIfInBounds_toArray, List.set_cons_zero, List.set_cons_succ]
    refine wpAnyH_ready (rs := [13]) (by kernel_rfl) (by simp) ?_
    refine AllReadyH.cons (o := (⟨some 74, Op.load 71 (Operand.tmp 73), 71, "zsortanyfunc.go:398", #[{ on := 12, ground := Ground.data }], none⟩)) rfl ?_ (AllReadyH.nil)
    · skip
      refine next_op (v := (f (k)).val) (by kernel_rfl) (run_loadS_op (f (k)).cells (by kernel_rfl) (by kernel_rfl) rfl (hA.cells (k) (by omega))) trivial (fun _ => ?_)
      simp only [Act.put, List.setIfInBounds_toArray, List.set_cons_zero, List.set_cons_succ]
      refine wpAnyH_take (i := 14) (oi := (⟨some 75, Op.indexAddr 56 (Operand.tmp 61) (Operand.tmp 62), 0, "zsortanyfunc.go:398", #[{ on := 0, ground := Ground.data }, { on := 1, ground := Ground.data }, { on := 0, ground := Ground.phase }, { on := 1, ground := Ground.phase }, { on := 2, ground := Ground.textOnly Departure.lateStores }, { on := 3, ground := Ground.textOnly Departure.lateStores }, { on := 4, ground := Ground.textOnly Departure.lateStores }, { on := 5, ground := Ground.phase }, { on := 6, ground := Ground.phase }, { on := 7, ground := Ground.phase }, { on := 8, ground := Ground.phase }, { on := 9, ground := Ground.phase }, { on := 10, ground := Ground.textOnly Departure.lateStores }, { on := 11, ground := Ground.textOnly Departure.lateStores }, { on := 12, ground := Ground.textOnly Departure.lateStoresUnsure }, { on := 13, ground := Ground.phase }], none⟩)) (v := .pointer (some ⟨g, (k) * 3, none⟩)) rfl (by kernel_rfl) (by kernel_rfl) (by kernel_rfl) (fun _ _ _ h => h) (Or.inl ⟨by kernel_rfl, fun W _ => run_ixA (i := k) (n := n) (c := c) rfl rfl (by omega)⟩) trivial ?_
      simp only [Act.put, List.setIfInBounds_toArray, List.set_cons_zero, List.set_cons_succ]
      refine wpAnyH_ready (rs := [15]) (by kernel_rfl) (by simp) ?_
      refine AllReadyH.cons (o := (⟨none, Op.store 71 (Operand.tmp 75) (Operand.tmp 70), 0, "zsortanyfunc.go:398", #[{ on := 14, ground := Ground.data }, { on := 9, ground := Ground.data }, { on := 0, ground := Ground.phase }, { on := 1, ground := Ground.phase }, { on := 2, ground := Ground.textOnly Departure.lateStores }, { on := 3, ground := Ground.textOnly Departure.lateStores }, { on := 4, ground := Ground.textOnly Departure.lateStores }, { on := 5, ground := Ground.phase }, { on := 6, ground := Ground.phase }, { on := 7, ground := Ground.phase }, { on := 8, ground := Ground.phase }, { on := 9, ground := Ground.phase }, { on := 10, ground := Ground.textOnly Departure.lateStores }, { on := 11, ground := Ground.textOnly Departure.lateStores }, { on := 12, ground := Ground.textOnly Departure.lateStoresUnsure }, { on := 13, ground := Ground.phase }], none⟩)) rfl ?_ (AllReadyH.nil)
      · skip
        have hput := hA.put (k) (by omega) (f (k + 1))
        refine next_skip (by kernel_rfl) (run_storeF_op (i := k) (x := f (k + 1)) hA (by omega) rfl rfl) trivial (fun _ => ?_)
        simp only [Act.put]
        have hA := hput.1
        have hbt := hbt.trans hput.2
        refine wpAnyH_take (i := 16) (oi := (⟨some 76, Op.indexAddr 56 (Operand.tmp 63) (Operand.tmp 65), 0, "zsortanyfunc.go:398", #[{ on := 2, ground := Ground.data }, { on := 4, ground := Ground.data }, { on := 0, ground := Ground.phase }, { on := 1, ground := Ground.phase }, { on := 2, ground := Ground.phase }, { on := 3, ground := Ground.phase }, { on := 4, ground := Ground.phase }, { on := 5, ground := Ground.phase }, { on := 6, ground := Ground.phase }, { on := 7, ground := Ground.phase }, { on := 8, ground := Ground.phase }, { on := 9, ground := Ground.phase }, { on := 10, ground := Ground.phase }, { on := 11, ground := Ground.phase }, { on := 12, ground := Ground.phase }, { on := 13, ground := Ground.phase }, { on := 14, ground := Ground.phase }, { on := 15, ground := Ground.phase }], none⟩)) (v := .pointer (some ⟨g, (k + 1) * 3, none⟩)) rfl (by kernel_rfl) (by kernel_rfl) (by kernel_rfl) (fun _ _ _ h => h) (Or.inl ⟨by kernel_rfl, fun W _ => run_ixA (i := k + 1) (n := n) (c := c) rfl rfl (by omega)⟩) trivial ?_
        simp only [Act.put, List.setIfInBounds_toArray, List.set_cons_zero, List.set_cons_succ]
        refine wpAnyH_ready (rs := [17]) (by kernel_rfl) (by simp) ?_
        refine AllReadyH.cons (o := (⟨none, Op.store 71 (Operand.tmp 76) (Operand.tmp 74), 0, "zsortanyfunc.go:398", #[{ on := 16, ground := Ground.data }, { on := 13, ground := Ground.data }, { on := 15, ground := Ground.chain }, { on := 0, ground := Ground.phase }, { on := 1, ground := Ground.phase }, { on := 2, ground := Ground.phase }, { on := 3, ground := Ground.phase }, { on := 4, ground := Ground.phase }, { on := 5, ground := Ground.phase }, { on := 6, ground := Ground.phase }, { on := 7, ground := Ground.phase }, { on := 8, ground := Ground.phase }, { on := 9, ground := Ground.phase }, { on := 10, ground := Ground.phase }, { on := 11, ground := Ground.phase }, { on := 12, ground := Ground.phase }, { on := 13, ground := Ground.phase }, { on := 14, ground := Ground.phase }, { on := 15, ground := Ground.phase }], none⟩)) rfl ?_ (AllReadyH.nil)
        · skip
          have hput := hA.put (k + 1) (by omega) (f (k))
          refine next_skip (by kernel_rfl) (run_storeF_op (i := k + 1) (x := f (k)) hA (by omega) rfl rfl) trivial (fun _ => ?_)
          simp only [Act.put]
          have hA := hput.1
          have hbt := hbt.trans hput.2
          refine wpAnyH_done (by kernel_rfl) ?_ _
          exact NoPanic.normal (hend ((((w.drew).setCells g ((k) * 3) (f (k + 1)).cells)).setCells g ((k + 1) * 3) (f (k)).cells) _ _ _ _ _ _ _ _ _ _ _ _ _ _ _ _ (upd_swp f (k) (k + 1) (by omega) ▸ hA) hbt)
  · skip
    refine next_op (v := (f (k)).val) (by kernel_rfl) (run_loadS_op (f (k)).cells (by kernel_rfl) (by kernel_rfl) rfl (hA.cells (k) (by omega))) trivial (fun _ => ?_)
    simp only [Act.put, List.setIfInBounds_toArray, List.set_cons_zero, List.set_cons_succ]
    refine wpAnyH_ready (rs := [9]) (by kernel_rfl) (by simp) ?_
    refine AllReadyH.cons (o := (⟨some 70, Op.load 71 (Operand.tmp 69), 71, "zsortanyfunc.go:398", #[{ on := 8, ground := Ground.data }], none⟩)) rfl ?_ (AllReadyH.nil)
    · skip
      refine next_op (v := (f (k + 1)).val) (by kernel_rfl) (run_loadS_op (f (k + 1)).cells (by kernel_rfl) (by kernel_rfl) rfl (hA.cells (k + 1) (by omega))) trivial (fun _ => ?_)
      simp only [Act.put, List.setIfInBounds_toArray, List.set_cons_zero, List.set_cons_succ]
      refine wpAnyH_take (i := 14) (oi := (⟨some 75, Op.indexAddr 56 (Operand.tmp 61) (Operand.tmp 62), 0, "zsortanyfunc.go:398", #[{ on := 0, ground := Ground.data }, { on := 1, ground := Ground.data }, { on := 0, ground := Ground.phase }, { on := 1, ground := Ground.phase }, { on := 2, ground := Ground.textOnly Departure.lateStores }, { on := 3, ground := Ground.textOnly Departure.lateStores }, { on := 4, ground := Ground.textOnly Departure.lateStores }, { on := 5, ground := Ground.phase }, { on := 6, ground := Ground.phase }, { on := 7, ground := Ground.phase }, { on := 8, ground := Ground.phase }, { on := 9, ground := Ground.phase }, { on := 10, ground := Ground.textOnly Departure.lateStores }, { on := 11, ground := Ground.textOnly Departure.lateStores }, { on := 12, ground := Ground.textOnly Departure.lateStoresUnsure }, { on := 13, ground := Ground.phase }], none⟩)) (v := .pointer (some ⟨g, (k) * 3, none⟩)) rfl (by kernel_rfl) (by kernel_rfl) (by kernel_rfl) (fun _ _ _ h => h) (Or.inl ⟨by kernel_rfl, fun W _ => run_ixA (i := k) (n := n) (c := c) rfl rfl (by omega)⟩) trivial ?_
      simp only [Act.put, List.setIfInBounds_toArray, List.set_cons_zero, List.set_cons_succ]
      refine wpAnyH_ready (rs := [15]) (by kernel_rfl) (by simp) ?_
      refine AllReadyH.cons (o := (⟨none, Op.store 71 (Operand.tmp 75) (Operand.tmp 70), 0, "zsortanyfunc.go:398", #[{ on := 14, ground := Ground.data }, { on := 9, ground := Ground.data }, { on := 0, ground := Ground.phase }, { on := 1, ground := Ground.phase }, { on := 2, ground := Ground.textOnly Departure.lateStores }, { on := 3, ground := Ground.textOnly Departure.lateStores }, { on := 4, ground := Ground.textOnly Departure.lateStores }, { on := 5, ground := Ground.phase }, { on := 6, ground := Ground.phase }, { on := 7, ground := Ground.phase }, { on := 8, ground := Ground.phase }, { on := 9, ground := Ground.phase }, { on := 10, ground := Ground.textOnly Departure.lateStores }, { on := 11, ground := Ground.textOnly Departure.lateStores }, { on := 12, ground := Ground.textOnly Departure.lateStoresUnsure }, { on := 13, ground := Ground.phase }], none⟩)) rfl ?_ (AllReadyH.nil)
      · skip
        have hput := hA.put (k) (by omega) (f (k + 1))
        refine next_skip (by kernel_rfl) (run_storeF_op (i := k) (x := f (k + 1)) hA (by omega) rfl rfl) trivial (fun _ => ?_)
        simp only [Act.put]
        have hA := hput.1
        have hbt := hbt.trans hput.2
        refine wpAnyH_take (i := 16) (oi := (⟨some 76, Op.indexAddr 56 (Operand.tmp 63) (Operand.tmp 65), 0, "zsortanyfunc.go:398", #[{ on := 2, ground := Ground.data }, { on := 4, ground := Ground.data }, { on := 0, ground := Ground.phase }, { on := 1, ground := Ground.phase }, { on := 2, ground := Ground.phase }, { on := 3, ground := Ground.phase }, { on := 4, ground := Ground.phase }, { on := 5, ground := Ground.phase }, { on := 6, ground := Ground.phase }, { on := 7, ground := Ground.phase }, { on := 8, ground := Ground.phase }, { on := 9, ground := Ground.phase }, { on := 10, ground := Ground.phase }, { on := 11, ground := Ground.phase }, { on := 12, ground := Ground.phase }, { on := 13, ground := Ground.phase }, { on := 14, ground := Ground.phase }, { on := 15, ground := Ground.phase }], none⟩)) (v := .pointer (some ⟨g, (k + 1) * 3, none⟩)) rfl (by kernel_rfl) (by kernel_rfl) (by kernel_rfl) (fun _ _ _ h => h) (Or.inl ⟨by kernel_rfl, fun W _ => run_ixA (i := k + 1) (n := n) (c := c) rfl rfl (by omega)⟩) trivial ?_
        simp only [Act.put, List.setIfInBounds_toArray, List.set_cons_zero, List.set_cons_succ]
        refine wpAnyH_ready (rs := [17]) (by kernel_rfl) (by simp) ?_
        refine AllReadyH.cons (o := (⟨none, Op.store 71 (Operand.tmp 76) (Operand.tmp 74), 0, "zsortanyfunc.go:398", #[{ on := 16, ground := Ground.data }, { on := 13, ground := Ground.data }, { on := 15, ground := Ground.chain }, { on := 0, ground := Ground.phase }, { on := 1, ground := Ground.phase }, { on := 2, ground := Ground.phase }, { on := 3, ground := Ground.phase }, { on := 4, ground := Ground.phase }, { on := 5, ground := Ground.phase }, { on := 6, ground := Ground.phase }, { on := 7, ground := Ground.phase }, { on := 8, ground := Ground.phase }, { on := 9, ground := Ground.phase }, { on := 10, ground := Ground.phase }, { on := 11, ground := Ground.phase }, { on := 12, ground := Ground.phase }, { on := 13, ground := Ground.phase }, { on := 14, ground := Ground.phase }, { on := 15, ground := Ground.phase }], none⟩)) rfl ?_ (AllReadyH.nil)
        · skip
          have hput := hA.put (k + 1) (by omega) (f (k))
          refine next_skip (by kernel_rfl) (run_storeF_op (i := k + 1) (x := f (k)) hA (by omega) rfl rfl) trivial (fun _ => ?_)
          simp only [Act.put]
          have hA := hput.1
          have hbt := hbt.trans hput.2
          refine wpAnyH_done (by kernel_rfl) ?_ _
          exact NoPanic.normal (hend ((((w.drew).setCells g ((k) * 3) (f (k + 1)).cells)).setCells g ((k + 1) * 3) (f (k)).cells) _ _ _ _ _ _ _ _ _ _ _ _ _ _ _ _ (upd_swp f (k) (k + 1) (by omega) ▸ hA) hbt)
def opsSm23 : Array Oper := #[{ dst := some 113, op := Op.move (Operand.tmp 0), type := 56, pos := "zsortanyfunc.go:422", after := #[], guard := none }, { dst := some 114, op := Op.move (Operand.tmp 17), type := 3, pos := "zsortanyfunc.go:422", after := #[], guard := none }, { dst := some 115, op := Op.move (Operand.tmp 0), type := 56, pos := "zsortanyfunc.go:422", after := #[{ on := 15, ground := Ground.gcOnly Departure.lateStores }], guard := none }, { dst := some 116, op := Op.move (Operand.tmp 17), type := 3, pos := "zsortanyfunc.go:422", after := #[{ on := 15, ground := Ground.gcOnly Departure.lateStores }], guard := none }, { dst := some 117, op := Op.binOp BinOp.sub 3 (Operand.tmp 116) (Operand.const (Value.int IntKind.i64 1)) 3, type := 3, pos := "zsortanyfunc.go:422", after := #[{ on := 3, ground := Ground.data }, { on := 15, ground := Ground.gcOnly Departure.lateStores }], guard := none }, { dst := some 118, op := Op.move (Operand.tmp 0), type := 56, pos := "zsortanyfunc.go:422", after := #[], guard := none }, { dst := some 119, op := Op.move (Operand.tmp 17), type := 3, pos := "zsortanyfunc.go:422", after := #[], guard := none }, { dst := some 120, op := Op.binOp BinOp.sub 3 (Operand.tmp 119) (Operand.const (Value.int IntKind.i64 1)) 3, type := 3, pos := "zsortanyfunc.go:422", after := #[{ on := 6, ground := Ground.data }], guard := none }, { dst := some 121, op := Op.indexAddr 56 (Operand.tmp 118) (Operand.tmp 120), type := 0, pos := "zsortanyfunc.go:422", after := #[{ on := 5, ground := Ground.data }, { on := 7, ground := Ground.data }], guard := none }, { dst := some 122, op := Op.load 71 (Operand.tmp 121), type := 71, pos := "zsortanyfunc.go:422", after := #[{ on := 8, ground := Ground.data }], guard := none }, { dst := some 123, op := Op.move (Operand.tmp 0), type := 56, pos := "zsortanyfunc.go:422", after := #[], guard := none }, { dst := some 124, op := Op.move (Operand.tmp 17), type := 3, pos := "zsortanyfunc.go:422", after := #[], guard := none }, { dst := some 125, op := Op.indexAddr 56 (Operand.tmp 123) (Operand.tmp 124), type := 0, pos := "zsortanyfunc.go:422", after := #[{ on := 10, ground := Ground.data }, { on := 11, ground := Ground.data }], guard := none }, { dst := some 126, op := Op.load 71 (Operand.tmp 125), type := 71, pos := "zsortanyfunc.go:422", after := #[{ on := 12, ground := Ground.data }], guard := none }, { dst := some 127, op := Op.indexAddr 56 (Operand.tmp 113) (Operand.tmp 114), type := 0, pos := "zsortanyfunc.go:422", after := #[{ on := 0, ground := Ground.data }, { on := 1, ground := Ground.data }, { on := 0, ground := Ground.phase }, { on := 1, ground := Ground.phase }, { on := 2, ground := Ground.textOnly Departure.lateStores }, { on := 3, ground := Ground.textOnly Departure.lateStores }, { on := 4, ground := Ground.textOnly Departure.lateStores }, { on := 5, ground := Ground.phase }, { on := 6, ground := Ground.phase }, { on := 7, ground := Ground.phase }, { on := 8, ground := Ground.phase }, { on := 9, ground := Ground.phase }, { on := 10, ground := Ground.textOnly Departure.lateStores }, { on := 11, ground := Ground.textOnly Departure.lateStores }, { on := 12, ground := Ground.textOnly Departure.lateStoresUnsure }, { on := 13, ground := Ground.phase }], guard := none }, { dst := none, op := Op.store 71 (Operand.tmp 127) (Operand.tmp 122), type := 0, pos := "zsortanyfunc.go:422", after := #[{ on := 14, ground := Ground.data }, { on := 9, ground := Ground.data }, { on := 0, ground := Ground.phase }, { on := 1, ground := Ground.phase }, { on := 2, ground := Ground.textOnly Departure.lateStores }, { on := 3, ground := Ground.textOnly Departure.lateStores }, { on := 4, ground := Ground.textOnly Departure.lateStores }, { on := 5, ground := Ground.phase }, { on := 6, ground := Ground.phase }, { on := 7, ground := Ground.phase }, { on := 8, ground := Ground.phase }, { on := 9, ground := Ground.phase }, { on := 10, ground := Ground.textOnly Departure.lateStores }, { on := 11, ground := Ground.textOnly Departure.lateStores }, { on := 12, ground := Ground.textOnly Departure.lateStoresUnsure }, { on := 13, ground := Ground.phase }], guard := none }, { dst := some 128, op := Op.indexAddr 56 (Operand.tmp 115) (Operand.tmp 117), type := 0, pos := "zsortanyfunc.go:422", after := #[{ on := 2, ground := Ground.data }, { on := 4, ground := Ground.data }, { on := 0, ground := Ground.phase }, { on := 1, ground := Ground.phase }, { on := 2, ground := Ground.phase }, { on := 3, ground := Ground.phase }, { on := 4, ground := Ground.phase }, { on := 5, ground := Ground.phase }, { on := 6, ground := Ground.phase }, { on := 7, ground := Ground.phase }, { on := 8, ground := Ground.phase }, { on := 9, ground := Ground.phase }, { on := 10, ground := Ground.phase }, { on := 11, ground := Ground.phase }, { on := 12, ground := Ground.phase }, { on := 13, ground := Ground.phase }, { on := 14, ground := Ground.phase }, { on := 15, ground := Ground.phase }], guard := none }, { dst := none, op := Op.store 71 (Operand.tmp 128) (Operand.tmp 126), type := 0, pos := "zsortanyfunc.go:422", after := #[{ on := 16, ground := Ground.data }, { on := 13, ground := Ground.data }, { on := 15, ground := Ground.chain }, { on := 0, ground := Ground.phase }, { on := 1, ground := Ground.phase }, { on := 2, ground := Ground.phase }, { on := 3, ground := Ground.phase }, { on := 4, ground := Ground.phase }, { on := 5, ground := Ground.phase }, { on := 6, ground := Ground.phase }, { on := 7, ground := Ground.phase }, { on := 8, ground := Ground.phase }, { on := 9, ground := Ground.phase }, { on := 10, ground := Ground.phase }, { on := 11, ground := Ground.phase }, { on := 12, ground := Ground.phase }, { on := 13, ground := Ground.phase }, { on := 14, ground := Ground.phase }, { on := 15, ground := Ground.phase }], guard := none }]
theorem regSm23 {u1 u2 u3 u4 u5 u6 u7 u8 u9 u10 u11 u12 u13 u14 u15 u16 u18 u19 u20 u21 u22 u23 u24 u25 u26 u27 u28 u29 u30 u31 u32 u33 u34 u35 u36 u37 u38 u39 u40 u41 u42 u43 u44 u45 u46 u47 u48 u49 u50 u51 u52 u53 u54 u55 u56 u57 u58 u59 u60 u61 u62 u63 u64 u65 u66 u67 u68 u69 u70 u71 u72 u73 u74 u75 u76 u77 u78 u79 u80 u81 u82 u83 u84 u85 u86 u87 u88 u89 u90 u91 u92 u93 u94 u95 u96 u97 u98 u99 u100 u101 u102 u103 u104 u105 u106 u107 u108 u109 u110 u111 u112 u113 u114 u115 u116 u117 u118 u119 u120 u121 u122 u123 u124 u125 u126 u127 u128 u129 u130 u131 u132 u133 u134 u135 u136 u137 u138 u139 u140 u141 u142 u143 u144 u145 u146 u147 u148 u149 u150 u151 u152 u153 u154 u155 u156 u157 u158 u159 u160 u161 u162 u163 u164 u165 u166 u167 u168 u169 u170 u171 u172 u173 u174 u175 u176 u177 u178 u179 u180 u181 u182 u183 u184 u185 u186 u187 u188 u189 u190 u191 u192 u193 u194 u195 u196 u197 u198 u199 u200 u201 u202 u203 u204 u205 u206 u207 u208 u209 u210 u211 u212 u213 u214 u215 u216 u217 u218 u219 : Value} {DD : List Deferred} {Q : Exit → Act → World → Prop} {w : World} {g N n c : Nat} {f : Nat → FM} {k : Nat} (hA : Arr w.drew g N n f) (hk : k + 1 < n) (hn : n ≤ 1099511627776)
    (hend : ∀ (w2 : World) (x113 x114 x115 x116 x117 x118 x119 x120 x121 x122 x123 x124 x125 x126 x127 x128 : Value) (_ : Arr w2 g N n (swp f (k + 1) (k))) (_ : But g w w2), Q .normal ⟨#[.slice (some ⟨g, 0, none⟩) n c, u1, u2, u3, u4, u5, u6, u7, u8, u9, u10, u11, u12, u13, u14, u15, u16, .int .i64 ((k + 1 : Nat) : Nat), u18, u19, u20, u21, u22, u23, u24, u25, u26, u27, u28, u29, u30, u31, u32, u33, u34, u35, u36, u37, u38, u39, u40, u41, u42, u43, u44, u45, u46, u47, u48, u49, u50, u51, u52, u53, u54, u55, u56, u57, u58, u59, u60, u61, u62, u63, u64, u65, u66, u67, u68, u69, u70, u71, u72, u73, u74, u75, u76, u77, u78, u79, u80, u81, u82, u83, u84, u85, u86, u87, u88, u89, u90, u91, u92, u93, u94, u95, u96, u97, u98, u99, u100, u101, u102, u103, u104, u105, u106, u107, u108, u109, u110, u111, u112, x113, x114, x115, x116, x117, x118, x119, x120, x121, x122, x123, x124, x125, x126, x127, x128, u129, u130, u131, u132, u133, u134, u135, u136, u137, u138, u139, u140, u141, u142, u143, u144, u145, u146, u147, u148, u149, u150, u151, u152, u153, u154, u155, u156, u157, u158, u159, u160, u161, u162, u163, u164, u165, u166, u167, u168, u169, u170, u171, u172, u173, u174, u175, u176, u177, u178, u179, u180, u181, u182, u183, u184, u185, u186, u187, u188, u189, u190, u191, u192, u193, u194, u195, u196, u197, u198, u199, u200, u201, u202, u203, u204, u205, u206, u207, u208, u209, u210, u211, u212, u213, u214, u215, u216, u217, u218, u219], DD⟩ w2) :
    (Code.region 23 opsSm23 true).wp Try.prog Q ⟨#[.slice (some ⟨g, 0, none⟩) n c, u1, u2, u3, u4, u5, u6, u7, u8, u9, u10, u11, u12, u13, u14, u15, u16, .int .i64 ((k + 1 : Nat) : Nat), u18, u19, u20, u21, u22, u23, u24, u25, u26, u27, u28, u29, u30, u31, u32, u33, u34, u35, u36, u37, u38, u39, u40, u41, u42, u43, u44, u45, u46, u47, u48, u49, u50, u51, u52, u53, u54, u55, u56, u57, u58, u59, u60, u61, u62, u63, u64, u65, u66, u67, u68, u69, u70, u71, u72, u73, u74, u75, u76, u77, u78, u79, u80, u81, u82, u83, u84, u85, u86, u87, u88, u89, u90, u91, u92, u93, u94, u95, u96, u97, u98, u99, u100, u101, u102, u103, u104, u105, u106, u107, u108, u109, u110, u111, u112, u113, u114, u115, u116, u117, u118, u119, u120, u121, u122, u123, u124, u125, u126, u127, u128, u129, u130, u131, u132, u133, u134, u135, u136, u137, u138, u139, u140, u141, u142, u143, u144, u145, u146, u147, u148, u149, u150, u151, u152, u153, u154, u155, u156, u157, u158, u159, u160, u161, u162, u163, u164, u165, u166, u167, u168, u169, u170, u171, u172, u173, u174, u175, u176, u177, u178, u179, u180, u181, u182, u183, u184, u185, u186, u187, u188, u189, u190, u191, u192, u193, u194, u195, u196, u197, u198, u199, u200, u201, u202, u203, u204, u205, u206, u207, u208, u209, u210, u211, u212, u213, u214, u215, u216, u217, u218, u219], DD⟩ w := by
  have hA0 := hA
  have hbt : But g w w.drew := ⟨rfl, rfl, rfl, Nat.le_refl _, fun _ _ _ => rfl⟩
  refine wp_region_noPanic ?_
  refine wp_region_held_drew (S := fun _ => True) (by kernel_rfl) trivial (fun _ => ?_)
  refine wpAnyH_take (i := 0) (oi := (⟨some 113, Op.move (Operand.tmp 0), 56, "zsortanyfunc.go:422", #[], none⟩)) (v := .slice (some ⟨g, 0, none⟩) n c) rfl (by kernel_rfl) (by kernel_rfl) (by kernel_rfl) (fun _ _ _ h => h) (Or.inl ⟨by kernel_rfl, fun _ _ => by kernel_rfl⟩) trivial ?_
  simp only [Act.put, List.setIfInBounds_toArray, List.set_cons_zero, List.set_cons_succ]
  refine wpAnyH_take (i := 1) (oi := (⟨some 114, Op.move (Operand.tmp 17), 3, "zsortanyfunc.go:422", #[], none⟩)) (v := .int .i64 ((k + 1 : Nat) : Nat)) rfl (by kernel_rfl) (by kernel_rfl) (by kernel_rfl) (fun _ _ _ h => h) (Or.inl ⟨by kernel_rfl, fun _ _ => by kernel_rfl⟩) trivial ?_
  simp only [Act.put, List.setIfInBounds_toArray, List.set_cons_zero, List.set_cons_succ]
  refine wpAnyH_take (i := 2) (oi := (⟨some 115, Op.move (Operand.tmp 0), 56, "zsortanyfunc.go:422", #[{ on := 15, ground := Ground.gcOnly Departure.lateStores }], none⟩)) (v := .slice (some ⟨g, 0, none⟩) n c) rfl (by kernel_rfl) (by kernel_rfl) (by kernel_rfl) (fun _ _ _ h => h) (Or.inl ⟨by kernel_rfl, fun _ _ => by kernel_rfl⟩) trivial ?_
  simp only [Act.put, List.setIfInBounds_toArray, List.set_cons_zero, List.set_cons_succ]
  refine wpAnyH_take (i := 3) (oi := (⟨some 116, Op.move (Operand.tmp 17), 3, "zsortanyfunc.go:422", #[{ on := 15, ground := Ground.gcOnly Departure.lateStores }], none⟩)) (v := .int .i64 ((k + 1 : Nat) : Nat)) rfl (by kernel_rfl) (by kernel_rfl) (by kernel_rfl) (fun _ _ _ h => h) (Or.inl ⟨by kernel_rfl, fun _ _ => by kernel_rfl⟩) trivial ?_
  simp only [Act.put, List.setIfInBounds_toArray, List.set_cons_zero, List.set_cons_succ]
  refine wpAnyH_take (i := 4) (oi := (⟨some 117, Op.binOp BinOp.sub 3 (Operand.tmp 116) (Operand.const (Value.int IntKind.i64 1)) 3, 3, "zsortanyfunc.go:422", #[{ on := 3, ground := Ground.data }, { on := 15, ground := Ground.gcOnly Departure.lateStores }], none⟩)) (v := .int .i64 (k : Nat)) rfl (by kernel_rfl) (by kernel_rfl) (by kernel_rfl) (fun _ _ _ h => h) (Or.inl ⟨by kernel_rfl, fun W _ => run_sub1_op (a := k) rfl rfl (by omega)⟩) trivial ?_
  simp only [Act.put, List.setIfInBounds_toArray, List.set_cons_zero, List.set_cons_succ]
  refine wpAnyH_take (i := 5) (oi := (⟨some 118, Op.move (Operand.tmp 0), 56, "zsortanyfunc.go:422", #[], none⟩)) (v := .slice (some ⟨g, 0, none⟩) n c) rfl (by kernel_rfl) (by kernel_rfl) (by kernel_rfl) (fun _ _ _ h => h) (Or.inl ⟨by kernel_rfl, fun _ _ => by kernel_rfl⟩) trivial ?_
  simp only [Act.put, List.setIfInBounds_toArray, List.set_cons_zero, List.set_cons_succ]
  refine wpAnyH_take (i := 6) (oi := (⟨some 119, Op.move (Operand.tmp 17), 3, "zsortanyfunc.go:422", #[], none⟩)) (v := .int .i64 ((k + 1 : Nat) : Nat)) rfl (by kernel_rfl) (by kernel_rfl) (by kernel_rfl) (fun _ _ _ h => h) (Or.inl ⟨by kernel_rfl, fun _ _ => by kernel_rfl⟩) trivial ?_
  simp only [Act.put, List.setIfInBounds_toArray, List.set_cons_zero, List.set_cons_succ]
  refine wpAnyH_take (i := 7) (oi := (⟨some 120, Op.binOp BinOp.sub 3 (Operand.tmp 119) (Operand.const (Value.int IntKind.i64 1)) 3, 3, "zsortanyfunc.go:422", #[{ on := 6, ground := Ground.data }], none⟩)) (v := .int .i64 (k : Nat)) rfl (by kernel_rfl) (by kernel_rfl) (by kernel_rfl) (fun _ _ _ h => h) (Or.inl ⟨by kernel_rfl, fun W _ => run_sub1_op (a := k) rfl rfl (by omega)⟩) trivial ?_
  simp only [Act.put, List.setIfInBounds_toArray, List.set_cons_zero, List.set_cons_succ]
  refine wpAnyH_take (i := 8) (oi := (⟨some 121, Op.indexAddr 56 (Operand.tmp 118) (Operand.tmp 120), 0, "zsortanyfunc.go:422", #[{ on := 5, ground := Ground.data }, { on := 7, ground := Ground.data }], none⟩)) (v := .pointer (some ⟨g, (k) * 3, none⟩)) rfl (by kernel_rfl) (by kernel_rfl) (by kernel_rfl) (fun _ _ _ h => h) (Or.inl ⟨by kernel_rfl, fun W _ => run_ixA (i := k) (n := n) (c := c) rfl rfl (by omega)⟩) trivial ?_
  simp only [Act.put, List.setIfInBounds_toArray, List.set_cons_zero, List.set_cons_succ]
  refine wpAnyH_take (i := 10) (oi := (⟨some 123, Op.move (Operand.tmp 0), 56, "zsortanyfunc.go:422", #[], none⟩)) (v := .slice (some ⟨g, 0, none⟩) n c) rfl (by kernel_rfl) (by kernel_rfl) (by kernel_rfl) (fun _ _ _ h => h) (Or.inl ⟨by kernel_rfl, fun _ _ => by kernel_rfl⟩) trivial ?_
  simp only [Act.put, List.setIfInBounds_toArray, List.set_cons_zero, List.set_cons_succ]
  refine wpAnyH_take (i := 11) (oi := (⟨some 124, Op.move (Operand.tmp 17), 3, "zsortanyfunc.go:422", #[], none⟩)) (v := .int .i64 ((k + 1 : Nat) : Nat)) rfl (by kernel_rfl) (by kernel_rfl) (by kernel_rfl) (fun _ _ _ h => h) (Or.inl ⟨by kernel_rfl, fun _ _ => by kernel_rfl⟩) trivial ?_
  simp only [Act.put, List.setIfInBounds_toArray, List.set_cons_zero, List.set_cons_succ]
  refine wpAnyH_take (i := 12) (oi := (⟨some 125, Op.indexAddr 56 (Operand.tmp 123) (Operand.tmp 124), 0, "zsortanyfunc.go:422", #[{ on := 10, ground := Ground.data }, { on := 11, ground := Ground.data }], none⟩)) (v := .pointer (some ⟨g, (k + 1) * 3, none⟩)) rfl (by kernel_rfl) (by kernel_rfl) (by kernel_rfl) (fun _ _ _ h => h) (Or.inl ⟨by kernel_rfl, fun W _ => run_ixA (i := k + 1) (n := n) (c := c) rfl rfl (by omega)⟩) trivial ?_
  simp only [Act.put, List.setIfInBounds_toArray, List.set_cons_zero, List.set_cons_succ]
  refine wpAnyH_ready (rs := [9, 13]) (by kernel_rfl) (by simp) ?_
  refine AllReadyH.cons (o := (⟨some 122, Op.load 71 (Operand.tmp 121), 71, "zsortanyfunc.go:422", #[{ on := 8, ground := Ground.data }], none⟩)) rfl ?_ (AllReadyH.cons (o := (⟨some 126, Op.load 71 (Operand.tmp 125), 71, "zsortanyfunc.go:422", #[{ on := 12, ground := Ground.data }], none⟩)) rfl ?_ (AllReadyH.nil))
  · skip
    refine next_op (v := (f (k)).val) (by kernel_rfl) (run_loadS_op (f (k)).cells (by kernel_rfl) (by kernel_rfl) rfl (hA.cells (k) (by omega))) trivial (fun _ => ?_)
    simp only [Act.put, List.setIfInBounds_toArray, List.set_cons_zero, List.set_cons_succ]
    refine wpAnyH_ready (rs := [13]) (by kernel_rfl) (by simp) ?_
    refine AllReadyH.cons (o := (⟨some 126, Op.load 71 (Operand.tmp 125), 71, "zsortanyfunc.go:422", #[{ on := 12, ground := Ground.data }], none⟩)) rfl ?_ (AllReadyH.nil)
    · skip
      refine next_op (v := (f (k + 1)).val) (by kernel_rfl) (run_loadS_op (f (k + 1)).cells (by kernel_rfl) (by kernel_rfl) rfl (hA.cells (k + 1) (by omega))) trivial (fun _ => ?_)
      simp only [Act.put, List.setIfInBounds_toArray, List.set_cons_zero, List.set_cons_succ]
      refine wpAnyH_take (i := 14) (oi := (⟨some 127, Op.indexAddr 56 (Operand.tmp 113) (Operand.tmp 114), 0, "zsortanyfunc.go:422", #[{ on := 0, ground := Ground.data }, { on := 1, ground := Ground.data }, { on := 0, ground := Ground.phase }, { on := 1, ground := Ground.phase }, { on := 2, ground := Ground.textOnly Departure.lateStores }, { on := 3, ground := Ground.textOnly Departure.lateStores }, { on := 4, ground := Ground.textOnly Departure.lateStores }, { on := 5, ground := Ground.phase }, { on := 6, ground := Ground.phase }, { on := 7, ground := Ground.phase }, { on := 8, ground := Ground.phase }, { on := 9, ground := Ground.phase }, { on := 10, ground := Ground.textOnly Departure.lateStores }, { on := 11, ground := Ground.textOnly Departure.lateStores }, { on := 12, ground := Ground.textOnly Departure.lateStoresUnsure }, { on := 13, ground := Ground.phase }], none⟩)) (v := .pointer (some ⟨g, (k + 1) * 3, none⟩)) rfl (by kernel_rfl) (by kernel_rfl) (by kernel_rfl) (fun _ _ _ h => h) (Or.inl ⟨by kernel_rfl, fun W _ => run_ixA (i := k + 1) (n := n) (c := c) rfl rfl (by omega)⟩) trivial ?_
      simp only [Act.put, List.setIfInBounds_toArray, List.set_cons_zero, List.set_cons_succ]
      refine wpAnyH_ready (rs := [15]) (by kernel_rfl) (by simp) ?_
      refine AllReadyH.cons (o := (⟨none, Op.store 71 (Operand.tmp 127) (Operand.tmp 122), 0, "zsortanyfunc.go:422", #[{ on := 14, ground := Ground.data }, { on := 9, ground := Ground.data }, { on := 0, ground := Ground.phase }, { on := 1, ground := Ground.phase }, { on := 2, ground := Ground.textOnly Departure.lateStores }, { on := 3, ground := Ground.textOnly Departure.lateStores }, { on := 4, ground := Ground.textOnly Departure.lateStores }, { on := 5, ground := Ground.phase }, { on := 6, ground := Ground.phase }, { on := 7, ground := Ground.phase }, { on := 8, ground := Ground.phase }, { on := 9, ground := Ground.phase }, { on := 10, ground := Ground.textOnly Departure.lateStores }, { on := 11, ground := Ground.textOnly Departure.lateStores }, { on := 12, ground := Ground.textOnly Departure.lateStoresUnsure }, { on := 13, ground := Ground.phase }], none⟩)) rfl ?_ (AllReadyH.nil)
      · skip
        have hput := hA.put (k + 1) (by omega) (f (k))
        refine next_skip (by kernel_rfl) (run_storeF_op (i := k + 1) (x := f (k)) hA (by omega) rfl rfl) trivial (fun _ => ?_)
        simp only [Act.put]
        have hA := hput.1
        have hbt := hbt.trans hput.2
        refine wpAnyH_take (i := 16) (oi := (⟨some 128, Op.indexAddr 56 (Operand.tmp 115) (Operand.tmp 117), 0, "zsortanyfunc.go:422", #[{ on := 2, ground := Ground.data }, { on := 4, ground := Ground.data }, { on := 0, ground := Ground.phase }, { on := 1, ground := Ground.phase }, { on := 2, ground := Ground.phase }, { on := 3, ground := Ground.phase }, { on := 4, ground := Ground.phase }, { on := 5, ground := Ground.phase }, { on := 6, ground := Ground.phase }, { on := 7, ground := Ground.phase }, { on := 8, ground := Ground.phase }, { on := 9, ground := Ground.phase }, { on := 10, ground := Ground.phase }, { on := 11, ground := Ground.phase }, { on := 12, ground := Ground.phase }, { on := 13, ground := Ground.phase }, { on := 14, ground := Ground.phase }, { on := 15, ground := Ground.phase }], none⟩)) (v := .pointer (some ⟨g, (k) * 3, none⟩)) rfl (by kernel_rfl) (by kernel_rfl) (by kernel_rfl) (fun _ _ _ h => h) (Or.inl ⟨by kernel_rfl, fun W _ => run_ixA (i := k) (n := n) (c := c) rfl rfl (by omega)⟩) trivial ?_
        simp only [Act.put, List.setIfInBounds_toArray, List.set_cons_zero, List.set_cons_succ]
        refine wpAnyH_ready (rs := [17]) (by kernel_rfl) (by simp) ?_
        refine AllReadyH.cons (o := (⟨none, Op.store 71 (Operand.tmp 128) (Operand.tmp 126), 0, "zsortanyfunc.go:422", #[{ on := 16, ground := Ground.data }, { on := 13, ground := Ground.data }, { on := 15, ground := Ground.chain }, { on := 0, ground := Ground.phase }, { on := 1, ground := Ground.phase }, { on := 2, ground := Ground.phase }, { on := 3, ground := Ground.phase }, { on := 4, ground := Ground.phase }, { on := 5, ground := Ground.phase }, { on := 6, ground := Ground.phase }, { on := 7, ground := Ground.phase }, { on := 8, ground := Ground.phase }, { on := 9, ground := Ground.phase }, { on := 10, ground := Ground.phase }, { on := 11, ground := Ground.phase }, { on := 12, ground := Ground.phase }, { on := 13, ground := Ground.phase }, { on := 14, ground := Ground.phase }, { on := 15, ground := Ground.phase }], none⟩)) rfl ?_ (AllReadyH.nil)
        · skip
          have hput := hA.put (k) (by omega) (f (k + 1))
          refine next_skip (by kernel_rfl) (run_storeF_op (i := k) (x := f (k + 1)) hA (by omega) rfl rfl) trivial (fun _ => ?_)
          simp only [Act.put]
          have hA := hput.1
          have hbt := hbt.trans hput.2
          refine wpAnyH_done (by kernel_rfl) ?_ _
          exact NoPanic.normal (hend ((((w.drew).setCells g ((k + 1) * 3) (f (k)).cells)).setCells g ((k) * 3) (f (k + 1)).cells) _ _ _ _ _ _ _ _ _ _ _ _ _ _ _ _ (upd_swp f (k + 1) (k) (by omega) ▸ hA) hbt)
  · skip
    refine next_op (v := (f (k + 1)).val) (by kernel_rfl) (run_loadS_op (f (k + 1)).cells (by kernel_rfl) (by kernel_rfl) rfl (hA.cells (k + 1) (by omega))) trivial (fun _ => ?_)
    simp only [Act.put, List.setIfInBounds_toArray, List.set_cons_zero, List.set_cons_succ]
    refine wpAnyH_ready (rs := [9]) (by kernel_rfl) (by simp) ?_
    refine AllReadyH.cons (o := (⟨some 122, Op.load 71 (Operand.tmp 121), 71, "zsortanyfunc.go:422", #[{ on := 8, ground := Ground.data }], none⟩)) rfl ?_ (AllReadyH.nil)
    · skip
      refine next_op (v := (f (k)).val) (by kernel_rfl) (run_loadS_op (f (k)).cells (by kernel_rfl) (by kernel_rfl) rfl (hA.cells (k) (by omega))) trivial (fun _ => ?_)
      simp only [Act.put, List.setIfInBounds_toArray, List.set_cons_zero, List.set_cons_succ]
      refine wpAnyH_take (i := 14) (oi := (⟨some 127, Op.indexAddr 56 (Operand.tmp 113) (Operand.tmp 114), 0, "zsortanyfunc.go:422", #[{ on := 0, ground := Ground.data }, { on := 1, ground := Ground.data }, { on := 0, ground := Ground.phase }, { on := 1, ground := Ground.phase }, { on := 2, ground := Ground.textOnly Departure.lateStores }, { on := 3, ground := Ground.textOnly Departure.lateStores }, { on := 4, ground := Ground.textOnly Departure.lateStores }, { on := 5, ground := Ground.phase }, { on := 6, ground := Ground.phase }, { on := 7, ground := Ground.phase }, { on := 8, ground := Ground.phase }, { on := 9, ground := Ground.phase }, { on := 10, ground := Ground.textOnly Departure.lateStores }, { on := 11, ground := Ground.textOnly Departure.lateStores }, { on := 12, ground := Ground.textOnly Departure.lateStoresUnsure }, { on := 13, ground := Ground.phase }], none⟩)) (v := .pointer (some ⟨g, (k + 1) * 3, none⟩)) rfl (by kernel_rfl) (by kernel_rfl) (by kernel_rfl) (fun _ _ _ h => h) (Or.inl ⟨by kernel_rfl, fun W _ => run_ixA (i := k + 1) (n := n) (c := c) rfl rfl (by omega)⟩) trivial ?_
      simp only [Act.put, List.setIfInBounds_toArray, List.set_cons_zero, List.set_cons_succ]
      refine wpAnyH_ready (rs := [15]) (by kernel_rfl) (by simp) ?_
      refine AllReadyH.cons (o := (⟨none, Op.store 71 (Operand.tmp 127) (Operand.tmp 122), 0, "zsortanyfunc.go:422", #[{ on := 14, ground := Ground.data }, { on := 9, ground := Ground.data }, { on := 0, ground := Ground.phase }, { on := 1, ground := Ground.phase }, { on := 2, ground := Ground.textOnly Departure.lateStores }, { on := 3, ground := Ground.textOnly Departure.lateStores }, { on := 4, ground := Ground.textOnly Departure.lateStores }, { on := 5, ground := Ground.phase }, { on := 6, ground := Ground.phase }, { on := 7, ground := Ground.phase }, { on := 8, ground := Ground.phase }, { on := 9, ground := Ground.phase }, { on := 10, ground := Ground.textOnly Departure.lateStores }, { on := 11, ground := Ground.textOnly Departure.lateStores }, { on := 12, ground := Ground.textOnly Departure.lateStoresUnsure }, { on := 13, ground := Ground.phase }], none⟩)) rfl ?_ (AllReadyH.nil)
      · skip
        have hput := hA.put (k + 1) (by omega) (f (k))
        refine next_skip (by kernel_rfl) (run_storeF_op (i := k + 1) (x := f (k)) hA (by omega) rfl rfl) trivial (fun _ => ?_)
        simp only [Act.put]
        have hA := hput.1
        have hbt := hbt.trans hput.2
        refine wpAnyH_take (i := 16) (oi := (⟨some 128, Op.indexAddr 56 (Operand.tmp 115) (Operand.tmp 117), 0, "zsortanyfunc.go:422", #[{ on := 2, ground := Ground.data }, { on := 4, ground := Ground.data }, { on := 0, ground := Ground.phase }, { on := 1, ground := Ground.phase }, { on := 2, ground := Ground.phase }, { on := 3, ground := Ground.phase }, { on := 4, ground := Ground.phase }, { on := 5, ground := Ground.phase }, { on := 6, ground := Ground.phase }, { on := 7, ground := Ground.phase }, { on := 8, ground := Ground.phase }, { on := 9, ground := Ground.phase }, { on := 10, ground := Ground.phase }, { on := 11, ground := Ground.phase }, { on := 12, ground := Ground.phase }, { on := 13, ground := Ground.phase }, { on := 14, ground := Ground.phase }, { on := 15, ground := Ground.phase }], none⟩)) (v := .pointer (some ⟨g, (k) * 3, none⟩)) rfl (by kernel_rfl) (by kernel_rfl) (by kernel_rfl) (fun _ _ _ h => h) (Or.inl ⟨by kernel_rfl, fun W _ => run_ixA (i := k) (n := n) (c := c) rfl rfl (by omega)⟩) trivial ?_
        simp only [Act.put, List.setIfInBounds_toArray, List.set_cons_zero, List.set_cons_succ]
        refine wpAnyH_ready (rs := [17]) (by kernel_rfl) (by simp) ?_
        refine AllReadyH.cons (o := (⟨none, Op.store 71 (Operand.tmp 128) (Operand.tmp 126), 0, "zsortanyfunc.go:422", #[{ on := 16, ground := Ground.data }, { on := 13, ground := Ground.data }, { on := 15, ground := Ground.chain }, { on := 0, ground := Ground.phase }, { on := 1, ground := Ground.phase }, { on := 2, ground := Ground.phase }, { on := 3, ground := Ground.phase }, { on := 4, ground := Ground.phase }, { on := 5, ground := Ground.phase }, { on := 6, ground := Ground.phase }, { on := 7, ground := Ground.phase }, { on := 8, ground := Ground.phase }, { on := 9, ground := Ground.phase }, { on := 10, ground := Ground.phase }, { on := 11, ground := Ground.phase }, { on := 12, ground := Ground.phase }, { on := 13, ground := Ground.phase }, { on := 14, ground := Ground.phase }, { on := 15, ground := Ground.phase }], none⟩)) rfl ?_ (AllReadyH.nil)
        · skip
          have hput := hA.put (k) (by omega) (f (k + 1))
          refine next_skip (by kernel_rfl) (run_storeF_op (i := k) (x := f (k + 1)) hA (by omega) rfl rfl) trivial (fun _ => ?_)
          simp only [Act.put]
          have hA := hput.1
          have hbt := hbt.trans hput.2
          refine wpAnyH_done (by kernel_rfl) ?_ _
          exact NoPanic.normal (hend ((((w.drew).setCells g ((k + 1) * 3) (f (k)).cells)).setCells g ((k) * 3) (f (k + 1)).cells) _ _ _ _ _ _ _ _ _ _ _ _ _ _ _ _ (upd_swp f (k + 1) (k) (by omega) ▸ hA) hbt)
def opsIs4 : Array Oper := #[{ dst := some 18, op := Op.move (Operand.tmp 9), type := 3, pos := "zsortanyfunc.go:12", after := #[], guard := none }, { dst := some 19, op := Op.move (Operand.tmp 1), type := 3, pos := "zsortanyfunc.go:12", after := #[], guard := none }, { dst := some 20, op := Op.binOp BinOp.gtr 3 (Operand.tmp 18) (Operand.tmp 19) 3, type := 4, pos := "zsortanyfunc.go:12", after := #[{ on := 0, ground := Ground.data }, { on := 1, ground := Ground.data }], guard := none }, { dst := some 21, op := Op.move (Operand.tmp 20), type := 4, pos := "zsortanyfunc.go:12", after := #[{ on := 2, ground := Ground.data }], guard := none }, { dst := some 22, op := Op.move (Operand.tmp 3), type := 86, pos := "zsortanyfunc.go:12", after := #[{ on := 3, ground := Ground.guard }], guard := some (3, true) }, { dst := some 23, op := Op.move (Operand.tmp 0), type := 56, pos := "zsortanyfunc.go:12", after := #[{ on := 3, ground := Ground.guard }], guard := some (3, true) }, { dst := some 24, op := Op.move (Operand.tmp 9), type := 3, pos := "zsortanyfunc.go:12", after := #[{ on := 3, ground := Ground.guard }], guard := some (3, true) }, { dst := some 25, op := Op.indexAddr 56 (Operand.tmp 23) (Operand.tmp 24), type := 0, pos := "zsortanyfunc.go:12", after := #[{ on := 5, ground := Ground.data }, { on := 6, ground := Ground.data }, { on := 3, ground := Ground.guard }], guard := some (3, true) }, { dst := some 26, op := Op.load 71 (Operand.tmp 25), type := 71, pos := "zsortanyfunc.go:12", after := #[{ on := 7, ground := Ground.data }, { on := 3, ground := Ground.guard }], guard := some (3, true) }, { dst := some 27, op := Op.move (Operand.tmp 0), type := 56, pos := "zsortanyfunc.go:12", after := #[{ on := 3, ground := Ground.guard }], guard := some (3, true) }, { dst := some 28, op := Op.move (Operand.tmp 9), type := 3, pos := "zsortanyfunc.go:12", after := #[{ on := 3, ground := Ground.guard }], guard := some (3, true) }, { dst := some 29, op := Op.binOp BinOp.sub 3 (Operand.tmp 28) (Operand.const (Value.int IntKind.i64 1)) 3, type := 3, pos := "zsortanyfunc.go:12", after := #[{ on := 10, ground := Ground.data }, { on := 3, ground := Ground.guard }], guard := some (3, true) }, { dst := some 30, op := Op.indexAddr 56 (Operand.tmp 27) (Operand.tmp 29), type := 0, pos := "zsortanyfunc.go:12", after := #[{ on := 9, ground := Ground.data }, { on := 11, ground := Ground.data }, { on := 3, ground := Ground.guard }], guard := some (3, true) }, { dst := some 31, op := Op.load 71 (Operand.tmp 30), type := 71, pos := "zsortanyfunc.go:12", after := #[{ on := 12, ground := Ground.data }, { on := 3, ground := Ground.guard }], guard := some (3, true) }, { dst := some 32, op := Op.call { callee := Callee.value (Operand.tmp 22), args := #[Operand.tmp 26, Operand.tmp 31], argTypes := #[71, 71] }, type := 3, pos := "zsortanyfunc.go:12", after := #[{ on := 4, ground := Ground.data }, { on := 8, ground := Ground.data }, { on := 13, ground := Ground.data }, { on := 3, ground := Ground.chain }, { on := 3, ground := Ground.guard }], guard := some (3, true) }, { dst := some 33, op := Op.binOp BinOp.lss 3 (Operand.tmp 32) (Operand.const (Value.int IntKind.i64 0)) 3, type := 4, pos := "zsortanyfunc.go:12", after := #[{ on := 14, ground := Ground.data }, { on := 3, ground := Ground.guard }], guard := some (3, true) }, { dst := some 34, op := Op.pick (Operand.tmp 21) (Operand.tmp 33) (Operand.const (Value.bool false)), type := 4, pos := "zsortanyfunc.go:12", after := #[{ on := 3, ground := Ground.data }, { on := 15, ground := Ground.data }], guard := none }]
theorem regIs4 {u2 u4 u5 u6 u7 u8 u10 u11 u12 u13 u14 u15 u16 u17 u18 u19 u20 u21 u22 u23 u24 u25 u26 u27 u28 u29 u30 u31 u32 u33 u34 u35 u36 u37 u38 u39 u40 u41 u42 u43 u44 u45 u46 u47 u48 u49 u50 u51 u52 : Value} {DD : List Deferred} {Q : Exit → Act → World → Prop} {w : World} {g N n c : Nat} {f : Nat → FM} {a j : Nat} (hA : Arr w.drew g N n f) (hj : j + 1 < n) (ha : a < j + 1) (hn : n ≤ 1099511627776)
    (hend : ∀ (w2 : World) (x18 x19 x20 x21 x22 x23 x24 x25 x26 x27 x28 x29 x30 x31 x32 x33 : Value) (_ : Below w.heap.size w w2), Q .normal ⟨#[.slice (some ⟨g, 0, none⟩) n c, .int .i64 (a : Nat), u2, .func (.func 44) #[] #[], u4, u5, u6, u7, u8, .int .i64 ((j + 1 : Nat) : Nat), u10, u11, u12, u13, u14, u15, u16, u17, x18, x19, x20, x21, x22, x23, x24, x25, x26, x27, x28, x29, x30, x31, x32, x33, .bool (ltF (f (j + 1)) (f (j))), u35, u36, u37, u38, u39, u40, u41, u42, u43, u44, u45, u46, u47, u48, u49, u50, u51, u52], DD⟩ w2) :
    (Code.region 4 opsIs4 true).wp Try.prog Q ⟨#[.slice (some ⟨g, 0, none⟩) n c, .int .i64 (a : Nat), u2, .func (.func 44) #[] #[], u4, u5, u6, u7, u8, .int .i64 ((j + 1 : Nat) : Nat), u10, u11, u12, u13, u14, u15, u16, u17, u18, u19, u20, u21, u22, u23, u24, u25, u26, u27, u28, u29, u30, u31, u32, u33, u34, u35, u36, u37, u38, u39, u40, u41, u42, u43, u44, u45, u46, u47, u48, u49, u50, u51, u52], DD⟩ w := by
  refine wp_region_noPanic ?_
  refine wp_region_held_drew (S := fun _ => True) (by kernel_rfl) trivial (fun _ => ?_)
  refine wpAnyH_take (i := 0) (oi := (⟨some 18, Op.move (Operand.tmp 9), 3, "zsortanyfunc.go:12", #[], none⟩)) (v := .int .i64 ((j + 1 : Nat) : Nat)) rfl (by kernel_rfl) (by kernel_rfl) (by kernel_rfl) (fun _ _ _ h => h) (Or.inl ⟨by kernel_rfl, fun _ _ => by kernel_rfl⟩) trivial ?_
  simp only [Act.put, List.setIfInBounds_toArray, List.set_cons_zero, List.set_cons_succ]
  refine wpAnyH_take (i := 1) (oi := (⟨some 19, Op.move (Operand.tmp 1), 3, "zsortanyfunc.go:12", #[], none⟩)) (v := .int .i64 (a : Nat)) rfl (by kernel_rfl) (by kernel_rfl) (by kernel_rfl) (fun _ _ _ h => h) (Or.inl ⟨by kernel_rfl, fun _ _ => by kernel_rfl⟩) trivial ?_
  simp only [Act.put, List.setIfInBounds_toArray, List.set_cons_zero, List.set_cons_succ]
  refine wpAnyH_take (i := 2) (oi := (⟨some 20, Op.binOp BinOp.gtr 3 (Operand.tmp 18) (Operand.tmp 19) 3, 4, "zsortanyfunc.go:12", #[{ on := 0, ground := Ground.data }, { on := 1, ground := Ground.data }], none⟩)) (v := .bool true) rfl (by kernel_rfl) (by kernel_rfl) (by kernel_rfl) (fun _ _ _ h => h) (Or.inl ⟨by kernel_rfl, fun W _ => run_gtr_true rfl rfl ha⟩) trivial ?_
  simp only [Act.put, List.setIfInBounds_toArray, List.set_cons_zero, List.set_cons_succ]
  refine wpAnyH_take (i := 3) (oi := (⟨some 21, Op.move (Operand.tmp 20), 4, "zsortanyfunc.go:12", #[{ on := 2, ground := Ground.data }], none⟩)) (v := .bool true) rfl (by kernel_rfl) (by kernel_rfl) (by kernel_rfl) (fun _ _ _ h => h) (Or.inl ⟨by kernel_rfl, fun _ _ => by kernel_rfl⟩) trivial ?_
  simp only [Act.put, List.setIfInBounds_toArray, List.set_cons_zero, List.set_cons_succ]
  refine wpAnyH_take (i := 4) (oi := (⟨some 22, Op.move (Operand.tmp 3), 86, "zsortanyfunc.go:12", #[{ on := 3, ground := Ground.guard }], some (3, true)⟩)) (v := .func (.func 44) #[] #[]) rfl (by kernel_rfl) (by kernel_rfl) (by kernel_rfl) (fun _ _ _ h => h) (Or.inl ⟨by kernel_rfl, fun _ _ => by kernel_rfl⟩) trivial ?_
  simp only [Act.put, List.setIfInBounds_toArray, List.set_cons_zero, List.set_cons_succ]
  refine wpAnyH_take (i := 5) (oi := (⟨some 23, Op.move (Operand.tmp 0), 56, "zsortanyfunc.go:12", #[{ on := 3, ground := Ground.guard }], some (3, true)⟩)) (v := .slice (some ⟨g, 0, none⟩) n c) rfl (by kernel_rfl) (by kernel_rfl) (by kernel_rfl) (fun _ _ _ h => h) (Or.inl ⟨by kernel_rfl, fun _ _ => by kernel_rfl⟩) trivial ?_
  simp only [Act.put, List.setIfInBounds_toArray, List.set_cons_zero, List.set_cons_succ]
  refine wpAnyH_take (i := 6) (oi := (⟨some 24, Op.move (Operand.tmp 9), 3, "zsortanyfunc.go:12", #[{ on := 3, ground := Ground.guard }], some (3, true)⟩)) (v := .int .i64 ((j + 1 : Nat) : Nat)) rfl (by kernel_rfl) (by kernel_rfl) (by kernel_rfl) (fun _ _ _ h => h) (Or.inl ⟨by kernel_rfl, fun _ _ => by kernel_rfl⟩) trivial ?_
  simp only [Act.put, List.setIfInBounds_toArray, List.set_cons_zero, List.set_cons_succ]
  refine wpAnyH_take (i := 7) (oi := (⟨some 25, Op.indexAddr 56 (Operand.tmp 23) (Operand.tmp 24), 0, "zsortanyfunc.go:12", #[{ on := 5, ground := Ground.data }, { on := 6, ground := Ground.data }, { on := 3, ground := Ground.guard }], some (3, true)⟩)) (v := .pointer (some ⟨g, (j + 1) * 3, none⟩)) rfl (by kernel_rfl) (by kernel_rfl) (by kernel_rfl) (fun _ _ _ h => h) (Or.inl ⟨by kernel_rfl, fun W _ => run_ixA (i := j + 1) (n := n) (c := c) rfl rfl (by omega)⟩) trivial ?_
  simp only [Act.put, List.setIfInBounds_toArray, List.set_cons_zero, List.set_cons_succ]
  refine wpAnyH_take (i := 9) (oi := (⟨some 27, Op.move (Operand.tmp 0), 56, "zsortanyfunc.go:12", #[{ on := 3, ground := Ground.guard }], some (3, true)⟩)) (v := .slice (some ⟨g, 0, none⟩) n c) rfl (by kernel_rfl) (by kernel_rfl) (by kernel_rfl) (fun _ _ _ h => h) (Or.inl ⟨by kernel_rfl, fun _ _ => by kernel_rfl⟩) trivial ?_
  simp only [Act.put, List.setIfInBounds_toArray, List.set_cons_zero, List.set_cons_succ]
  refine wpAnyH_take (i := 10) (oi := (⟨some 28, Op.move (Operand.tmp 9), 3, "zsortanyfunc.go:12", #[{ on := 3, ground := Ground.guard }], some (3, true)⟩)) (v := .int .i64 ((j + 1 : Nat) : Nat)) rfl (by kernel_rfl) (by kernel_rfl) (by kernel_rfl) (fun _ _ _ h => h) (Or.inl ⟨by kernel_rfl, fun _ _ => by kernel_rfl⟩) trivial ?_
  simp only [Act.put, List.setIfInBounds_toArray, List.set_cons_zero, List.set_cons_succ]
  refine wpAnyH_take (i := 11) (oi := (⟨some 29, Op.binOp BinOp.sub 3 (Operand.tmp 28) (Operand.const (Value.int IntKind.i64 1)) 3, 3, "zsortanyfunc.go:12", #[{ on := 10, ground := Ground.data }, { on := 3, ground := Ground.guard }], some (3, true)⟩)) (v := .int .i64 (j : Nat)) rfl (by kernel_rfl) (by kernel_rfl) (by kernel_rfl) (fun _ _ _ h => h) (Or.inl ⟨by kernel_rfl, fun W _ => run_sub1_op (a := j) rfl rfl (by omega)⟩) trivial ?_
  simp only [Act.put, List.setIfInBounds_toArray, List.set_cons_zero, List.set_cons_succ]
  refine wpAnyH_take (i := 12) (oi := (⟨some 30, Op.indexAddr 56 (Operand.tmp 27) (Operand.tmp 29), 0, "zsortanyfunc.go:12", #[{ on := 9, ground := Ground.data }, { on := 11, ground := Ground.data }, { on := 3, ground := Ground.guard }], some (3, true)⟩)) (v := .pointer (some ⟨g, (j) * 3, none⟩)) rfl (by kernel_rfl) (by kernel_rfl) (by kernel_rfl) (fun _ _ _ h => h) (Or.inl ⟨by kernel_rfl, fun W _ => run_ixA (i := j) (n := n) (c := c) rfl rfl (by omega)⟩) trivial ?_
  simp only [Act.put, List.setIfInBounds_toArray, List.set_cons_zero, List.set_cons_succ]
  refine wpAnyH_ready (rs := [8, 13]) (by kernel_rfl) (by simp) ?_
  refine AllReadyH.cons (o := (⟨some 26, Op.load 71 (Operand.tmp 25), 71, "zsortanyfunc.go:12", #[{ on := 7, ground := Ground.data }, { on := 3, ground := Ground.guard }], some (3, true)⟩)) rfl ?_ (AllReadyH.cons (o := (⟨some 31, Op.load 71 (Operand.tmp 30), 71, "zsortanyfunc.go:12", #[{ on := 12, ground := Ground.data }, { on := 3, ground := Ground.guard }], some (3, true)⟩)) rfl ?_ (AllReadyH.nil))
  · skip
    refine next_op (v := (f (j + 1)).val) (by kernel_rfl) (run_loadS_op (f (j + 1)).cells (by kernel_rfl) (by kernel_rfl) rfl (hA.cells (j + 1) (by omega))) trivial (fun _ => ?_)
    simp only [Act.put, List.setIfInBounds_toArray, List.set_cons_zero, List.set_cons_succ]
    refine wpAnyH_ready (rs := [13]) (by kernel_rfl) (by simp) ?_
    refine AllReadyH.cons (o := (⟨some 31, Op.load 71 (Operand.tmp 30), 71, "zsortanyfunc.go:12", #[{ on := 12, ground := Ground.data }, { on := 3, ground := Ground.guard }], some (3, true)⟩)) rfl ?_ (AllReadyH.nil)
    · skip
      refine next_op (v := (f (j)).val) (by kernel_rfl) (run_loadS_op (f (j)).cells (by kernel_rfl) (by kernel_rfl) rfl (hA.cells (j) (by omega))) trivial (fun _ => ?_)
      simp only [Act.put, List.setIfInBounds_toArray, List.set_cons_zero, List.set_cons_succ]
      refine wpAnyH_ready (rs := [14]) (by kernel_rfl) (by simp) ?_
      refine AllReadyH.cons (o := (⟨some 32, Op.call { callee := Callee.value (Operand.tmp 22), args := #[Operand.tmp 26, Operand.tmp 31], argTypes := #[71, 71] }, 3, "zsortanyfunc.go:12", #[{ on := 4, ground := Ground.data }, { on := 8, ground := Ground.data }, { on := 13, ground := Ground.data }, { on := 3, ground := Ground.chain }, { on := 3, ground := Ground.guard }], some (3, true)⟩)) rfl ?_ (AllReadyH.nil)
      · skip
        refine next_call (f := 44) (args := #[(f (j + 1)).val, (f (j)).val]) (by kernel_rfl) (by kernel_rfl) (compare_any (f (j + 1)) (f (j)) w.drew) ?_
        rintro e wy3 ⟨rfl, hb⟩
        refine ⟨.int .i64 (cmpF (f (j + 1)) (f (j))), rfl, trivial, fun _ => ?_⟩
        simp only [Act.put, List.setIfInBounds_toArray, List.set_cons_zero, List.set_cons_succ]
        refine wpAnyH_take (i := 15) (oi := (⟨some 33, Op.binOp BinOp.lss 3 (Operand.tmp 32) (Operand.const (Value.int IntKind.i64 0)) 3, 4, "zsortanyfunc.go:12", #[{ on := 14, ground := Ground.data }, { on := 3, ground := Ground.guard }], some (3, true)⟩)) (v := .bool (ltF (f (j + 1)) (f (j)))) rfl (by kernel_rfl) (by kernel_rfl) (by kernel_rfl) (fun _ _ _ h => h) (Or.inl ⟨by kernel_rfl, fun W _ => run_lss0_op rfl rfl⟩) trivial ?_
        simp only [Act.put, List.setIfInBounds_toArray, List.set_cons_zero, List.set_cons_succ]
        refine wpAnyH_take (i := 16) (oi := (⟨some 34, Op.pick (Operand.tmp 21) (Operand.tmp 33) (Operand.const (Value.bool false)), 4, "zsortanyfunc.go:12", #[{ on := 3, ground := Ground.data }, { on := 15, ground := Ground.data }], none⟩)) (v := .bool (ltF (f (j + 1)) (f (j)))) rfl (by kernel_rfl) (by kernel_rfl) (by kernel_rfl) (fun _ _ _ h => h) (Or.inl ⟨by kernel_rfl, fun _ _ => by kernel_rfl⟩) trivial ?_
        simp only [Act.put, List.setIfInBounds_toArray, List.set_cons_zero, List.set_cons_succ]
        refine wpAnyH_done (by kernel_rfl) ?_ _
        exact NoPanic.normal (hend wy3 _ _ _ _ _ _ _ _ _ _ _ _ _ _ _ _ ((Below.refl _ _).drew.trans hb))
  · skip
    refine next_op (v := (f (j)).val) (by kernel_rfl) (run_loadS_op (f (j)).cells (by kernel_rfl) (by kernel_rfl) rfl (hA.cells (j) (by omega))) trivial (fun _ => ?_)
    simp only [Act.put, List.setIfInBounds_toArray, List.set_cons_zero, List.set_cons_succ]
    refine wpAnyH_ready (rs := [8]) (by kernel_rfl) (by simp) ?_
    refine AllReadyH.cons (o := (⟨some 26, Op.load 71 (Operand.tmp 25), 71, "zsortanyfunc.go:12", #[{ on := 7, ground := Ground.data }, { on := 3, ground := Ground.guard }], some (3, true)⟩)) rfl ?_ (AllReadyH.nil)
    · skip
      refine next_op (v := (f (j + 1)).val) (by kernel_rfl) (run_loadS_op (f (j + 1)).cells (by kernel_rfl) (by kernel_rfl) rfl (hA.cells (j + 1) (by omega))) trivial (fun _ => ?_)
      simp only [Act.put, List.setIfInBounds_toArray, List.set_cons_zero, List.set_cons_succ]
      refine wpAnyH_ready (rs := [14]) (by kernel_rfl) (by simp) ?_
      refine AllReadyH.cons (o := (⟨some 32, Op.call { callee := Callee.value (Operand.tmp 22), args := #[Operand.tmp 26, Operand.tmp 31], argTypes := #[71, 71] }, 3, "zsortanyfunc.go:12", #[{ on := 4, ground := Ground.data }, { on := 8, ground := Ground.data }, { on := 13, ground := Ground.data }, { on := 3, ground := Ground.chain }, { on := 3, ground := Ground.guard }], some (3, true)⟩)) rfl ?_ (AllReadyH.nil)
      · skip
        refine next_call (f := 44) (args := #[(f (j + 1)).val, (f (j)).val]) (by kernel_rfl) (by kernel_rfl) (compare_any (f (j + 1)) (f (j)) w.drew) ?_
        rintro e wy6 ⟨rfl, hb⟩
        refine ⟨.int .i64 (cmpF (f (j + 1)) (f (j))), rfl, trivial, fun _ => ?_⟩
        simp only [Act.put, List.setIfInBounds_toArray, List.set_cons_zero, List.set_cons_succ]
        refine wpAnyH_take (i := 15) (oi := (⟨some 33, Op.binOp BinOp.lss 3 (Operand.tmp 32) (Operand.const (Value.int IntKind.i64 0)) 3, 4, "zsortanyfunc.go:12", #[{ on := 14, ground := Ground.data }, { on := 3, ground := Ground.guard }], some (3, true)⟩)) (v := .bool (ltF (f (j + 1)) (f (j)))) rfl (by kernel_rfl) (by kernel_rfl) (by kernel_rfl) (fun _ _ _ h => h) (Or.inl ⟨by kernel_rfl, fun W _ => run_lss0_op rfl rfl⟩) trivial ?_
        simp only [Act.put, List.setIfInBounds_toArray, List.set_cons_zero, List.set_cons_succ]
        refine wpAnyH_take (i := 16) (oi := (⟨some 34, Op.pick (Operand.tmp 21) (Operand.tmp 33) (Operand.const (Value.bool false)), 4, "zsortanyfunc.go:12", #[{ on := 3, ground := Ground.data }, { on := 15, ground := Ground.data }], none⟩)) (v := .bool (ltF (f (j + 1)) (f (j)))) rfl (by kernel_rfl) (by kernel_rfl) (by kernel_rfl) (fun _ _ _ h => h) (Or.inl ⟨by kernel_rfl, fun _ _ => by kernel_rfl⟩) trivial ?_
        simp only [Act.put, List.setIfInBounds_toArray, List.set_cons_zero, List.set_cons_succ]
        refine wpAnyH_done (by kernel_rfl) ?_ _
        exact NoPanic.normal (hend wy6 _ _ _ _ _ _ _ _ _ _ _ _ _ _ _ _ ((Below.refl _ _).drew.trans hb))
def opsSm5 : Array Oper := #[{ dst := some 40, op := Op.move (Operand.tmp 4), type := 86, pos := "zsortanyfunc.go:390", after := #[], guard := none }, { dst := some 41, op := Op.move (Operand.tmp 0), type := 56, pos := "zsortanyfunc.go:390", after := #[], guard := none }, { dst := some 42, op := Op.move (Operand.tmp 12), type := 3, pos := "zsortanyfunc.go:390", after := #[], guard := none }, { dst := some 43, op := Op.indexAddr 56 (Operand.tmp 41) (Operand.tmp 42), type := 0, pos := "zsortanyfunc.go:390", after := #[{ on := 1, ground := Ground.data }, { on := 2, ground := Ground.data }], guard := none }, { dst := some 44, op := Op.load 71 (Operand.tmp 43), type := 71, pos := "zsortanyfunc.go:390", after := #[{ on := 3, ground := Ground.data }], guard := none }, { dst := some 45, op := Op.move (Operand.tmp 0), type := 56, pos := "zsortanyfunc.go:390", after := #[], guard := none }, { dst := some 46, op := Op.move (Operand.tmp 1), type := 3, pos := "zsortanyfunc.go:390", after := #[], guard := none }, { dst := some 47, op := Op.indexAddr 56 (Operand.tmp 45) (Operand.tmp 46), type := 0, pos := "zsortanyfunc.go:390", after := #[{ on := 5, ground := Ground.data }, { on := 6, ground := Ground.data }], guard := none }, { dst := some 48, op := Op.load 71 (Operand.tmp 47), type := 71, pos := "zsortanyfunc.go:390", after := #[{ on := 7, ground := Ground.data }], guard := none }, { dst := some 49, op := Op.call { callee := Callee.value (Operand.tmp 40), args := #[Operand.tmp 44, Operand.tmp 48], argTypes := #[71, 71] }, type := 3, pos := "zsortanyfunc.go:390", after := #[{ on := 0, ground := Ground.data }, { on := 4, ground := Ground.data }, { on := 8, ground := Ground.data }], guard := none }, { dst := some 50, op := Op.binOp BinOp.lss 3 (Operand.tmp 49) (Operand.const (Value.int IntKind.i64 0)) 3, type := 4, pos := "zsortanyfunc.go:390", after := #[{ on := 9, ground := Ground.data }], guard := none }]
theorem regSm5 {u2 u3 u5 u6 u7 u8 u9 u10 u11 u13 u14 u15 u16 u17 u18 u19 u20 u21 u22 u23 u24 u25 u26 u27 u28 u29 u30 u31 u32 u33 u34 u35 u36 u37 u38 u39 u40 u41 u42 u43 u44 u45 u46 u47 u48 u49 u50 u51 u52 u53 u54 u55 u56 u57 u58 u59 u60 u61 u62 u63 u64 u65 u66 u67 u68 u69 u70 u71 u72 u73 u74 u75 u76 u77 u78 u79 u80 u81 u82 u83 u84 u85 u86 u87 u88 u89 u90 u91 u92 u93 u94 u95 u96 u97 u98 u99 u100 u101 u102 u103 u104 u105 u106 u107 u108 u109 u110 u111 u112 u113 u114 u115 u116 u117 u118 u119 u120 u121 u122 u123 u124 u125 u126 u127 u128 u129 u130 u131 u132 u133 u134 u135 u136 u137 u138 u139 u140 u141 u142 u143 u144 u145 u146 u147 u148 u149 u150 u151 u152 u153 u154 u155 u156 u157 u158 u159 u160 u161 u162 u163 u164 u165 u166 u167 u168 u169 u170 u171 u172 u173 u174 u175 u176 u177 u178 u179 u180 u181 u182 u183 u184 u185 u186 u187 u188 u189 u190 u191 u192 u193 u194 u195 u196 u197 u198 u199 u200 u201 u202 u203 u204 u205 u206 u207 u208 u209 u210 u211 u212 u213 u214 u215 u216 u217 u218 u219 : Value} {DD : List Deferred} {Q : Exit → Act → World → Prop} {w : World} {g N n c : Nat} {f : Nat → FM} {a h : Nat} (hA : Arr w.drew g N n f) (ha : a < n) (hh : h < n)
    (hend : ∀ (w2 : World) (x40 x41 x42 x43 x44 x45 x46 x47 x48 x49 : Value) (_ : Below w.heap.size w w2), Q .normal ⟨#[.slice (some ⟨g, 0, none⟩) n c, .int .i64 (a : Nat), u2, u3, .func (.func 44) #[] #[], u5, u6, u7, u8, u9, u10, u11, .int .i64 (h : Nat), u13, u14, u15, u16, u17, u18, u19, u20, u21, u22, u23, u24, u25, u26, u27, u28, u29, u30, u31, u32, u33, u34, u35, u36, u37, u38, u39, x40, x41, x42, x43, x44, x45, x46, x47, x48, x49, .bool (ltF (f (h)) (f (a))), u51, u52, u53, u54, u55, u56, u57, u58, u59, u60, u61, u62, u63, u64, u65, u66, u67, u68, u69, u70, u71, u72, u73, u74, u75, u76, u77, u78, u79, u80, u81, u82, u83, u84, u85, u86, u87, u88, u89, u90, u91, u92, u93, u94, u95, u96, u97, u98, u99, u100, u101, u102, u103, u104, u105, u106, u107, u108, u109, u110, u111, u112, u113, u114, u115, u116, u117, u118, u119, u120, u121, u122, u123, u124, u125, u126, u127, u128, u129, u130, u131, u132, u133, u134, u135, u136, u137, u138, u139, u140, u141, u142, u143, u144, u145, u146, u147, u148, u149, u150, u151, u152, u153, u154, u155, u156, u157, u158, u159, u160, u161, u162, u163, u164, u165, u166, u167, u168, u169, u170, u171, u172, u173, u174, u175, u176, u177, u178, u179, u180, u181, u182, u183, u184, u185, u186, u187, u188, u189, u190, u191, u192, u193, u194, u195, u196, u197, u198, u199, u200, u201, u202, u203, u204, u205, u206, u207, u208, u209, u210, u211, u212, u213, u214, u215, u216, u217, u218, u219], DD⟩ w2) :
    (Code.region 5 opsSm5 true).wp Try.prog Q ⟨#[.slice (some ⟨g, 0, none⟩) n c, .int .i64 (a : Nat), u2, u3, .func (.func 44) #[] #[], u5, u6, u7, u8, u9, u10, u11, .int .i64 (h : Nat), u13, u14, u15, u16, u17, u18, u19, u20, u21, u22, u23, u24, u25, u26, u27, u28, u29, u30, u31, u32, u33, u34, u35, u36, u37, u38, u39, u40, u41, u42, u43, u44, u45, u46, u47, u48, u49, u50, u51, u52, u53, u54, u55, u56, u57, u58, u59, u60, u61, u62, u63, u64, u65, u66, u67, u68, u69, u70, u71, u72, u73, u74, u75, u76, u77, u78, u79, u80, u81, u82, u83, u84, u85, u86, u87, u88, u89, u90, u91, u92, u93, u94, u95, u96, u97, u98, u99, u100, u101, u102, u103, u104, u105, u106, u107, u108, u109, u110, u111, u112, u113, u114, u115, u116, u117, u118, u119, u120, u121, u122, u123, u124, u125, u126, u127, u128, u129, u130, u131, u132, u133, u134, u135, u136, u137, u138, u139, u140, u141, u142, u143, u144, u145, u146, u147, u148, u149, u150, u151, u152, u153, u154, u155, u156, u157, u158, u159, u160, u161, u162, u163, u164, u165, u166, u167, u168, u169, u170, u171, u172, u173, u174, u175, u176, u177, u178, u179, u180, u181, u182, u183, u184, u185, u186, u187, u188, u189, u190, u191, u192, u193, u194, u195, u196, u197, u198, u199, u200, u201, u202, u203, u204, u205, u206, u207, u208, u209, u210, u211, u212, u213, u214, u215, u216, u217, u218, u219], DD⟩ w := by
  refine wp_region_noPanic ?_
  refine wp_region_held_drew (S := fun _ => True) (by kernel_rfl) trivial (fun _ => ?_)
  refine wpAnyH_take (i := 0) (oi := (⟨some 40, Op.move (Operand.tmp 4), 86, "zsortanyfunc.go:390", #[], none⟩)) (v := .func (.func 44) #[] #[]) rfl (by kernel_rfl) (by kernel_rfl) (by kernel_rfl) (fun _ _ _ h => h) (Or.inl ⟨by kernel_rfl, fun _ _ => by kernel_rfl⟩) trivial ?_
  simp only [Act.put, List.setIfInBounds_toArray, List.set_cons_zero, List.set_cons_succ]
  refine wpAnyH_take (i := 1) (oi := (⟨some 41, Op.move (Operand.tmp 0), 56, "zsortanyfunc.go:390", #[], none⟩)) (v := .slice (some ⟨g, 0, none⟩) n c) rfl (by kernel_rfl) (by kernel_rfl) (by kernel_rfl) (fun _ _ _ h => h) (Or.inl ⟨by kernel_rfl, fun _ _ => by kernel_rfl⟩) trivial ?_
  simp only [Act.put, List.setIfInBounds_toArray, List.set_cons_zero, List.set_cons_succ]
  refine wpAnyH_take (i := 2) (oi := (⟨some 42, Op.move (Operand.tmp 12), 3, "zsortanyfunc.go:390", #[], none⟩)) (v := .int .i64 (h : Nat)) rfl (by kernel_rfl) (by kernel_rfl) (by kernel_rfl) (fun _ _ _ h => h) (Or.inl ⟨by kernel_rfl, fun _ _ => by kernel_rfl⟩) trivial ?_
  simp only [Act.put, List.setIfInBounds_toArray, List.set_cons_zero, List.set_cons_succ]
  refine wpAnyH_take (i := 3) (oi := (⟨some 43, Op.indexAddr 56 (Operand.tmp 41) (Operand.tmp 42), 0, "zsortanyfunc.go:390", #[{ on := 1, ground := Ground.data }, { on := 2, ground := Ground.data }], none⟩)) (v := .pointer (some ⟨g, (h) * 3, none⟩)) rfl (by kernel_rfl) (by kernel_rfl) (by kernel_rfl) (fun _ _ _ h => h) (Or.inl ⟨by kernel_rfl, fun W _ => run_ixA (i := h) (n := n) (c := c) rfl rfl (by omega)⟩) trivial ?_
  simp only [Act.put, List.setIfInBounds_toArray, List.set_cons_zero, List.set_cons_succ]
  refine wpAnyH_take (i := 5) (oi := (⟨some 45, Op.move (Operand.tmp 0), 56, "zsortanyfunc.go:390", #[], none⟩)) (v := .slice (some ⟨g, 0, none⟩) n c) rfl (by kernel_rfl) (by kernel_rfl) (by kernel_rfl) (fun _ _ _ h => h) (Or.inl ⟨by kernel_rfl, fun _ _ => by kernel_rfl⟩) trivial ?_
  simp only [Act.put, List.setIfInBounds_toArray, List.set_cons_zero, List.set_cons_succ]
  refine wpAnyH_take (i := 6) (oi := (⟨some 46, Op.move (Operand.tmp 1), 3, "zsortanyfunc.go:390", #[], none⟩)) (v := .int .i64 (a : Nat)) rfl (by kernel_rfl) (by kernel_rfl) (by kernel_rfl) (fun _ _ _ h => h) (Or.inl ⟨by kernel_rfl, fun _ _ => by kernel_rfl⟩) trivial ?_
  simp only [Act.put, List.setIfInBounds_toArray, List.set_cons_zero, List.set_cons_succ]
  refine wpAnyH_take (i := 7) (oi := (⟨some 47, Op.indexAddr 56 (Operand.tmp 45) (Operand.tmp 46), 0, "zsortanyfunc.go:390", #[{ on := 5, ground := Ground.data }, { on := 6, ground := Ground.data }], none⟩)) (v := .pointer (some ⟨g, (a) * 3, none⟩)) rfl (by kernel_rfl) (by kernel_rfl) (by kernel_rfl) (fun _ _ _ h => h) (Or.inl ⟨by kernel_rfl, fun W _ => run_ixA (i := a) (n := n) (c := c) rfl rfl (by omega)⟩) trivial ?_
  simp only [Act.put, List.setIfInBounds_toArray, List.set_cons_zero, List.set_cons_succ]
  refine wpAnyH_ready (rs := [4, 8]) (by kernel_rfl) (by simp) ?_
  refine AllReadyH.cons (o := (⟨some 44, Op.load 71 (Operand.tmp 43), 71, "zsortanyfunc.go:390", #[{ on := 3, ground := Ground.data }], none⟩)) rfl ?_ (AllReadyH.cons (o := (⟨some 48, Op.load 71 (Operand.tmp 47), 71, "zsortanyfunc.go:390", #[{ on := 7, ground := Ground.data }], none⟩)) rfl ?_ (AllReadyH.nil))
  · skip
    refine next_op (v := (f (h)).val) (by kernel_rfl) (run_loadS_op (f (h)).cells (by kernel_rfl) (by kernel_rfl) rfl (hA.cells (h) (by omega))) trivial (fun _ => ?_)
    simp only [Act.put, List.setIfInBounds_toArray, List.set_cons_zero, List.set_cons_succ]
    refine wpAnyH_ready (rs := [8]) (by kernel_rfl) (by simp) ?_
    refine AllReadyH.cons (o := (⟨some 48, Op.load 71 (Operand.tmp 47), 71, "zsortanyfunc.go:390", #[{ on := 7, ground := Ground.data }], none⟩)) rfl ?_ (AllReadyH.nil)
    · skip
      refine next_op (v := (f (a)).val) (by kernel_rfl) (run_loadS_op (f (a)).cells (by kernel_rfl) (by kernel_rfl) rfl (hA.cells (a) (by omega))) trivial (fun _ => ?_)
      simp only [Act.put, List.setIfInBounds_toArray, List.set_cons_zero, List.set_cons_succ]
      refine wpAnyH_ready (rs := [9]) (by kernel_rfl) (by simp) ?_
      refine AllReadyH.cons (o := (⟨some 49, Op.call { callee := Callee.value (Operand.tmp 40), args := #[Operand.tmp 44, Operand.tmp 48], argTypes := #[71, 71] }, 3, "zsortanyfunc.go:390", #[{ on := 0, ground := Ground.data }, { on := 4, ground := Ground.data }, { on := 8, ground := Ground.data }], none⟩)) rfl ?_ (AllReadyH.nil)
      · skip
        refine next_call (f := 44) (args := #[(f (h)).val, (f (a)).val]) (by kernel_rfl) (by kernel_rfl) (compare_any (f (h)) (f (a)) w.drew) ?_
        rintro e wy3 ⟨rfl, hb⟩
        refine ⟨.int .i64 (cmpF (f (h)) (f (a))), rfl, trivial, fun _ => ?_⟩
        simp only [Act.put, List.setIfInBounds_toArray, List.set_cons_zero, List.set_cons_succ]
        refine wpAnyH_take (i := 10) (oi := (⟨some 50, Op.binOp BinOp.lss 3 (Operand.tmp 49) (Operand.const (Value.int IntKind.i64 0)) 3, 4, "zsortanyfunc.go:390", #[{ on := 9, ground := Ground.data }], none⟩)) (v := .bool (ltF (f (h)) (f (a)))) rfl (by kernel_rfl) (by kernel_rfl) (by kernel_rfl) (fun _ _ _ h => h) (Or.inl ⟨by kernel_rfl, fun W _ => run_lss0_op rfl rfl⟩) trivial ?_
        simp only [Act.put, List.setIfInBounds_toArray, List.set_cons_zero, List.set_cons_succ]
        refine wpAnyH_done (by kernel_rfl) ?_ _
        exact NoPanic.normal (hend wy3 _ _ _ _ _ _ _ _ _ _ ((Below.refl _ _).drew.trans hb))
  · skip
    refine next_op (v := (f (a)).val) (by kernel_rfl) (run_loadS_op (f (a)).cells (by kernel_rfl) (by kernel_rfl) rfl (hA.cells (a) (by omega))) trivial (fun _ => ?_)
    simp only [Act.put, List.setIfInBounds_toArray, List.set_cons_zero, List.set_cons_succ]
    refine wpAnyH_ready (rs := [4]) (by kernel_rfl) (by simp) ?_
    refine AllReadyH.cons (o := (⟨some 44, Op.load 71 (Operand.tmp 43), 71, "zsortanyfunc.go:390", #[{ on := 3, ground := Ground.data }], none⟩)) rfl ?_ (AllReadyH.nil)
    · skip
      refine next_op (v := (f (h)).val) (by kernel_rfl) (run_loadS_op (f (h)).cells (by kernel_rfl) (by kernel_rfl) rfl (hA.cells (h) (by omega))) trivial (fun _ => ?_)
      simp only [Act.put, List.setIfInBounds_toArray, List.set_cons_zero, List.set_cons_succ]
      refine wpAnyH_ready (rs := [9]) (by kernel_rfl) (by simp) ?_
      refine AllReadyH.cons (o := (⟨some 49, Op.call { callee := Callee.value (Operand.tmp 40), args := #[Operand.tmp 44, Operand.tmp 48], argTypes := #[71, 71] }, 3, "zsortanyfunc.go:390", #[{ on := 0, ground := Ground.data }, { on := 4, ground := Ground.data }, { on := 8, ground := Ground.data }], none⟩)) rfl ?_ (AllReadyH.nil)
      · skip
        refine next_call (f := 44) (args := #[(f (h)).val, (f (a)).val]) (by kernel_rfl) (by kernel_rfl) (compare_any (f (h)) (f (a)) w.drew) ?_
        rintro e wy6 ⟨rfl, hb⟩
        refine ⟨.int .i64 (cmpF (f (h)) (f (a))), rfl, trivial, fun _ => ?_⟩
        simp only [Act.put, List.setIfInBounds_toArray, List.set_cons_zero, List.set_cons_succ]
        refine wpAnyH_take (i := 10) (oi := (⟨some 50, Op.binOp BinOp.lss 3 (Operand.tmp 49) (Operand.const (Value.int IntKind.i64 0)) 3, 4, "zsortanyfunc.go:390", #[{ on := 9, ground := Ground.data }], none⟩)) (v := .bool (ltF (f (h)) (f (a)))) rfl (by kernel_rfl) (by kernel_rfl) (by kernel_rfl) (fun _ _ _ h => h) (Or.inl ⟨by kernel_rfl, fun W _ => run_lss0_op rfl rfl⟩) trivial ?_
        simp only [Act.put, List.setIfInBounds_toArray, List.set_cons_zero, List.set_cons_succ]
        refine wpAnyH_done (by kernel_rfl) ?_ _
        exact NoPanic.normal (hend wy6 _ _ _ _ _ _ _ _ _ _ ((Below.refl _ _).drew.trans hb))
def opsSm17 : Array Oper := #[{ dst := some 92, op := Op.move (Operand.tmp 4), type := 86, pos := "zsortanyfunc.go:414", after := #[], guard := none }, { dst := some 93, op := Op.move (Operand.tmp 0), type := 56, pos := "zsortanyfunc.go:414", after := #[], guard := none }, { dst := some 94, op := Op.move (Operand.tmp 2), type := 3, pos := "zsortanyfunc.go:414", after := #[], guard := none }, { dst := some 95, op := Op.indexAddr 56 (Operand.tmp 93) (Operand.tmp 94), type := 0, pos := "zsortanyfunc.go:414", after := #[{ on := 1, ground := Ground.data }, { on := 2, ground := Ground.data }], guard := none }, { dst := some 96, op := Op.load 71 (Operand.tmp 95), type := 71, pos := "zsortanyfunc.go:414", after := #[{ on := 3, ground := Ground.data }], guard := none }, { dst := some 97, op := Op.move (Operand.tmp 0), type := 56, pos := "zsortanyfunc.go:414", after := #[], guard := none }, { dst := some 98, op := Op.move (Operand.tmp 16), type := 3, pos := "zsortanyfunc.go:414", after := #[], guard := none }, { dst := some 99, op := Op.indexAddr 56 (Operand.tmp 97) (Operand.tmp 98), type := 0, pos := "zsortanyfunc.go:414", after := #[{ on := 5, ground := Ground.data }, { on := 6, ground := Ground.data }], guard := none }, { dst := some 100, op := Op.load 71 (Operand.tmp 99), type := 71, pos := "zsortanyfunc.go:414", after := #[{ on := 7, ground := Ground.data }], guard := none }, { dst := some 101, op := Op.call { callee := Callee.value (Operand.tmp 92), args := #[Operand.tmp 96, Operand.tmp 100], argTypes := #[71, 71] }, type := 3, pos := "zsortanyfunc.go:414", after := #[{ on := 0, ground := Ground.data }, { on := 4, ground := Ground.data }, { on := 8, ground := Ground.data }], guard := none }, { dst := some 102, op := Op.binOp BinOp.lss 3 (Operand.tmp 101) (Operand.const (Value.int IntKind.i64 0)) 3, type := 4, pos := "zsortanyfunc.go:414", after := #[{ on := 9, ground := Ground.data }], guard := none }, { dst := some 103, op := Op.unOp UnOp.not 4 (Operand.tmp 102), type := 4, pos := "zsortanyfunc.go:414", after := #[{ on := 10, ground := Ground.data }], guard := none }]
theorem regSm17 {u1 u3 u5 u6 u7 u8 u9 u10 u11 u12 u13 u14 u15 u17 u18 u19 u20 u21 u22 u23 u24 u25 u26 u27 u28 u29 u30 u31 u32 u33 u34 u35 u36 u37 u38 u39 u40 u41 u42 u43 u44 u45 u46 u47 u48 u49 u50 u51 u52 u53 u54 u55 u56 u57 u58 u59 u60 u61 u62 u63 u64 u65 u66 u67 u68 u69 u70 u71 u72 u73 u74 u75 u76 u77 u78 u79 u80 u81 u82 u83 u84 u85 u86 u87 u88 u89 u90 u91 u92 u93 u94 u95 u96 u97 u98 u99 u100 u101 u102 u103 u104 u105 u106 u107 u108 u109 u110 u111 u112 u113 u114 u115 u116 u117 u118 u119 u120 u121 u122 u123 u124 u125 u126 u127 u128 u129 u130 u131 u132 u133 u134 u135 u136 u137 u138 u139 u140 u141 u142 u143 u144 u145 u146 u147 u148 u149 u150 u151 u152 u153 u154 u155 u156 u157 u158 u159 u160 u161 u162 u163 u164 u165 u166 u167 u168 u169 u170 u171 u172 u173 u174 u175 u176 u177 u178 u179 u180 u181 u182 u183 u184 u185 u186 u187 u188 u189 u190 u191 u192 u193 u194 u195 u196 u197 u198 u199 u200 u201 u202 u203 u204 u205 u206 u207 u208 u209 u210 u211 u212 u213 u214 u215 u216 u217 u218 u219 : Value} {DD : List Deferred} {Q : Exit → Act → World → Prop} {w : World} {g N n c : Nat} {f : Nat → FM} {m h : Nat} (hA : Arr w.drew g N n f) (hm : m < n) (hh : h < n)
    (hend : ∀ (w2 : World) (x92 x93 x94 x95 x96 x97 x98 x99 x100 x101 x102 : Value) (_ : Below w.heap.size w w2), Q .normal ⟨#[.slice (some ⟨g, 0, none⟩) n c, u1, .int .i64 (m : Nat), u3, .func (.func 44) #[] #[], u5, u6, u7, u8, u9, u10, u11, u12, u13, u14, u15, .int .i64 (h : Nat), u17, u18, u19, u20, u21, u22, u23, u24, u25, u26, u27, u28, u29, u30, u31, u32, u33, u34, u35, u36, u37, u38, u39, u40, u41, u42, u43, u44, u45, u46, u47, u48, u49, u50, u51, u52, u53, u54, u55, u56, u57, u58, u59, u60, u61, u62, u63, u64, u65, u66, u67, u68, u69, u70, u71, u72, u73, u74, u75, u76, u77, u78, u79, u80, u81, u82, u83, u84, u85, u86, u87, u88, u89, u90, u91, x92, x93, x94, x95, x96, x97, x98, x99, x100, x101, x102, .bool (!ltF (f (m)) (f (h))), u104, u105, u106, u107, u108, u109, u110, u111, u112, u113, u114, u115, u116, u117, u118, u119, u120, u121, u122, u123, u124, u125, u126, u127, u128, u129, u130, u131, u132, u133, u134, u135, u136, u137, u138, u139, u140, u141, u142, u143, u144, u145, u146, u147, u148, u149, u150, u151, u152, u153, u154, u155, u156, u157, u158, u159, u160, u161, u162, u163, u164, u165, u166, u167, u168, u169, u170, u171, u172, u173, u174, u175, u176, u177, u178, u179, u180, u181, u182, u183, u184, u185, u186, u187, u188, u189, u190, u191, u192, u193, u194, u195, u196, u197, u198, u199, u200, u201, u202, u203, u204, u205, u206, u207, u208, u209, u210, u211, u212, u213, u214, u215, u216, u217, u218, u219], DD⟩ w2) :
    (Code.region 17 opsSm17 true).wp Try.prog Q ⟨#[.slice (some ⟨g, 0, none⟩) n c, u1, .int .i64 (m : Nat), u3, .func (.func 44) #[] #[], u5, u6, u7, u8, u9, u10, u11, u12, u13, u14, u15, .int .i64 (h : Nat), u17, u18, u19, u20, u21, u22, u23, u24, u25, u26, u27, u28, u29, u30, u31, u32, u33, u34, u35, u36, u37, u38, u39, u40, u41, u42, u43, u44, u45, u46, u47, u48, u49, u50, u51, u52, u53, u54, u55, u56, u57, u58, u59, u60, u61, u62, u63, u64, u65, u66, u67, u68, u69, u70, u71, u72, u73, u74, u75, u76, u77, u78, u79, u80, u81, u82, u83, u84, u85, u86, u87, u88, u89, u90, u91, u92, u93, u94, u95, u96, u97, u98, u99, u100, u101, u102, u103, u104, u105, u106, u107, u108, u109, u110, u111, u112, u113, u114, u115, u116, u117, u118, u119, u120, u121, u122, u123, u124, u125, u126, u127, u128, u129, u130, u131, u132, u133, u134, u135, u136, u137, u138, u139, u140, u141, u142, u143, u144, u145, u146, u147, u148, u149, u150, u151, u152, u153, u154, u155, u156, u157, u158, u159, u160, u161, u162, u163, u164, u165, u166, u167, u168, u169, u170, u171, u172, u173, u174, u175, u176, u177, u178, u179, u180, u181, u182, u183, u184, u185, u186, u187, u188, u189, u190, u191, u192, u193, u194, u195, u196, u197, u198, u199, u200, u201, u202, u203, u204, u205, u206, u207, u208, u209, u210, u211, u212, u213, u214, u215, u216, u217, u218, u219], DD⟩ w := by
  refine wp_region_noPanic ?_
  refine wp_region_held_drew (S := fun _ => True) (by kernel_rfl) trivial (fun _ => ?_)
  refine wpAnyH_take (i := 0) (oi := (⟨some 92, Op.move (Operand.tmp 4), 86, "zsortanyfunc.go:414", #[], none⟩)) (v := .func (.func 44) #[] #[]) rfl (by kernel_rfl) (by kernel_rfl) (by kernel_rfl) (fun _ _ _ h => h) (Or.inl ⟨by kernel_rfl, fun _ _ => by kernel_rfl⟩) trivial ?_
  simp only [Act.put, List.setIfInBounds_toArray, List.set_cons_zero, List.set_cons_succ]
  refine wpAnyH_take (i := 1) (oi := (⟨some 93, Op.move (Operand.tmp 0), 56, "zsortanyfunc.go:414", #[], none⟩)) (v := .slice (some ⟨g, 0, none⟩) n c) rfl (by kernel_rfl) (by kernel_rfl) (by kernel_rfl) (fun _ _ _ h => h) (Or.inl ⟨by kernel_rfl, fun _ _ => by kernel_rfl⟩) trivial ?_
  simp only [Act.put, List.setIfInBounds_toArray, List.set_cons_zero, List.set_cons_succ]
  refine wpAnyH_take (i := 2) (oi := (⟨some 94, Op.move (Operand.tmp 2), 3, "zsortanyfunc.go:414", #[], none⟩)) (v := .int .i64 (m : Nat)) rfl (by kernel_rfl) (by kernel_rfl) (by kernel_rfl) (fun _ _ _ h => h) (Or.inl ⟨by kernel_rfl, fun _ _ => by kernel_rfl⟩) trivial ?_
  simp only [Act.put, List.setIfInBounds_toArray, List.set_cons_zero, List.set_cons_succ]
  refine wpAnyH_take (i := 3) (oi := (⟨some 95, Op.indexAddr 56 (Operand.tmp 93) (Operand.tmp 94), 0, "zsortanyfunc.go:414", #[{ on := 1, ground := Ground.data }, { on := 2, ground := Ground.data }], none⟩)) (v := .pointer (some ⟨g, (m) * 3, none⟩)) rfl (by kernel_rfl) (by kernel_rfl) (by kernel_rfl) (fun _ _ _ h => h) (Or.inl ⟨by kernel_rfl, fun W _ => run_ixA (i := m) (n := n) (c := c) rfl rfl (by omega)⟩) trivial ?_
  simp only [Act.put, List.setIfInBounds_toArray, List.set_cons_zero, List.set_cons_succ]
  refine wpAnyH_take (i := 5) (oi := (⟨some 97, Op.move (Operand.tmp 0), 56, "zsortanyfunc.go:414", #[], none⟩)) (v := .slice (some ⟨g, 0, none⟩) n c) rfl (by kernel_rfl) (by kernel_rfl) (by kernel_rfl) (fun _ _ _ h => h) (Or.inl ⟨by kernel_rfl, fun _ _ => by kernel_rfl⟩) trivial ?_
  simp only [Act.put, List.setIfInBounds_toArray, List.set_cons_zero, List.set_cons_succ]
  refine wpAnyH_take (i := 6) (oi := (⟨some 98, Op.move (Operand.tmp 16), 3, "zsortanyfunc.go:414", #[], none⟩)) (v := .int .i64 (h : Nat)) rfl (by kernel_rfl) (by kernel_rfl) (by kernel_rfl) (fun _ _ _ h => h) (Or.inl ⟨by kernel_rfl, fun _ _ => by kernel_rfl⟩) trivial ?_
  simp only [Act.put, List.setIfInBounds_toArray, List.set_cons_zero, List.set_cons_succ]
  refine wpAnyH_take (i := 7) (oi := (⟨some 99, Op.indexAddr 56 (Operand.tmp 97) (Operand.tmp 98), 0, "zsortanyfunc.go:414", #[{ on := 5, ground := Ground.data }, { on := 6, ground := Ground.data }], none⟩)) (v := .pointer (some ⟨g, (h) * 3, none⟩)) rfl (by kernel_rfl) (by kernel_rfl) (by kernel_rfl) (fun _ _ _ h => h) (Or.inl ⟨by kernel_rfl, fun W _ => run_ixA (i := h) (n := n) (c := c) rfl rfl (by omega)⟩) trivial ?_
  simp only [Act.put, List.setIfInBounds_toArray, List.set_cons_zero, List.set_cons_succ]
  refine wpAnyH_ready (rs := [4, 8]) (by kernel_rfl) (by simp) ?_
  refine AllReadyH.cons (o := (⟨some 96, Op.load 71 (Operand.tmp 95), 71, "zsortanyfunc.go:414", #[{ on := 3, ground := Ground.data }], none⟩)) rfl ?_ (AllReadyH.cons (o := (⟨some 100, Op.load 71 (Operand.tmp 99), 71, "zsortanyfunc.go:414", #[{ on := 7, ground := Ground.data }], none⟩)) rfl ?_ (AllReadyH.nil))
  · skip
    refine next_op (v := (f (m)).val) (by kernel_rfl) (run_loadS_op (f (m)).cells (by kernel_rfl) (by kernel_rfl) rfl (hA.cells (m) (by omega))) trivial (fun _ => ?_)
    simp only [Act.put, List.setIfInBounds_toArray, List.set_cons_zero, List.set_cons_succ]
    refine wpAnyH_ready (rs := [8]) (by kernel_rfl) (by simp) ?_
    refine AllReadyH.cons (o := (⟨some 100, Op.load 71 (Operand.tmp 99), 71, "zsortanyfunc.go:414", #[{ on := 7, ground := Ground.data }], none⟩)) rfl ?_ (AllReadyH.nil)
    · skip
      refine next_op (v := (f (h)).val) (by kernel_rfl) (run_loadS_op (f (h)).cells (by kernel_rfl) (by kernel_rfl) rfl (hA.cells (h) (by omega))) trivial (fun _ => ?_)
      simp only [Act.put, List.setIfInBounds_toArray, List.set_cons_zero, List.set_cons_succ]
      refine wpAnyH_ready (rs := [9]) (by kernel_rfl) (by simp) ?_
      refine AllReadyH.cons (o := (⟨some 101, Op.call { callee := Callee.value (Operand.tmp 92), args := #[Operand.tmp 96, Operand.tmp 100], argTypes := #[71, 71] }, 3, "zsortanyfunc.go:414", #[{ on := 0, ground := Ground.data }, { on := 4, ground := Ground.data }, { on := 8, ground := Ground.data }], none⟩)) rfl ?_ (AllReadyH.nil)
      · skip
        refine next_call (f := 44) (args := #[(f (m)).val, (f (h)).val]) (by kernel_rfl) (by kernel_rfl) (compare_any (f (m)) (f (h)) w.drew) ?_
        rintro e wy3 ⟨rfl, hb⟩
        refine ⟨.int .i64 (cmpF (f (m)) (f (h))), rfl, trivial, fun _ => ?_⟩
        simp only [Act.put, List.setIfInBounds_toArray, List.set_cons_zero, List.set_cons_succ]
        refine wpAnyH_take (i := 10) (oi := (⟨some 102, Op.binOp BinOp.lss 3 (Operand.tmp 101) (Operand.const (Value.int IntKind.i64 0)) 3, 4, "zsortanyfunc.go:414", #[{ on := 9, ground := Ground.data }], none⟩)) (v := .bool (ltF (f (m)) (f (h)))) rfl (by kernel_rfl) (by kernel_rfl) (by kernel_rfl) (fun _ _ _ h => h) (Or.inl ⟨by kernel_rfl, fun W _ => run_lss0_op rfl rfl⟩) trivial ?_
        simp only [Act.put, List.setIfInBounds_toArray, List.set_cons_zero, List.set_cons_succ]
        refine wpAnyH_take (i := 11) (oi := (⟨some 103, Op.unOp UnOp.not 4 (Operand.tmp 102), 4, "zsortanyfunc.go:414", #[{ on := 10, ground := Ground.data }], none⟩)) (v := .bool (!ltF (f (m)) (f (h)))) rfl (by kernel_rfl) (by kernel_rfl) (by kernel_rfl) (fun _ _ _ h => h) (Or.inl ⟨by kernel_rfl, fun W _ => run_not_op rfl⟩) trivial ?_
        simp only [Act.put, List.setIfInBounds_toArray, List.set_cons_zero, List.set_cons_succ]
        refine wpAnyH_done (by kernel_rfl) ?_ _
        exact NoPanic.normal (hend wy3 _ _ _ _ _ _ _ _ _ _ _ ((Below.refl _ _).drew.trans hb))
  · skip
    refine next_op (v := (f (h)).val) (by kernel_rfl) (run_loadS_op (f (h)).cells (by kernel_rfl) (by kernel_rfl) rfl (hA.cells (h) (by omega))) trivial (fun _ => ?_)
    simp only [Act.put, List.setIfInBounds_toArray, List.set_cons_zero, List.set_cons_succ]
    refine wpAnyH_ready (rs := [4]) (by kernel_rfl) (by simp) ?_
    refine AllReadyH.cons (o := (⟨some 96, Op.load 71 (Operand.tmp 95), 71, "zsortanyfunc.go:414", #[{ on := 3, ground := Ground.data }], none⟩)) rfl ?_ (AllReadyH.nil)
    · skip
      refine next_op (v := (f (m)).val) (by kernel_rfl) (run_loadS_op (f (m)).cells (by kernel_rfl) (by kernel_rfl) rfl (hA.cells (m) (by omega))) trivial (fun _ => ?_)
      simp only [Act.put, List.setIfInBounds_toArray, List.set_cons_zero, List.set_cons_succ]
      refine wpAnyH_ready (rs := [9]) (by kernel_rfl) (by simp) ?_
      refine AllReadyH.cons (o := (⟨some 101, Op.call { callee := Callee.value (Operand.tmp 92), args := #[Operand.tmp 96, Operand.tmp 100], argTypes := #[71, 71] }, 3, "zsortanyfunc.go:414", #[{ on := 0, ground := Ground.data }, { on := 4, ground := Ground.data }, { on := 8, ground := Ground.data }], none⟩)) rfl ?_ (AllReadyH.nil)
      · skip
        refine next_call (f := 44) (args := #[(f (m)).val, (f (h)).val]) (by kernel_rfl) (by kernel_rfl) (compare_any (f (m)) (f (h)) w.drew) ?_
        rintro e wy6 ⟨rfl, hb⟩
        refine ⟨.int .i64 (cmpF (f (m)) (f (h))), rfl, trivial, fun _ => ?_⟩
        simp only [Act.put, List.setIfInBounds_toArray, List.set_cons_zero, List.set_cons_succ]
        refine wpAnyH_take (i := 10) (oi := (⟨some 102, Op.binOp BinOp.lss 3 (Operand.tmp 101) (Operand.const (Value.int IntKind.i64 0)) 3, 4, "zsortanyfunc.go:414", #[{ on := 9, ground := Ground.data }], none⟩)) (v := .bool (ltF (f (m)) (f (h)))) rfl (by kernel_rfl) (by kernel_rfl) (by kernel_rfl) (fun _ _ _ h => h) (Or.inl ⟨by kernel_rfl, fun W _ => run_lss0_op rfl rfl⟩) trivial ?_
        simp only [Act.put, List.setIfInBounds_toArray, List.set_cons_zero, List.set_cons_succ]
        refine wpAnyH_take (i := 11) (oi := (⟨some 103, Op.unOp UnOp.not 4 (Operand.tmp 102), 4, "zsortanyfunc.go:414", #[{ on := 10, ground := Ground.data }], none⟩)) (v := .bool (!ltF (f (m)) (f (h)))) rfl (by kernel_rfl) (by kernel_rfl) (by kernel_rfl) (fun _ _ _ h => h) (Or.inl ⟨by kernel_rfl, fun W _ => run_not_op rfl⟩) trivial ?_
        simp only [Act.put, List.setIfInBounds_toArray, List.set_cons_zero, List.set_cons_succ]
        refine wpAnyH_done (by kernel_rfl) ?_ _
        exact NoPanic.normal (hend wy6 _ _ _ _ _ _ _ _ _ _ _ ((Below.refl _ _).drew.trans hb))
def opsSm35 : Array Oper := #[{ dst := some 158, op := Op.move (Operand.tmp 4), type := 86, pos := "zsortanyfunc.go:441", after := #[], guard := none }, { dst := some 159, op := Op.move (Operand.tmp 0), type := 56, pos := "zsortanyfunc.go:441", after := #[], guard := none }, { dst := some 160, op := Op.move (Operand.tmp 22), type := 3, pos := "zsortanyfunc.go:441", after := #[], guard := none }, { dst := some 161, op := Op.move (Operand.tmp 23), type := 3, pos := "zsortanyfunc.go:441", after := #[], guard := none }, { dst := some 162, op := Op.binOp BinOp.sub 3 (Operand.tmp 160) (Operand.tmp 161) 3, type := 3, pos := "zsortanyfunc.go:441", after := #[{ on := 2, ground := Ground.data }, { on := 3, ground := Ground.data }], guard := none }, { dst := some 163, op := Op.indexAddr 56 (Operand.tmp 159) (Operand.tmp 162), type := 0, pos := "zsortanyfunc.go:441", after := #[{ on := 1, ground := Ground.data }, { on := 4, ground := Ground.data }], guard := none }, { dst := some 164, op := Op.load 71 (Operand.tmp 163), type := 71, pos := "zsortanyfunc.go:441", after := #[{ on := 5, ground := Ground.data }], guard := none }, { dst := some 165, op := Op.move (Operand.tmp 0), type := 56, pos := "zsortanyfunc.go:441", after := #[], guard := none }, { dst := some 166, op := Op.move (Operand.tmp 23), type := 3, pos := "zsortanyfunc.go:441", after := #[], guard := none }, { dst := some 167, op := Op.indexAddr 56 (Operand.tmp 165) (Operand.tmp 166), type := 0, pos := "zsortanyfunc.go:441", after := #[{ on := 7, ground := Ground.data }, { on := 8, ground := Ground.data }], guard := none }, { dst := some 168, op := Op.load 71 (Operand.tmp 167), type := 71, pos := "zsortanyfunc.go:441", after := #[{ on := 9, ground := Ground.data }], guard := none }, { dst := some 169, op := Op.call { callee := Callee.value (Operand.tmp 158), args := #[Operand.tmp 164, Operand.tmp 168], argTypes := #[71, 71] }, type := 3, pos := "zsortanyfunc.go:441", after := #[{ on := 0, ground := Ground.data }, { on := 6, ground := Ground.data }, { on := 10, ground := Ground.data }], guard := none }, { dst := some 170, op := Op.binOp BinOp.lss 3 (Operand.tmp 169) (Operand.const (Value.int IntKind.i64 0)) 3, type := 4, pos := "zsortanyfunc.go:441", after := #[{ on := 11, ground := Ground.data }], guard := none }, { dst := some 171, op := Op.unOp UnOp.not 4 (Operand.tmp 170), type := 4, pos := "zsortanyfunc.go:441", after := #[{ on := 12, ground := Ground.data }], guard := none }]
theorem regSm35 {u1 u2 u3 u5 u6 u7 u8 u9 u10 u11 u12 u13 u14 u15 u16 u17 u18 u19 u20 u21 u24 u25 u26 u27 u28 u29 u30 u31 u32 u33 u34 u35 u36 u37 u38 u39 u40 u41 u42 u43 u44 u45 u46 u47 u48 u49 u50 u51 u52 u53 u54 u55 u56 u57 u58 u59 u60 u61 u62 u63 u64 u65 u66 u67 u68 u69 u70 u71 u72 u73 u74 u75 u76 u77 u78 u79 u80 u81 u82 u83 u84 u85 u86 u87 u88 u89 u90 u91 u92 u93 u94 u95 u96 u97 u98 u99 u100 u101 u102 u103 u104 u105 u106 u107 u108 u109 u110 u111 u112 u113 u114 u115 u116 u117 u118 u119 u120 u121 u122 u123 u124 u125 u126 u127 u128 u129 u130 u131 u132 u133 u134 u135 u136 u137 u138 u139 u140 u141 u142 u143 u144 u145 u146 u147 u148 u149 u150 u151 u152 u153 u154 u155 u156 u157 u158 u159 u160 u161 u162 u163 u164 u165 u166 u167 u168 u169 u170 u171 u172 u173 u174 u175 u176 u177 u178 u179 u180 u181 u182 u183 u184 u185 u186 u187 u188 u189 u190 u191 u192 u193 u194 u195 u196 u197 u198 u199 u200 u201 u202 u203 u204 u205 u206 u207 u208 u209 u210 u211 u212 u213 u214 u215 u216 u217 u218 u219 : Value} {DD : List Deferred} {Q : Exit → Act → World → Prop} {w : World} {g N n c : Nat} {f : Nat → FM} {p h : Nat} (hA : Arr w.drew g N n f) (hp : p - h < n) (hh : h < n) (hhp : h ≤ p) (hpn : p ≤ 4398046511104)
    (hend : ∀ (w2 : World) (x158 x159 x160 x161 x162 x163 x164 x165 x166 x167 x168 x169 x170 : Value) (_ : Below w.heap.size w w2), Q .normal ⟨#[.slice (some ⟨g, 0, none⟩) n c, u1, u2, u3, .func (.func 44) #[] #[], u5, u6, u7, u8, u9, u10, u11, u12, u13, u14, u15, u16, u17, u18, u19, u20, u21, .int .i64 (p : Nat), .int .i64 (h : Nat), u24, u25, u26, u27, u28, u29, u30, u31, u32, u33, u34, u35, u36, u37, u38, u39, u40, u41, u42, u43, u44, u45, u46, u47, u48, u49, u50, u51, u52, u53, u54, u55, u56, u57, u58, u59, u60, u61, u62, u63, u64, u65, u66, u67, u68, u69, u70, u71, u72, u73, u74, u75, u76, u77, u78, u79, u80, u81, u82, u83, u84, u85, u86, u87, u88, u89, u90, u91, u92, u93, u94, u95, u96, u97, u98, u99, u100, u101, u102, u103, u104, u105, u106, u107, u108, u109, u110, u111, u112, u113, u114, u115, u116, u117, u118, u119, u120, u121, u122, u123, u124, u125, u126, u127, u128, u129, u130, u131, u132, u133, u134, u135, u136, u137, u138, u139, u140, u141, u142, u143, u144, u145, u146, u147, u148, u149, u150, u151, u152, u153, u154, u155, u156, u157, x158, x159, x160, x161, x162, x163, x164, x165, x166, x167, x168, x169, x170, .bool (!ltF (f (p - h)) (f (h))), u172, u173, u174, u175, u176, u177, u178, u179, u180, u181, u182, u183, u184, u185, u186, u187, u188, u189, u190, u191, u192, u193, u194, u195, u196, u197, u198, u199, u200, u201, u202, u203, u204, u205, u206, u207, u208, u209, u210, u211, u212, u213, u214, u215, u216, u217, u218, u219], DD⟩ w2) :
    (Code.region 35 opsSm35 true).wp Try.prog Q ⟨#[.slice (some ⟨g, 0, none⟩) n c, u1, u2, u3, .func (.func 44) #[] #[], u5, u6, u7, u8, u9, u10, u11, u12, u13, u14, u15, u16, u17, u18, u19, u20, u21, .int .i64 (p : Nat), .int .i64 (h : Nat), u24, u25, u26, u27, u28, u29, u30, u31, u32, u33, u34, u35, u36, u37, u38, u39, u40, u41, u42, u43, u44, u45, u46, u47, u48, u49, u50, u51, u52, u53, u54, u55, u56, u57, u58, u59, u60, u61, u62, u63, u64, u65, u66, u67, u68, u69, u70, u71, u72, u73, u74, u75, u76, u77, u78, u79, u80, u81, u82, u83, u84, u85, u86, u87, u88, u89, u90, u91, u92, u93, u94, u95, u96, u97, u98, u99, u100, u101, u102, u103, u104, u105, u106, u107, u108, u109, u110, u111, u112, u113, u114, u115, u116, u117, u118, u119, u120, u121, u122, u123, u124, u125, u126, u127, u128, u129, u130, u131, u132, u133, u134, u135, u136, u137, u138, u139, u140, u141, u142, u143, u144, u145, u146, u147, u148, u149, u150, u151, u152, u153, u154, u155, u156, u157, u158, u159, u160, u161, u162, u163, u164, u165, u166, u167, u168, u169, u170, u171, u172, u173, u174, u175, u176, u177, u178, u179, u180, u181, u182, u183, u184, u185, u186, u187, u188, u189, u190, u191, u192, u193, u194, u195, u196, u197, u198, u199, u200, u201, u202, u203, u204, u205, u206, u207, u208, u209, u210, u211, u212, u213, u214, u215, u216, u217, u218, u219], DD⟩ w := by
  refine wp_region_noPanic ?_
  refine wp_region_held_drew (S := fun _ => True) (by kernel_rfl) trivial (fun _ => ?_)
  refine wpAnyH_take (i := 0) (oi := (⟨some 158, Op.move (Operand.tmp 4), 86, "zsortanyfunc.go:441", #[], none⟩)) (v := .func (.func 44) #[] #[]) rfl (by kernel_rfl) (by kernel_rfl) (by kernel_rfl) (fun _ _ _ h => h) (Or.inl ⟨by kernel_rfl, fun _ _ => by kernel_rfl⟩) trivial ?_
  simp only [Act.put, List.setIfInBounds_toArray, List.set_cons_zero, List.set_cons_succ]
  refine wpAnyH_take (i := 1) (oi := (⟨some 159, Op.move (Operand.tmp 0), 56, "zsortanyfunc.go:441", #[], none⟩)) (v := .slice (some ⟨g, 0, none⟩) n c) rfl (by kernel_rfl) (by kernel_rfl) (by kernel_rfl) (fun _ _ _ h => h) (Or.inl ⟨by kernel_rfl, fun _ _ => by kernel_rfl⟩) trivial ?_
  simp only [Act.put, List.setIfInBounds_toArray, List.set_cons_zero, List.set_cons_succ]
  refine wpAnyH_take (i := 2) (oi := (⟨some 160, Op.move (Operand.tmp 22), 3, "zsortanyfunc.go:441", #[], none⟩)) (v := .int .i64 (p : Nat)) rfl (by kernel_rfl) (by kernel_rfl) (by kernel_rfl) (fun _ _ _ h => h) (Or.inl ⟨by kernel_rfl, fun _ _ => by kernel_rfl⟩) trivial ?_
  simp only [Act.put, List.setIfInBounds_toArray, List.set_cons_zero, List.set_cons_succ]
  refine wpAnyH_take (i := 3) (oi := (⟨some 161, Op.move (Operand.tmp 23), 3, "zsortanyfunc.go:441", #[], none⟩)) (v := .int .i64 (h : Nat)) rfl (by kernel_rfl) (by kernel_rfl) (by kernel_rfl) (fun _ _ _ h => h) (Or.inl ⟨by kernel_rfl, fun _ _ => by kernel_rfl⟩) trivial ?_
  simp only [Act.put, List.setIfInBounds_toArray, List.set_cons_zero, List.set_cons_succ]
  refine wpAnyH_take (i := 4) (oi := (⟨some 162, Op.binOp BinOp.sub 3 (Operand.tmp 160) (Operand.tmp 161) 3, 3, "zsortanyfunc.go:441", #[{ on := 2, ground := Ground.data }, { on := 3, ground := Ground.data }], none⟩)) (v := .int .i64 ((p - h : Nat) : Nat)) rfl (by kernel_rfl) (by kernel_rfl) (by kernel_rfl) (fun _ _ _ h => h) (Or.inl ⟨by kernel_rfl, fun W _ => run_sub_nat2 rfl rfl hhp (by omega)⟩) trivial ?_
  simp only [Act.put, List.setIfInBounds_toArray, List.set_cons_zero, List.set_cons_succ]
  refine wpAnyH_take (i := 5) (oi := (⟨some 163, Op.indexAddr 56 (Operand.tmp 159) (Operand.tmp 162), 0, "zsortanyfunc.go:441", #[{ on := 1, ground := Ground.data }, { on := 4, ground := Ground.data }], none⟩)) (v := .pointer (some ⟨g, (p - h) * 3, none⟩)) rfl (by kernel_rfl) (by kernel_rfl) (by kernel_rfl) (fun _ _ _ h => h) (Or.inl ⟨by kernel_rfl, fun W _ => run_ixA (i := p - h) (n := n) (c := c) rfl rfl (by omega)⟩) trivial ?_
  simp only [Act.put, List.setIfInBounds_toArray, List.set_cons_zero, List.set_cons_succ]
  refine wpAnyH_take (i := 7) (oi := (⟨some 165, Op.move (Operand.tmp 0), 56, "zsortanyfunc.go:441", #[], none⟩)) (v := .slice (some ⟨g, 0, none⟩) n c) rfl (by kernel_rfl) (by kernel_rfl) (by kernel_rfl) (fun _ _ _ h => h) (Or.inl ⟨by kernel_rfl, fun _ _ => by kernel_rfl⟩) trivial ?_
  simp only [Act.put, List.setIfInBounds_toArray, List.set_cons_zero, List.set_cons_succ]
  refine wpAnyH_take (i := 8) (oi := (⟨some 166, Op.move (Operand.tmp 23), 3, "zsortanyfunc.go:441", #[], none⟩)) (v := .int .i64 (h : Nat)) rfl (by kernel_rfl) (by kernel_rfl) (by kernel_rfl) (fun _ _ _ h => h) (Or.inl ⟨by kernel_rfl, fun _ _ => by kernel_rfl⟩) trivial ?_
  simp only [Act.put, List.setIfInBounds_toArray, List.set_cons_zero, List.set_cons_succ]
  refine wpAnyH_take (i := 9) (oi := (⟨some 167, Op.indexAddr 56 (Operand.tmp 165) (Operand.tmp 166), 0, "zsortanyfunc.go:441", #[{ on := 7, ground := Ground.data }, { on := 8, ground := Ground.data }], none⟩)) (v := .pointer (some ⟨g, (h) * 3, none⟩)) rfl (by kernel_rfl) (by kernel_rfl) (by kernel_rfl) (fun _ _ _ h => h) (Or.inl ⟨by kernel_rfl, fun W _ => run_ixA (i := h) (n := n) (c := c) rfl rfl (by omega)⟩) trivial ?_
  simp only [Act.put, List.setIfInBounds_toArray, List.set_cons_zero, List.set_cons_succ]
  refine wpAnyH_ready (rs := [6, 10]) (by kernel_rfl) (by simp) ?_
  refine AllReadyH.cons (o := (⟨some 164, Op.load 71 (Operand.tmp 163), 71, "zsortanyfunc.go:441", #[{ on := 5, ground := Ground.data }], none⟩)) rfl ?_ (AllReadyH.cons (o := (⟨some 168, Op.load 71 (Operand.tmp 167), 71, "zsortanyfunc.go:441", #[{ on := 9, ground := Ground.data }], none⟩)) rfl ?_ (AllReadyH.nil))
  · skip
    refine next_op (v := (f (p - h)).val) (by kernel_rfl) (run_loadS_op (f (p - h)).cells (by kernel_rfl) (by kernel_rfl) rfl (hA.cells (p - h) (by omega))) trivial (fun _ => ?_)
    simp only [Act.put, List.setIfInBounds_toArray, List.set_cons_zero, List.set_cons_succ]
    refine wpAnyH_ready (rs := [10]) (by kernel_rfl) (by simp) ?_
    refine AllReadyH.cons (o := (⟨some 168, Op.load 71 (Operand.tmp 167), 71, "zsortanyfunc.go:441", #[{ on := 9, ground := Ground.data }], none⟩)) rfl ?_ (AllReadyH.nil)
    · skip
      refine next_op (v := (f (h)).val) (by kernel_rfl) (run_loadS_op (f (h)).cells (by kernel_rfl) (by kernel_rfl) rfl (hA.cells (h) (by omega))) trivial (fun _ => ?_)
      simp only [Act.put, List.setIfInBounds_toArray, List.set_cons_zero, List.set_cons_succ]
      refine wpAnyH_ready (rs := [11]) (by kernel_rfl) (by simp) ?_
      refine AllReadyH.cons (o := (⟨some 169, Op.call { callee := Callee.value (Operand.tmp 158), args := #[Operand.tmp 164, Operand.tmp 168], argTypes := #[71, 71] }, 3, "zsortanyfunc.go:441", #[{ on := 0, ground := Ground.data }, { on := 6, ground := Ground.data }, { on := 10, ground := Ground.data }], none⟩)) rfl ?_ (AllReadyH.nil)
      · skip
        refine next_call (f := 44) (args := #[(f (p - h)).val, (f (h)).val]) (by kernel_rfl) (by kernel_rfl) (compare_any (f (p - h)) (f (h)) w.drew) ?_
        rintro e wy3 ⟨rfl, hb⟩
        refine ⟨.int .i64 (cmpF (f (p - h)) (f (h))), rfl, trivial, fun _ => ?_⟩
        simp only [Act.put, List.setIfInBounds_toArray, List.set_cons_zero, List.set_cons_succ]
        refine wpAnyH_take (i := 12) (oi := (⟨some 170, Op.binOp BinOp.lss 3 (Operand.tmp 169) (Operand.const (Value.int IntKind.i64 0)) 3, 4, "zsortanyfunc.go:441", #[{ on := 11, ground := Ground.data }], none⟩)) (v := .bool (ltF (f (p - h)) (f (h)))) rfl (by kernel_rfl) (by kernel_rfl) (by kernel_rfl) (fun _ _ _ h => h) (Or.inl ⟨by kernel_rfl, fun W _ => run_lss0_op rfl rfl⟩) trivial ?_
        simp only [Act.put, List.setIfInBounds_toArray, List.set_cons_zero, List.set_cons_succ]
        refine wpAnyH_take (i := 13) (oi := (⟨some 171, Op.unOp UnOp.not 4 (Operand.tmp 170), 4, "zsortanyfunc.go:441", #[{ on := 12, ground := Ground.data }], none⟩)) (v := .bool (!ltF (f (p - h)) (f (h)))) rfl (by kernel_rfl) (by kernel_rfl) (by kernel_rfl) (fun _ _ _ h => h) (Or.inl ⟨by kernel_rfl, fun W _ => run_not_op rfl⟩) trivial ?_
        simp only [Act.put, List.setIfInBounds_toArray, List.set_cons_zero, List.set_cons_succ]
        refine wpAnyH_done (by kernel_rfl) ?_ _
        exact NoPanic.normal (hend wy3 _ _ _ _ _ _ _ _ _ _ _ _ _ ((Below.refl _ _).drew.trans hb))
  · skip
    refine next_op (v := (f (h)).val) (by kernel_rfl) (run_loadS_op (f (h)).cells (by kernel_rfl) (by kernel_rfl) rfl (hA.cells (h) (by omega))) trivial (fun _ => ?_)
    simp only [Act.put, List.setIfInBounds_toArray, List.set_cons_zero, List.set_cons_succ]
    refine wpAnyH_ready (rs := [6]) (by kernel_rfl) (by simp) ?_
    refine AllReadyH.cons (o := (⟨some 164, Op.load 71 (Operand.tmp 163), 71, "zsortanyfunc.go:441", #[{ on := 5, ground := Ground.data }], none⟩)) rfl ?_ (AllReadyH.nil)
    · skip
      refine next_op (v := (f (p - h)).val) (by kernel_rfl) (run_loadS_op (f (p - h)).cells (by kernel_rfl) (by kernel_rfl) rfl (hA.cells (p - h) (by omega))) trivial (fun _ => ?_)
      simp only [Act.put, List.setIfInBounds_toArray, List.set_cons_zero, List.set_cons_succ]
      refine wpAnyH_ready (rs := [11]) (by kernel_rfl) (by simp) ?_
      refine AllReadyH.cons (o := (⟨some 169, Op.call { callee := Callee.value (Operand.tmp 158), args := #[Operand.tmp 164, Operand.tmp 168], argTypes := #[71, 71] }, 3, "zsortanyfunc.go:441", #[{ on := 0, ground := Ground.data }, { on := 6, ground := Ground.data }, { on := 10, ground := Ground.data }], none⟩)) rfl ?_ (AllReadyH.nil)
      · skip
        refine next_call (f := 44) (args := #[(f (p - h)).val, (f (h)).val]) (by kernel_rfl) (by kernel_rfl) (compare_any (f (p - h)) (f (h)) w.drew) ?_
        rintro e wy6 ⟨rfl, hb⟩
        refine ⟨.int .i64 (cmpF (f (p - h)) (f (h))), rfl, trivial, fun _ => ?_⟩
        simp only [Act.put, List.setIfInBounds_toArray, List.set_cons_zero, List.set_cons_succ]
        refine wpAnyH_take (i := 12) (oi := (⟨some 170, Op.binOp BinOp.lss 3 (Operand.tmp 169) (Operand.const (Value.int IntKind.i64 0)) 3, 4, "zsortanyfunc.go:441", #[{ on := 11, ground := Ground.data }], none⟩)) (v := .bool (ltF (f (p - h)) (f (h)))) rfl (by kernel_rfl) (by kernel_rfl) (by kernel_rfl) (fun _ _ _ h => h) (Or.inl ⟨by kernel_rfl, fun W _ => run_lss0_op rfl rfl⟩) trivial ?_
        simp only [Act.put, List.setIfInBounds_toArray, List.set_cons_zero, List.set_cons_succ]
        refine wpAnyH_take (i := 13) (oi := (⟨some 171, Op.unOp UnOp.not 4 (Operand.tmp 170), 4, "zsortanyfunc.go:441", #[{ on := 12, ground := Ground.data }], none⟩)) (v := .bool (!ltF (f (p - h)) (f (h)))) rfl (by kernel_rfl) (by kernel_rfl) (by kernel_rfl) (fun _ _ _ h => h) (Or.inl ⟨by kernel_rfl, fun W _ => run_not_op rfl⟩) trivial ?_
        simp only [Act.put, List.setIfInBounds_toArray, List.set_cons_zero, List.set_cons_succ]
        refine wpAnyH_done (by kernel_rfl) ?_ _
        exact NoPanic.normal (hend wy6 _ _ _ _ _ _ _ _ _ _ _ _ _ ((Below.refl _ _).drew.trans hb))
end Go.Proofs.Ytadgaphgomagkaa
/- The stable sort over facts: ranges exchanged, rotations, insertions. -/
namespace Go.Proofs.Ytadgaphgomagkaa
open Go.RowKit
set_option maxHeartbeats 8000000
set_option maxRecDepth 100000

/-- what a step of the sort leaves: the row, and whatever lies elsewhere -/
def SortPost (w : World) (g N n : Nat) (p : (Nat → FM) → Prop) (e : Ending) (w' : World) : Prop := e = .returned (.tuple #[]) ∧ ∃ h, Arr w' g N n h ∧ p h ∧ But g w w'
theorem swapRange_any (g N n c x y k : Nat) (f : Nat → FM) (w : World) (hA : Arr w g N n f) (hxy : x + k ≤ y) (hy : y + k ≤ n) (hn : n ≤ 1099511627776) :
    Calls Try.prog 113 #[.slice (some ⟨g, 0, none⟩) n c, .int .i64 (x : Nat), .int .i64 (y : Nat), .int .i64 (k : Nat), .func (.func 44) #[] #[]] w (SortPost w g N n fun h => h = swpR f x y k) := by
  go_enter Try.func113, Try.ntmps113
  go_wp2_with fail
  go_loopg [10] k (fun m s10 wr => ∃ t : Nat, m = k - t ∧ t ≤ k ∧ s10 = .int .i64 (t : Nat) ∧ Arr wr g N n (swpR f x y t) ∧ But g w wr)
  case atStart => exact ⟨0, by omega, by omega, rfl, by rw [swpR_zero]; exact hA, But.refl _ _⟩
  case round =>
    obtain ⟨t, rfl, ht, rfl, hAt, hb⟩ := hrel
    by_cases hlt : t < k
    · have r1 : (t : Int) < (k : Int) := by omega
      go_wp2_with fail
      refine regSr3 hAt.drew (by omega) (by omega) (by omega) hn ?_
      intro w2 _ _ _ _ _ _ _ _ _ _ _ _ _ _ _ _ _ _ _ _ _ _ hA2 hb2
      rw [swpR_succ f x y t (by omega)] at hA2
      go_wp2_with fail
      go_roundg (k - (t + 1))
      case measure => omega
      case rel => exact ⟨t + 1, rfl, by omega, by go_num, hA2, hb.trans hb2⟩
    · obtain rfl : t = k := by omega
      have r1 : ¬ (t : Int) < (t : Int) := by omega
      go_wp2_with fail
      go_end0
      exact ⟨rfl, _, hAt, rfl, hb⟩
theorem rotate_any (g N n c a m b : Nat) (f : Nat → FM) (w : World) (hA : Arr w g N n f) (ham : a < m) (hmb : m < b) (hb : b ≤ n) (hn : n ≤ 1099511627776) :
    Calls Try.prog 112 #[.slice (some ⟨g, 0, none⟩) n c, .int .i64 (a : Nat), .int .i64 (m : Nat), .int .i64 (b : Nat), .func (.func 44) #[] #[]] w (SortPost w g N n fun h => h = rot f a m b) := by
  have k1 : IntKind.i64.wrap ((m : Int) - (a : Int)) = ((m - a : Nat) : Int) := by rw [IntWalk.i64_in _ (by omega)]; omega
  have k2 : IntKind.i64.wrap ((b : Int) - (m : Int)) = ((b - m : Nat) : Int) := by rw [IntWalk.i64_in _ (by omega)]; omega
  go_enter Try.func112, Try.ntmps112
  go_wp2_with fail
  clear k1 k2
  go_loopg [10, 11] (b - a) (fun q s10 s11 wr => ∃ (i j : Nat) (h : Nat → FM), q = i + j ∧ 0 < i ∧ 0 < j ∧ i ≤ m ∧ m + j ≤ n ∧ s10 = .int .i64 (i : Nat) ∧ s11 = .int .i64 (j : Nat) ∧ Arr wr g N n h ∧ rot h (m - i) m (m + j) = rot f a m b ∧ But g w wr)
  case atStart => exact ⟨m - a, b - m, f, by omega, by omega, by omega, by omega, by omega, rfl, rfl, hA, by rw [show m - (m - a) = a by omega, show m + (b - m) = b by omega], But.refl _ _⟩
  case round =>
    obtain ⟨i, j, h, rfl, hi, hj, him, hjn, rfl, rfl, hAh, hrot, hbt⟩ := hrel
    have e1 : IntKind.i64.wrap ((m : Int) - (i : Int)) = ((m - i : Nat) : Int) := by rw [IntWalk.i64_in _ (by omega)]; omega
    by_cases hij : i = j
    · subst hij
      have hsr := swapRange_any g N n c (m - i) m i h wr hAh (by omega) hjn hn
      rw [rot_same h m i him] at hsr
      have k0 : ((i : Int) != (i : Int)) = false := by simp
      go_wp2_with fail
      refine hsr.mono ?_
      rintro e w2 ⟨rfl, h2, hA2, rfl, hb2⟩
      go_wp2_with fail
      go_end0
      exact ⟨rfl, _, hA2, hrot, hbt.trans hb2⟩
    · have k0 : ((i : Int) != (j : Int)) = true := by simp; omega
      rcases Nat.lt_or_ge j i with hlt | hge
      · have r1 : (j : Int) < (i : Int) := by omega
        have e2 : IntKind.i64.wrap ((i : Int) - (j : Int)) = ((i - j : Nat) : Int) := by rw [IntWalk.i64_in _ (by omega)]; omega
        have hsr := swapRange_any g N n c (m - i) m j h wr hAh (by omega) hjn hn
        have hmore := rot_more h m i j him hlt
        go_wp2_with fail
        refine hsr.mono ?_
        rintro e w2 ⟨rfl, h2, hA2, rfl, hb2⟩
        clear hsr
        go_wp2_with fail
        go_roundg (i - j + j)
        case measure => omega
        case rel => exact ⟨i - j, j, _, rfl, by omega, hj, by omega, hjn, rfl, rfl, hA2, by rw [hmore, hrot], hbt.trans hb2⟩
      · have r1 : ¬ (j : Int) < (i : Int) := by omega
        have e2 : IntKind.i64.wrap ((j : Int) - (i : Int)) = ((j - i : Nat) : Int) := by rw [IntWalk.i64_in _ (by omega)]; omega
        have e3 : IntKind.i64.wrap ((m : Int) + (j : Int)) = ((m + j : Nat) : Int) := by rw [IntWalk.i64_in _ (by omega)]; omega
        have e4 : IntKind.i64.wrap (((m + j : Nat) : Int) - (i : Int)) = ((m + j - i : Nat) : Int) := by rw [IntWalk.i64_in _ (by omega)]; omega
        have hsr := swapRange_any g N n c (m - i) (m + j - i) i h wr hAh (by omega) (by omega) hn
        have hless := rot_less h m i j him (by omega)
        have hq : m + (j - i) ≤ n := by omega
        generalize m + j = mj at *
        go_wp2_with fail
        refine hsr.mono ?_
        rintro e w2 ⟨rfl, h2, hA2, rfl, hb2⟩
        clear hsr
        go_wp2_with fail
        go_roundg (i + (j - i))
        case measure => omega
        case rel => exact ⟨i, j - i, _, rfl, hi, by omega, him, hq, rfl, rfl, hA2, by rw [hless, hrot], hbt.trans hb2⟩
theorem insertion_any (g N n c a b : Nat) (f : Nat → FM) (w : World) (hA : Arr w g N n f) (hb : b ≤ n) (han : a ≤ n) (hn : n ≤ 1099511627776) :
    Calls Try.prog 110 #[.slice (some ⟨g, 0, none⟩) n c, .int .i64 (a : Nat), .int .i64 (b : Nat), .func (.func 44) #[] #[]] w (SortPost w g N n fun h => Stb ltF n a b f h ∧ Srt ltF h a b) := by
  have k1 : IntKind.i64.wrap ((a : Int) + 1) = ((a + 1 : Nat) : Int) := by rw [IntWalk.i64_in _ (by omega)]; omega
  go_enter Try.func110, Try.ntmps110
  go_wp2_with fail
  clear k1
  go_loopg [8, 9] (b - (a + 1)) (fun q s8 s9 wr => ∃ (i : Nat) (h : Nat → FM), q = b - i ∧ a + 1 ≤ i ∧ (i ≤ b ∨ i = a + 1) ∧ s8 = .int .i64 (i : Nat) ∧ Arr wr g N n h ∧ Stb ltF n a b f h ∧ Srt ltF h a i ∧ But g w wr)
  case atStart => exact ⟨a + 1, f, by omega, by omega, .inr rfl, by go_num, hA, Stb.refl _ _ _ _, fun i j h1 h2 h3 => by omega, But.refl _ _⟩
  case round =>
    obtain ⟨i, h, rfl, hai, hib, rfl, hAh, hst, hso, hbt⟩ := hrel
    by_cases hlt : i < b
    · have r1 : (i : Int) < (b : Int) := by omega
      generalize wr = wo at *
      go_wp2_with fail
      go_loopg [9] (i - a) (fun q s9 wr => ∃ j : Nat, q = j - a ∧ a ≤ j ∧ j ≤ i ∧ s9 = .int .i64 (j : Nat) ∧ Arr wr g N n (rot h j i (i + 1)) ∧ (∀ k, j ≤ k → k < i → ltF (h i) (h k) = true) ∧ But g wo wr)
      case atStart => exact ⟨i, rfl, by omega, by omega, rfl, by rw [rot_left]; exact hAh, fun k h1 h2 => by omega, But.refl _ _⟩
      case round =>
        obtain ⟨j, rfl, haj, hji, rfl, hAj, hlts, hbj⟩ := hrel
        by_cases hja : a < j
        · obtain ⟨j, rfl⟩ : ∃ j', j = j' + 1 := ⟨j - 1, by omega⟩
          have hv1 : rot h (j + 1) i (i + 1) (j + 1) = h i := by rw [rot_at1 _ _ _ _ _ (Nat.le_refl _) (by omega) hji (by omega)]; congr 1; omega
          have hv2 : rot h (j + 1) i (i + 1) j = h j := rot_at0 _ _ _ _ _ (.inl (by omega))
          have hdn := rot_down h (j + 1) i (by omega) hji
          rw [Nat.add_sub_cancel] at hdn
          go_wp2_with fail
          refine regIs4 hAj.drew (by omega) hja hn ?_
          intro w2 _ _ _ _ _ _ _ _ _ _ _ _ _ _ _ _ hb2
          have hA2 := hAj.below hb2
          have hbt2 := hbj.trans (But.below hb2)
          rw [hv1, hv2]
          cases hc : ltF (h i) (h j) with
          | true =>
            go_wp2_with fail
            refine regIs6 hA2.drew (by omega) hn ?_
            intro w3 _ _ _ _ _ _ _ _ _ _ _ _ _ _ _ _ hA3 hb3
            rw [hdn] at hA3
            go_wp2_with fail
            go_roundg (j - a)
            case measure => omega
            case rel => exact ⟨j, rfl, by omega, by omega, by go_num, hA3, fun k h1 h2 => by
              rcases Nat.eq_or_lt_of_le h1 with h3 | h3
              · rw [← h3]; exact hc
              · exact hlts k (by omega) h2, hbt2.trans hb3⟩
          | false =>
            have hs2 := ins_srt ltF_wk h a (j + 1) i (by omega) hji hso hlts (.inr (by rw [Nat.add_sub_cancel]; exact hc))
            have hs3 := ins_stb ltF_wk n h a (j + 1) i (by omega) hji (by omega) hlts
            go_wp2_with fail
            go_roundg (b - (i + 1))
            case measure => omega
            case rel => exact ⟨i + 1, _, rfl, by omega, .inl (by omega), by go_num, hA2, hst.trans (hs3.widen (Nat.le_refl _) (by omega)), hs2, hbt.trans hbt2⟩
        · obtain rfl : j = a := by omega
          have hs2 := ins_srt ltF_wk h j j i (by omega) hji hso hlts (.inl rfl)
          have hs3 := ins_stb ltF_wk n h j j i (by omega) hji (by omega) hlts
          have k0 : decide (j < j) = false := decide_eq_false (by omega)
          go_wp2_with fail
          go_quiet (fail)
          go_wp2_with fail
          go_roundg (b - (i + 1))
          case measure => omega
          case rel => exact ⟨i + 1, _, rfl, by omega, .inl (by omega), by go_num, ⟨hAj.ex⟩, hst.trans (hs3.widen (Nat.le_refl _) (by omega)), hs2, (hbt.trans hbj).drew nq⟩
    · have r1 : ¬ (i : Int) < (b : Int) := by omega
      go_wp2_with fail
      go_end0
      exact ⟨rfl, _, hAh, ⟨hst, hso.sub (Nat.le_refl _) (by omega)⟩, hbt⟩
end Go.Proofs.Ytadgaphgomagkaa
/- The stable sort over facts: the symmetric merge. -/
namespace Go.Proofs.Ytadgaphgomagkaa
open Go.RowKit
set_option maxHeartbeats 8000000
set_option maxRecDepth 100000

theorem half_nat (x y : Nat) (_h : x + y ≤ 4611686018427387904) : ((x : Int) + (y : Int)) / 2 = (((x + y) / 2 : Nat) : Int) := by omega
/-- the symmetric merge of two sorted runs -/
theorem symMerge_any (g N n c : Nat) (hn : n ≤ 1099511627776) : ∀ (d a m b : Nat) (f : Nat → FM) (w : World), b - a ≤ d → Arr w g N n f → a < m → m < b → b ≤ n → Srt ltF f a m → Srt ltF f m b →
    Calls Try.prog 111 #[.slice (some ⟨g, 0, none⟩) n c, .int .i64 (a : Nat), .int .i64 (m : Nat), .int .i64 (b : Nat), .func (.func 44) #[] #[]] w (SortPost w g N n fun h => Stb ltF n a b f h ∧ Srt ltF h a b) := by
  intro d
  induction d with
  | zero => intro a m b f w h1 _ h2 h3; omega
  | succ d ih =>
  intro a m b f w hd hA ham hmb hbn hl hr
  have k1 : IntKind.i64.wrap ((m : Int) - (a : Int)) = ((m - a : Nat) : Int) := by rw [IntWalk.i64_in _ (by omega)]; omega
  have k2 : IntKind.i64.wrap ((b : Int) - (m : Int)) = ((b - m : Nat) : Int) := by rw [IntWalk.i64_in _ (by omega)]; omega
  go_enter Try.func111, Try.ntmps111
  by_cases h1 : m - a = 1
  · have k0 : (((m - a : Nat) : Int) == 1) = true := by rw [h1]; rfl
    obtain rfl : m = a + 1 := by omega
    clear ih h1
    go_wp2_with fail
    clear k0 k1 k2
    go_loopg [10, 11, 12] (b - (a + 1)) (fun q s10 s11 s12 wr => ∃ i j : Nat, q = j - i ∧ a + 1 ≤ i ∧ i ≤ j ∧ j ≤ b ∧ s10 = .int .i64 (i : Nat) ∧ s11 = .int .i64 (j : Nat) ∧ Arr wr g N n f ∧ (∀ k, a + 1 ≤ k → k < i → ltF (f k) (f a) = true) ∧ (∀ k, j ≤ k → k < b → ltF (f k) (f a) = false) ∧ But g w wr)
    case atStart => exact ⟨a + 1, b, rfl, by omega, by omega, by omega, by go_num, rfl, hA, fun k h1 h2 => by omega, fun k h1 h2 => by omega, But.refl _ _⟩
    case round =>
      obtain ⟨i, j, rfl, hai, hij, hjb, rfl, rfl, hAr, hlo, hhi, hbt⟩ := hrel
      by_cases hlt : i < j
      · have r1 : (i : Int) < (j : Int) := by omega
        have e1 : IntKind.i64.wrap ((i : Int) + (j : Int)) = ((i + j : Nat) : Int) := by rw [IntWalk.i64_in _ (by omega)]; omega
        have hh1 : i ≤ (i + j) / 2 := by omega
        have hh2 : (i + j) / 2 < j := by omega
        generalize i + j = s at *
        go_upto_region 5 with fail
        rw [show (s : Int) / 2 = ((s / 2 : Nat) : Int) by omega]
        generalize s / 2 = h at *
        clear e1
        refine regSm5 hAr.drew (by omega) (by omega) ?_
        intro w2 _ _ _ _ _ _ _ _ _ _ hb2
        have hA2 := hAr.below hb2
        have hbt2 := hbt.trans (But.below hb2)
        cases hc : ltF (f h) (f a) with
        | true =>
          go_wp2_with fail
          go_roundg (j - (h + 1))
          case measure => omega
          case rel => exact ⟨h + 1, j, rfl, by omega, by omega, hjb, by go_num, rfl, hA2, fun k h1 h2 => ltF_wk.le_lt (hr.le ltF_wk (i := k) (j := h) h1 (by omega) (by omega)) hc, hhi, hbt2⟩
        | false =>
          go_wp2_with fail
          go_roundg (h - i)
          case measure => omega
          case rel => exact ⟨i, h, rfl, hai, by omega, by omega, rfl, rfl, hA2, hlo, fun k h1 h2 => ltF_wk.neg _ _ _ (hr.le ltF_wk (i := h) (j := k) (by omega) h1 h2) hc, hbt2⟩
      · obtain rfl : i = j := by omega
        have r1 : ¬ (i : Int) < (i : Int) := by omega
        have e1 : IntKind.i64.wrap ((i : Int) - 1) = ((i - 1 : Nat) : Int) := by rw [IntWalk.i64_in _ (by omega)]; omega
        have hsrt := one_srt ltF_wk f a i b (by omega) hjb hr hlo hhi
        have hstb := one_stb ltF_wk n f a i b (by omega) hjb hbn hlo
        generalize wr = wo at *
        go_wp2_with fail
        go_loopg [13] (i - 1 - a) (fun q s13 wr => ∃ k : Nat, q = i - 1 - k ∧ a ≤ k ∧ k ≤ i - 1 ∧ s13 = .int .i64 (k : Nat) ∧ Arr wr g N n (rot f a (a + 1) (k + 1)) ∧ But g w wr)
        case atStart => exact ⟨a, rfl, by omega, by omega, rfl, by rw [rot_right]; exact hAr, hbt⟩
        case round =>
          obtain ⟨k, rfl, hak, hki, rfl, hAk, hbk⟩ := hrel
          by_cases hlk : k < i - 1
          · have r2 : (k : Int) < ((i - 1 : Nat) : Int) := by omega
            go_wp2_with fail
            refine regSm11 hAk.drew (by omega) hn ?_
            intro w3 _ _ _ _ _ _ _ _ _ _ _ _ _ _ _ _ hA3 hb3
            rw [rot_up f a k hak] at hA3
            go_wp2_with fail
            go_roundg (i - 1 - (k + 1))
            case measure => omega
            case rel => exact ⟨k + 1, rfl, by omega, by omega, by go_num, hA3, hbk.trans hb3⟩
          · obtain rfl : k = i - 1 := by omega
            have r2 : ¬ ((i - 1 : Nat) : Int) < ((i - 1 : Nat) : Int) := by omega
            rw [show i - 1 + 1 = i by omega] at hAk
            go_wp2_with fail
            go_end0
            exact ⟨rfl, _, hAk, ⟨hstb, hsrt⟩, hbk⟩
  · have k0 : (((m - a : Nat) : Int) == 1) = false := by rw [beq_eq_false_iff_ne]; omega
    by_cases h2 : b - m = 1
    · have k3 : (((b - m : Nat) : Int) == 1) = true := by rw [h2]; rfl
      obtain rfl : b = m + 1 := by omega
      clear ih h1 h2
      go_wp2_with fail
      clear k0 k1 k2 k3
      go_loopg [14, 15, 16] (m - a) (fun q s14 s15 s16 wr => ∃ i j : Nat, q = j - i ∧ a ≤ i ∧ i ≤ j ∧ j ≤ m ∧ s14 = .int .i64 (i : Nat) ∧ s15 = .int .i64 (j : Nat) ∧ Arr wr g N n f ∧ (∀ k, a ≤ k → k < i → ltF (f m) (f k) = false) ∧ (∀ k, j ≤ k → k < m → ltF (f m) (f k) = true) ∧ But g w wr)
      case atStart => exact ⟨a, m, rfl, by omega, by omega, by omega, rfl, rfl, hA, fun k h1 h2 => by omega, fun k h1 h2 => by omega, But.refl _ _⟩
      case round =>
        obtain ⟨i, j, rfl, hai, hij, hjb, rfl, rfl, hAr, hlo, hhi, hbt⟩ := hrel
        by_cases hlt : i < j
        · have r1 : (i : Int) < (j : Int) := by omega
          have e1 : IntKind.i64.wrap ((i : Int) + (j : Int)) = ((i + j : Nat) : Int) := by rw [IntWalk.i64_in _ (by omega)]; omega
          have hh1 : i ≤ (i + j) / 2 := by omega
          have hh2 : (i + j) / 2 < j := by omega
          generalize i + j = s at *
          go_upto_region 17 with fail
          rw [show (s : Int) / 2 = ((s / 2 : Nat) : Int) by omega]
          generalize s / 2 = h at *
          clear e1
          refine regSm17 hAr.drew (by omega) (by omega) ?_
          intro w2 _ _ _ _ _ _ _ _ _ _ _ hb2
          have hA2 := hAr.below hb2
          have hbt2 := hbt.trans (But.below hb2)
          cases hc : ltF (f m) (f h) with
          | false =>
            simp only [Bool.not_false]
            go_wp2_with fail
            go_roundg (j - (h + 1))
            case measure => omega
            case rel => exact ⟨h + 1, j, rfl, by omega, by omega, hjb, by go_num, rfl, hA2, fun k h1 h2 => ltF_wk.neg _ _ _ hc (hl.le ltF_wk (i := k) (j := h) h1 (by omega) (by omega)), hhi, hbt2⟩
          | true =>
            simp only [Bool.not_true]
            go_wp2_with fail
            go_roundg (h - i)
            case measure => omega
            case rel => exact ⟨i, h, rfl, hai, by omega, by omega, rfl, rfl, hA2, hlo, fun k h1 h2 => ltF_wk.lt_le hc (hl.le ltF_wk (i := h) (j := k) (by omega) h1 h2), hbt2⟩
        · obtain rfl : i = j := by omega
          have r1 : ¬ (i : Int) < (i : Int) := by omega
          have hsrt := ins_srt ltF_wk f a i m hai hjb hl hhi (by
            rcases Nat.eq_or_lt_of_le hai with h | h
            · exact .inl h.symm
            · exact .inr (hlo _ (by omega) (by omega)))
          have hstb := ins_stb ltF_wk n f a i m hai hjb (by omega) hhi
          generalize wr = wo at *
          go_wp2_with fail
          go_loopg [17] (m - i) (fun q s17 wr => ∃ k : Nat, q = k - i ∧ i ≤ k ∧ k ≤ m ∧ s17 = .int .i64 (k : Nat) ∧ Arr wr g N n (rot f k m (m + 1)) ∧ But g w wr)
          case atStart => exact ⟨m, rfl, by omega, by omega, rfl, by rw [rot_left]; exact hAr, hbt⟩
          case round =>
            obtain ⟨k, rfl, hik, hkm, rfl, hAk, hbk⟩ := hrel
            by_cases hlk : i < k
            · obtain ⟨k, rfl⟩ : ∃ k', k = k' + 1 := ⟨k - 1, by omega⟩
              have r2 : (i : Int) < ((k + 1 : Nat) : Int) := by omega
              have hdn := rot_down f (k + 1) m (by omega) hkm
              rw [Nat.add_sub_cancel] at hdn
              go_wp2_with fail
              refine regSm23 hAk.drew (by omega) hn ?_
              intro w3 _ _ _ _ _ _ _ _ _ _ _ _ _ _ _ _ hA3 hb3
              rw [hdn] at hA3
              go_wp2_with fail
              go_roundg (k - i)
              case measure => omega
              case rel => exact ⟨k, rfl, by omega, by omega, by go_num, hA3, hbk.trans hb3⟩
            · obtain rfl : k = i := by omega
              have r2 : ¬ (k : Int) < (k : Int) := by omega
              go_wp2_with fail
              go_end0
              exact ⟨rfl, _, hAk, ⟨hstb, hsrt⟩, hbk⟩
    · have k3 : (((b - m : Nat) : Int) == 1) = false := by rw [beq_eq_false_iff_ne]; omega
      obtain ⟨mid, hmid⟩ : ∃ mid, (a + b) / 2 = mid := ⟨_, rfl⟩
      obtain ⟨s0, r0, hD⟩ : ∃ s0 r0, SymD a m b mid s0 r0 := by
        rcases Nat.lt_or_ge mid m with h | h
        · exact ⟨mid + m - b, mid, ham, hmb, hmid.symm, .inl ⟨h, rfl, rfl⟩⟩
        · exact ⟨a, m, ham, hmb, hmid.symm, .inr ⟨h, rfl, rfl⟩⟩
      obtain ⟨d1, d2, d3, d4, d5, d6, d7⟩ := hD.dom
      have hst := hD.st
      have e1 : IntKind.i64.wrap ((a : Int) + (b : Int)) = ((a + b : Nat) : Int) := by rw [IntWalk.i64_in _ (by omega)]; omega
      have hmd1 : a < mid := by omega
      have hmd2 : mid < m → b ≤ mid + m := fun h => by omega
      have HM := Lib.hid hmid
      generalize a + b = ab at *
      go_upto_region 25 with fail
      rw [show (ab : Int) / 2 = ((ab / 2 : Nat) : Int) by omega, HM.out]
      clear e1 k0 k1 k2 k3 hmid
      have e2 : IntKind.i64.wrap ((mid : Int) + (m : Int)) = ((mid + m : Nat) : Int) := by rw [IntWalk.i64_in _ (by omega)]; omega
      have e3 : IntKind.i64.wrap (((mid + m : Nat) : Int) - 1) = ((mid + m - 1 : Nat) : Int) := by rw [IntWalk.i64_in _ (by omega)]; omega
      obtain ⟨nn, hnn⟩ : ∃ nn, mid + m = nn := ⟨_, rfl⟩
      obtain ⟨pp, hpp⟩ : ∃ pp, mid + m - 1 = pp := ⟨_, rfl⟩
      rw [hpp] at e3
      rw [hnn] at e2 e3
      have HNN := Lib.hid hnn
      have HPP := Lib.hid hpp
      clear hnn hpp
      go_upto_if 140 with fail
      clear e2
      go_cut [20, 21] (fun s20 s21 wx => s20 = .int .i64 (s0 : Nat) ∧ s21 = .int .i64 (r0 : Nat) ∧ w = wx)
      case first =>
        as_aux_lemma =>
        have hnv := HNN.out
        rcases hst with ⟨h5, h6, h7⟩ | ⟨h5, h6, h7⟩
        · have r1 : (mid : Int) < (m : Int) := by omega
          have hmd3 := hmd2 h5
          have e4 : IntKind.i64.wrap ((nn : Int) - (b : Int)) = (s0 : Int) := by rw [IntWalk.i64_in _ (by omega)]; omega
          subst h7
          clear h6 hnv h5 hmd3
          go_wp2_with fail
          go_meet
          exact ⟨rfl, rfl, rfl⟩
        · have r1 : ¬ (mid : Int) < (m : Int) := by omega
          subst h6 h7
          clear h5 hnv
          go_wp2_with fail
          go_meet
          exact ⟨rfl, rfl, rfl⟩
      case rest =>
      obtain ⟨rfl, rfl, rfl⟩ := hcut
      go_wp2_with fail
      clear e3
      go_loopg [20, 21, 23] (r0 - s0) (fun q s20 s21 s23 wr => ∃ s r : Nat, q = r - s ∧ s0 ≤ s ∧ s ≤ r ∧ r ≤ r0 ∧ s20 = .int .i64 (s : Nat) ∧ s21 = .int .i64 (r : Nat) ∧ Arr wr g N n f ∧ (∀ k, s0 ≤ k → k < s → ltF (f (mid + m - 1 - k)) (f k) = false) ∧ (∀ k, r ≤ k → k < r0 → ltF (f (mid + m - 1 - k)) (f k) = true) ∧ But g w wr)
      case atStart => exact ⟨s0, r0, rfl, by omega, by omega, by omega, rfl, rfl, hA, fun k h1 h2 => by omega, fun k h1 h2 => by omega, But.refl _ _⟩
      case round =>
        obtain ⟨s, r, rfl, hs0, hsr, hr0, rfl, rfl, hAr, hlo, hhi, hbt⟩ := hrel
        by_cases hlt : s < r
        · have r1 : (s : Int) < (r : Int) := by omega
          have e1 : IntKind.i64.wrap ((s : Int) + (r : Int)) = ((s + r : Nat) : Int) := by rw [IntWalk.i64_in _ (by omega)]; omega
          have hh1 : s ≤ (s + r) / 2 := by omega
          have hh2 : (s + r) / 2 < r := by omega
          generalize s + r = sr at *
          go_upto_region 35 with fail
          rw [show (sr : Int) / 2 = ((sr / 2 : Nat) : Int) by omega]
          generalize sr / 2 = h at *
          clear e1
          have hdh := d7 h (by omega) (by omega)
          have hpv := HPP.out
          rw [hpv] at hdh
          refine regSm35 (p := pp) hAr.drew (by omega) (by omega) (by omega) (by omega) ?_
          intro w2 _ _ _ _ _ _ _ _ _ _ _ _ _ hb2
          have hA2 := hAr.below hb2
          have hbt2 := hbt.trans (But.below hb2)
          clear hpv
          cases hc : ltF (f (pp - h)) (f h) with
          | false =>
            simp only [Bool.not_false]
            go_wp2_with fail
            go_roundg (r - (h + 1))
            case measure => omega
            case rel => exact ⟨h + 1, r, rfl, by omega, by omega, hr0, by go_num, rfl, hA2, fun k h1 h2 => sym_mono ltF_wk hD f hl hr k h h1 (by omega) (by omega) (by rw [HPP.out]; exact hc), hhi, hbt2⟩
          | true =>
            simp only [Bool.not_true]
            go_wp2_with fail
            go_roundg (h - s)
            case measure => omega
            case rel => exact ⟨s, h, rfl, hs0, by omega, by omega, rfl, rfl, hA2, hlo, (fun k h1 h2 => by
              rcases Bool.eq_false_or_eq_true (ltF (f (mid + m - 1 - k)) (f k)) with h3 | h3
              · exact h3
              · have := sym_mono ltF_wk hD f hl hr h k (by omega) h1 h2 h3
                rw [HPP.out, hc] at this
                cases this), hbt2⟩
        · obtain rfl : s = r := by omega
          have r1 : ¬ (s : Int) < (s : Int) := by omega
          obtain ⟨hG, hsm, hme⟩ := sym_split ltF_wk hD f hl hr hbn hs0 hr0 hlo hhi
          obtain ⟨en, hen⟩ : ∃ en, mid + m - s = en := ⟨_, rfl⟩
          rw [hen] at hG hme
          have hnv := HNN.out
          have e1 : IntKind.i64.wrap ((nn : Int) - (s : Int)) = (en : Int) := by rw [IntWalk.i64_in _ (by omega)]; omega
          clear hnv hen hlo hhi
          obtain ⟨bR, hbR⟩ : ∃ bR, decide (s < m ∧ m < en) = bR := ⟨_, rfl⟩
          have HBR := Lib.hid hbR
          clear hbR
          generalize wr = wo at *
          go_upto_region 39 with fail
          clear e1
          go_cut [185] (fun s185 wx => s185 = .bool bR ∧ wo = wx)
          case first =>
            as_aux_lemma =>
            by_cases q1 : s < m
            · have q1' : (s : Int) < (m : Int) := by omega
              by_cases q2 : m < en
              · have q2' : (m : Int) < (en : Int) := by omega
                go_wp2_with fail
                go_meet
                exact ⟨by rw [← HBR.out, decide_eq_true ⟨q1, q2⟩], rfl⟩
              · have q2' : ¬ (m : Int) < (en : Int) := by omega
                go_wp2_with fail
                go_meet
                exact ⟨by rw [← HBR.out, decide_eq_false (by omega)], rfl⟩
            · have q1' : ¬ (s : Int) < (m : Int) := by omega
              go_wp2_with fail
              go_meet
              exact ⟨by rw [← HBR.out, decide_eq_false (by omega)], rfl⟩
          case rest =>
          obtain ⟨rfl, rfl⟩ := hcut
          go_upto_if 185 with fail
          go_cut [191] (fun _ wx => Arr wx g N n (rot f s m en) ∧ But g w wx)
          case first =>
            as_aux_lemma =>
            cases bR with
            | true =>
              have hq := of_decide_eq_true HBR.out
              have ho4 := hG.o4
              have hro := rotate_any g N n c s m en f wo hAr hq.1 hq.2 (by omega) hn
              go_wp2_with fail
              refine hro.mono ?_
              rintro e w3 ⟨rfl, h3, hA3, rfl, hb3⟩
              go_wp2_with fail
              go_meet
              exact ⟨hA3, hbt.trans hb3⟩
            | false =>
              have hq := of_decide_eq_false HBR.out
              have hrf : rot f s m en = f := by
                rcases Nat.lt_or_ge s m with h | h
                · obtain rfl : m = en := by omega
                  exact rot_right _ _ _
                · obtain rfl : s = m := by omega
                  exact rot_left _ _ _
              go_wp2_with fail
              go_meet
              rw [hrf]
              exact ⟨hAr, hbt⟩
          case rest =>
          obtain ⟨hA3, hb3⟩ := hcut
          generalize rot f s m en = g0 at *
          obtain ⟨t0, t1, t2, t3, t4, tc, o1, o2, o3, o4⟩ := hG
          clear hAr hbt HBR
          obtain ⟨bS, hbS⟩ : ∃ bS, decide (a < s ∧ s < mid) = bS := ⟨_, rfl⟩
          have HBS := Lib.hid hbS
          clear hbS
          generalize wc = wp at *
          go_upto_region 41 with fail
          go_cut [199] (fun s199 wx => s199 = .bool bS ∧ wp = wx)
          case first =>
            as_aux_lemma =>
            by_cases q1 : a < s
            · have q1' : (a : Int) < (s : Int) := by omega
              by_cases q2 : s < mid
              · have q2' : (s : Int) < (mid : Int) := by omega
                go_wp2_with fail
                go_meet
                exact ⟨by rw [← HBS.out, decide_eq_true ⟨q1, q2⟩], rfl⟩
              · have q2' : ¬ (s : Int) < (mid : Int) := by omega
                go_wp2_with fail
                go_meet
                exact ⟨by rw [← HBS.out, decide_eq_false (by omega)], rfl⟩
            · have q1' : ¬ (a : Int) < (s : Int) := by omega
              go_wp2_with fail
              go_meet
              exact ⟨by rw [← HBS.out, decide_eq_false (by omega)], rfl⟩
          case rest =>
          obtain ⟨rfl, rfl⟩ := hcut
          go_upto_if 199 with fail
          go_cut [205] (fun _ wx => ∃ g1, Arr wx g N n g1 ∧ Stb ltF n a mid g0 g1 ∧ Srt ltF g1 a mid ∧ But g w wx)
          case first =>
            as_aux_lemma =>
            cases bS with
            | true =>
              have hq := of_decide_eq_true HBS.out
              have hro := ih a s mid g0 wp (by omega) hA3 hq.1 hq.2 (by omega) t1 t2
              go_wp2_with fail
              refine hro.mono ?_
              rintro e w4 ⟨rfl, h4, hA4, ⟨u1, u2⟩, hb4⟩
              go_wp2_with fail
              go_meet
              exact ⟨h4, hA4, u1, u2, hb3.trans hb4⟩
            | false =>
              have hq := of_decide_eq_false HBS.out
              have hss : Srt ltF g0 a mid := by
                rcases Nat.lt_or_ge a s with h | h
                · obtain rfl : s = mid := by omega
                  exact t1
                · obtain rfl : a = s := by omega
                  exact t2
              go_wp2_with fail
              go_meet
              exact ⟨g0, hA3, Stb.refl _ _ _ _, hss, hb3⟩
          case rest =>
          obtain ⟨g1, hA4, u1, u2, hb4⟩ := hcut
          have v3 : Srt ltF g1 mid en := t3.congr fun k h1 h2 => u1.out k (.inr h1)
          have v4 : Srt ltF g1 en b := t4.congr fun k h1 h2 => u1.out k (.inr (by omega))
          have t01 := t0.trans (u1.widen (Nat.le_refl _) (by omega))
          clear hA3 hb3 HBS t1 t2 t3 t4
          obtain ⟨bT, hbT⟩ : ∃ bT, decide (mid < en ∧ en < b) = bT := ⟨_, rfl⟩
          have HBT := Lib.hid hbT
          clear hbT
          generalize wc = wq at *
          go_upto_region 43 with fail
          go_cut [213] (fun s213 wx => s213 = .bool bT ∧ wq = wx)
          case first =>
            as_aux_lemma =>
            by_cases q1 : mid < en
            · have q1' : (mid : Int) < (en : Int) := by omega
              by_cases q2 : en < b
              · have q2' : (en : Int) < (b : Int) := by omega
                go_wp2_with fail
                go_meet
                exact ⟨by rw [← HBT.out, decide_eq_true ⟨q1, q2⟩], rfl⟩
              · have q2' : ¬ (en : Int) < (b : Int) := by omega
                go_wp2_with fail
                go_meet
                exact ⟨by rw [← HBT.out, decide_eq_false (by omega)], rfl⟩
            · have q1' : ¬ (mid : Int) < (en : Int) := by omega
              go_wp2_with fail
              go_meet
              exact ⟨by rw [← HBT.out, decide_eq_false (by omega)], rfl⟩
          case rest =>
          obtain ⟨rfl, rfl⟩ := hcut
          cases bT with
          | true =>
            have hq := of_decide_eq_true HBT.out
            have hro := ih mid en b g1 wq (by omega) hA4 hq.1 hq.2 (by omega) v3 v4
            go_wp2_with fail
            refine hro.mono ?_
            rintro e w5 ⟨rfl, h5, hA5, ⟨x1, x2⟩, hb5⟩
            go_wp2_with fail
            go_end0
            exact ⟨rfl, h5, hA5, ⟨t01.trans (x1.widen (by omega) (Nat.le_refl _)), sym_join tc u1 u2 x1 x2⟩, hb4.trans hb5⟩
          | false =>
            have hq := of_decide_eq_false HBT.out
            have hss : Srt ltF g1 mid b := by
              rcases Nat.lt_or_ge mid en with h | h
              · obtain rfl : en = b := by omega
                exact v3
              · obtain rfl : mid = en := by omega
                exact v4
            go_wp2_with fail
            go_end0
            exact ⟨rfl, g1, hA4, ⟨t01, sym_join tc u1 u2 (Stb.refl _ _ _ _) hss⟩, hb4⟩
end Go.Proofs.Ytadgaphgomagkaa
