/- CompactFunc over facts: the statements that draw their order. PRINTED by tools/regs_q.py. -/
import Derived.Test.YtadgaphgomagkaaQg
namespace Go.Proofs.Ytadgaphgomagkaa
open Go.RowKit
set_option maxHeartbeats 8000000
set_option maxRecDepth 100000
theorem run_ixB {ρ : Operand → Value} {d : Option Tmp} {ty : TypeId} {pos : String} {af : Array Edge} {gd : Option (Nat × Bool)} {W : World} {x ix : Operand} {g n c i k : Nat} (hx : ρ x = .slice (some ⟨g, k * 3, none⟩) n c) (hi : ρ ix = .int .i64 (i : Nat)) (h : i < n) : (execOp ρ ⟨d, .indexAddr 56 x ix, ty, pos, af, gd⟩).run Try.prog W = .ok (.value (.pointer (some ⟨g, (k + i) * 3, none⟩))) W := by
  have h1 := run_index_op (P := Try.prog) (ρ := ρ) (d := d) (ty := ty) (pos := pos) (af := af) (g := gd) (w := W) (size := 3) (i := i) (n := n) (c := c) (x := x) (ix := ix) Try.underlying56 (by kernel_rfl) hx hi h
  have e : (⟨g, k * 3, none⟩ : Addr).add (i * 3) = ⟨g, (k + i) * 3, none⟩ := by
    have : k * 3 + i * 3 = (k + i) * 3 := by omega
    unfold Addr.add
    split
    · have : i = 0 := by omega
      subst this
      rfl
    · simp only [Addr.mk.injEq, and_true, true_and]; exact this
  rw [e] at h1
  exact h1
def opsCf6 : Array Oper := #[{ dst := some 18, op := Op.move (Operand.tmp 1), type := 77, pos := "slices.go:401", after := #[], guard := none }, { dst := some 19, op := Op.move (Operand.tmp 0), type := 56, pos := "slices.go:401", after := #[], guard := none }, { dst := some 20, op := Op.move (Operand.tmp 5), type := 3, pos := "slices.go:401", after := #[], guard := none }, { dst := some 21, op := Op.indexAddr 56 (Operand.tmp 19) (Operand.tmp 20), type := 0, pos := "slices.go:401", after := #[{ on := 1, ground := Ground.data }, { on := 2, ground := Ground.data }], guard := none }, { dst := some 22, op := Op.load 71 (Operand.tmp 21), type := 71, pos := "slices.go:401", after := #[{ on := 3, ground := Ground.data }], guard := none }, { dst := some 23, op := Op.move (Operand.tmp 0), type := 56, pos := "slices.go:401", after := #[], guard := none }, { dst := some 24, op := Op.move (Operand.tmp 5), type := 3, pos := "slices.go:401", after := #[], guard := none }, { dst := some 25, op := Op.binOp BinOp.sub 3 (Operand.tmp 24) (Operand.const (Value.int IntKind.i64 1)) 3, type := 3, pos := "slices.go:401", after := #[{ on := 6, ground := Ground.data }], guard := none }, { dst := some 26, op := Op.indexAddr 56 (Operand.tmp 23) (Operand.tmp 25), type := 0, pos := "slices.go:401", after := #[{ on := 5, ground := Ground.data }, { on := 7, ground := Ground.data }], guard := none }, { dst := some 27, op := Op.load 71 (Operand.tmp 26), type := 71, pos := "slices.go:401", after := #[{ on := 8, ground := Ground.data }], guard := none }, { dst := some 28, op := Op.call { callee := Callee.value (Operand.tmp 18), args := #[Operand.tmp 22, Operand.tmp 27], argTypes := #[71, 71] }, type := 4, pos := "slices.go:401", after := #[{ on := 0, ground := Ground.data }, { on := 4, ground := Ground.data }, { on := 9, ground := Ground.data }], guard := none }]
theorem regCf6 {u2 u3 u4 u6 u7 u8 u9 u10 u11 u12 u13 u14 u15 u16 u17 u18 u19 u20 u21 u22 u23 u24 u25 u26 u27 u28 u29 u30 u31 u32 u33 u34 u35 u36 u37 u38 u39 u40 u41 u42 u43 u44 u45 u46 u47 u48 u49 u50 u51 u52 u53 u54 u55 u56 u57 u58 u59 u60 u61 u62 u63 u64 u65 : Value} {DD : List Deferred} {Q : Exit → Act → World → Prop} {w : World} {g N n c : Nat} {f : Nat → FM} {k : Nat} (hA : Arr w.drew g N n f) (hk : k + 1 < n) (hn : n ≤ 1099511627776)
    (hend : ∀ (w2 : World) (x18 x19 x20 x21 x22 x23 x24 x25 x26 x27 : Value) (_ : Below w.heap.size w w2), Q .normal ⟨#[.slice (some ⟨g, 0, none⟩) n c, .func (.func 92) #[] #[], u2, u3, u4, .int .i64 ((k + 1 : Nat) : Nat), u6, u7, u8, u9, u10, u11, u12, u13, u14, u15, u16, u17, x18, x19, x20, x21, x22, x23, x24, x25, x26, x27, .bool (eqF (f (k + 1)) (f k)), u29, u30, u31, u32, u33, u34, u35, u36, u37, u38, u39, u40, u41, u42, u43, u44, u45, u46, u47, u48, u49, u50, u51, u52, u53, u54, u55, u56, u57, u58, u59, u60, u61, u62, u63, u64, u65], DD⟩ w2) :
    (Code.region 6 opsCf6 true).wp Try.prog Q ⟨#[.slice (some ⟨g, 0, none⟩) n c, .func (.func 92) #[] #[], u2, u3, u4, .int .i64 ((k + 1 : Nat) : Nat), u6, u7, u8, u9, u10, u11, u12, u13, u14, u15, u16, u17, u18, u19, u20, u21, u22, u23, u24, u25, u26, u27, u28, u29, u30, u31, u32, u33, u34, u35, u36, u37, u38, u39, u40, u41, u42, u43, u44, u45, u46, u47, u48, u49, u50, u51, u52, u53, u54, u55, u56, u57, u58, u59, u60, u61, u62, u63, u64, u65], DD⟩ w := by
  refine wp_region_noPanic ?_
  refine wp_region_held_drew (S := fun _ => True) (by kernel_rfl) trivial (fun _ => ?_)
  refine wpAnyH_take (i := 0) (oi := (⟨some 18, Op.move (Operand.tmp 1), 77, "slices.go:401", #[], none⟩)) (v := .func (.func 92) #[] #[]) rfl (by kernel_rfl) (by kernel_rfl) (by kernel_rfl) (fun _ _ _ h => h) (Or.inl ⟨by kernel_rfl, fun _ _ => by kernel_rfl⟩) trivial ?_
  simp only [Act.put, List.setIfInBounds_toArray, List.set_cons_zero, List.set_cons_succ]
  refine wpAnyH_take (i := 1) (oi := (⟨some 19, Op.move (Operand.tmp 0), 56, "slices.go:401", #[], none⟩)) (v := .slice (some ⟨g, 0, none⟩) n c) rfl (by kernel_rfl) (by kernel_rfl) (by kernel_rfl) (fun _ _ _ h => h) (Or.inl ⟨by kernel_rfl, fun _ _ => by kernel_rfl⟩) trivial ?_
  simp only [Act.put, List.setIfInBounds_toArray, List.set_cons_zero, List.set_cons_succ]
  refine wpAnyH_take (i := 2) (oi := (⟨some 20, Op.move (Operand.tmp 5), 3, "slices.go:401", #[], none⟩)) (v := .int .i64 ((k + 1 : Nat) : Nat)) rfl (by kernel_rfl) (by kernel_rfl) (by kernel_rfl) (fun _ _ _ h => h) (Or.inl ⟨by kernel_rfl, fun _ _ => by kernel_rfl⟩) trivial ?_
  simp only [Act.put, List.setIfInBounds_toArray, List.set_cons_zero, List.set_cons_succ]
  refine wpAnyH_take (i := 3) (oi := (⟨some 21, Op.indexAddr 56 (Operand.tmp 19) (Operand.tmp 20), 0, "slices.go:401", #[{ on := 1, ground := Ground.data }, { on := 2, ground := Ground.data }], none⟩)) (v := .pointer (some ⟨g, (k + 1) * 3, none⟩)) rfl (by kernel_rfl) (by kernel_rfl) (by kernel_rfl) (fun _ _ _ h => h) (Or.inl ⟨by kernel_rfl, fun W _ => run_ixA (i := k + 1) (n := n) (c := c) rfl rfl (by omega)⟩) trivial ?_
  simp only [Act.put, List.setIfInBounds_toArray, List.set_cons_zero, List.set_cons_succ]
  refine wpAnyH_take (i := 5) (oi := (⟨some 23, Op.move (Operand.tmp 0), 56, "slices.go:401", #[], none⟩)) (v := .slice (some ⟨g, 0, none⟩) n c) rfl (by kernel_rfl) (by kernel_rfl) (by kernel_rfl) (fun _ _ _ h => h) (Or.inl ⟨by kernel_rfl, fun _ _ => by kernel_rfl⟩) trivial ?_
  simp only [Act.put, List.setIfInBounds_toArray, List.set_cons_zero, List.set_cons_succ]
  refine wpAnyH_take (i := 6) (oi := (⟨some 24, Op.move (Operand.tmp 5), 3, "slices.go:401", #[], none⟩)) (v := .int .i64 ((k + 1 : Nat) : Nat)) rfl (by kernel_rfl) (by kernel_rfl) (by kernel_rfl) (fun _ _ _ h => h) (Or.inl ⟨by kernel_rfl, fun _ _ => by kernel_rfl⟩) trivial ?_
  simp only [Act.put, List.setIfInBounds_toArray, List.set_cons_zero, List.set_cons_succ]
  refine wpAnyH_take (i := 7) (oi := (⟨some 25, Op.binOp BinOp.sub 3 (Operand.tmp 24) (Operand.const (Value.int IntKind.i64 1)) 3, 3, "slices.go:401", #[{ on := 6, ground := Ground.data }], none⟩)) (v := .int .i64 (k : Nat)) rfl (by kernel_rfl) (by kernel_rfl) (by kernel_rfl) (fun _ _ _ h => h) (Or.inl ⟨by kernel_rfl, fun W _ => run_sub1_op (a := k) rfl rfl (by omega)⟩) trivial ?_
  simp only [Act.put, List.setIfInBounds_toArray, List.set_cons_zero, List.set_cons_succ]
  refine wpAnyH_take (i := 8) (oi := (⟨some 26, Op.indexAddr 56 (Operand.tmp 23) (Operand.tmp 25), 0, "slices.go:401", #[{ on := 5, ground := Ground.data }, { on := 7, ground := Ground.data }], none⟩)) (v := .pointer (some ⟨g, (k) * 3, none⟩)) rfl (by kernel_rfl) (by kernel_rfl) (by kernel_rfl) (fun _ _ _ h => h) (Or.inl ⟨by kernel_rfl, fun W _ => run_ixA (i := k) (n := n) (c := c) rfl rfl (by omega)⟩) trivial ?_
  simp only [Act.put, List.setIfInBounds_toArray, List.set_cons_zero, List.set_cons_succ]
  refine wpAnyH_ready (rs := [4, 9]) (by kernel_rfl) (by simp) ?_
  refine AllReadyH.cons (o := (⟨some 22, Op.load 71 (Operand.tmp 21), 71, "slices.go:401", #[{ on := 3, ground := Ground.data }], none⟩)) rfl ?_ (AllReadyH.cons (o := (⟨some 27, Op.load 71 (Operand.tmp 26), 71, "slices.go:401", #[{ on := 8, ground := Ground.data }], none⟩)) rfl ?_ (AllReadyH.nil))
  · skip
    refine next_op (v := (f (k + 1)).val) (by kernel_rfl) (run_loadS_op (f (k + 1)).cells (by kernel_rfl) (by kernel_rfl) rfl (hA.cells (k + 1) (by omega))) trivial (fun _ => ?_)
    simp only [Act.put, List.setIfInBounds_toArray, List.set_cons_zero, List.set_cons_succ]
    refine wpAnyH_ready (rs := [9]) (by kernel_rfl) (by simp) ?_
    refine AllReadyH.cons (o := (⟨some 27, Op.load 71 (Operand.tmp 26), 71, "slices.go:401", #[{ on := 8, ground := Ground.data }], none⟩)) rfl ?_ (AllReadyH.nil)
    · skip
      refine next_op (v := (f (k)).val) (by kernel_rfl) (run_loadS_op (f (k)).cells (by kernel_rfl) (by kernel_rfl) rfl (hA.cells (k) (by omega))) trivial (fun _ => ?_)
      simp only [Act.put, List.setIfInBounds_toArray, List.set_cons_zero, List.set_cons_succ]
      refine wpAnyH_ready (rs := [10]) (by kernel_rfl) (by simp) ?_
      refine AllReadyH.cons (o := (⟨some 28, Op.call { callee := Callee.value (Operand.tmp 18), args := #[Operand.tmp 22, Operand.tmp 27], argTypes := #[71, 71] }, 4, "slices.go:401", #[{ on := 0, ground := Ground.data }, { on := 4, ground := Ground.data }, { on := 9, ground := Ground.data }], none⟩)) rfl ?_ (AllReadyH.nil)
      · skip
        refine next_call (f := 92) (args := #[(f (k + 1)).val, (f (k)).val]) (by kernel_rfl) (by kernel_rfl) (merge1_any (f (k + 1)) (f (k)) w.drew) ?_
        rintro e wy3 ⟨rfl, hb⟩
        refine ⟨.bool (eqF (f (k + 1)) (f (k))), rfl, trivial, fun _ => ?_⟩
        simp only [Act.put, List.setIfInBounds_toArray, List.set_cons_zero, List.set_cons_succ]
        refine wpAnyH_done (by kernel_rfl) ?_ _
        exact NoPanic.normal (hend wy3 _ _ _ _ _ _ _ _ _ _ ((Below.refl _ _).drew.trans hb))
  · skip
    refine next_op (v := (f (k)).val) (by kernel_rfl) (run_loadS_op (f (k)).cells (by kernel_rfl) (by kernel_rfl) rfl (hA.cells (k) (by omega))) trivial (fun _ => ?_)
    simp only [Act.put, List.setIfInBounds_toArray, List.set_cons_zero, List.set_cons_succ]
    refine wpAnyH_ready (rs := [4]) (by kernel_rfl) (by simp) ?_
    refine AllReadyH.cons (o := (⟨some 22, Op.load 71 (Operand.tmp 21), 71, "slices.go:401", #[{ on := 3, ground := Ground.data }], none⟩)) rfl ?_ (AllReadyH.nil)
    · skip
      refine next_op (v := (f (k + 1)).val) (by kernel_rfl) (run_loadS_op (f (k + 1)).cells (by kernel_rfl) (by kernel_rfl) rfl (hA.cells (k + 1) (by omega))) trivial (fun _ => ?_)
      simp only [Act.put, List.setIfInBounds_toArray, List.set_cons_zero, List.set_cons_succ]
      refine wpAnyH_ready (rs := [10]) (by kernel_rfl) (by simp) ?_
      refine AllReadyH.cons (o := (⟨some 28, Op.call { callee := Callee.value (Operand.tmp 18), args := #[Operand.tmp 22, Operand.tmp 27], argTypes := #[71, 71] }, 4, "slices.go:401", #[{ on := 0, ground := Ground.data }, { on := 4, ground := Ground.data }, { on := 9, ground := Ground.data }], none⟩)) rfl ?_ (AllReadyH.nil)
      · skip
        refine next_call (f := 92) (args := #[(f (k + 1)).val, (f (k)).val]) (by kernel_rfl) (by kernel_rfl) (merge1_any (f (k + 1)) (f (k)) w.drew) ?_
        rintro e wy6 ⟨rfl, hb⟩
        refine ⟨.bool (eqF (f (k + 1)) (f (k))), rfl, trivial, fun _ => ?_⟩
        simp only [Act.put, List.setIfInBounds_toArray, List.set_cons_zero, List.set_cons_succ]
        refine wpAnyH_done (by kernel_rfl) ?_ _
        exact NoPanic.normal (hend wy6 _ _ _ _ _ _ _ _ _ _ ((Below.refl _ _).drew.trans hb))
def opsCf11 : Array Oper := #[{ dst := some 38, op := Op.move (Operand.tmp 1), type := 77, pos := "slices.go:404", after := #[], guard := none }, { dst := some 39, op := Op.move (Operand.tmp 6), type := 56, pos := "slices.go:404", after := #[], guard := none }, { dst := some 40, op := Op.move (Operand.tmp 7), type := 3, pos := "slices.go:404", after := #[], guard := none }, { dst := some 41, op := Op.indexAddr 56 (Operand.tmp 39) (Operand.tmp 40), type := 0, pos := "slices.go:404", after := #[{ on := 1, ground := Ground.data }, { on := 2, ground := Ground.data }], guard := none }, { dst := some 42, op := Op.load 71 (Operand.tmp 41), type := 71, pos := "slices.go:404", after := #[{ on := 3, ground := Ground.data }], guard := none }, { dst := some 43, op := Op.move (Operand.tmp 6), type := 56, pos := "slices.go:404", after := #[], guard := none }, { dst := some 44, op := Op.move (Operand.tmp 7), type := 3, pos := "slices.go:404", after := #[], guard := none }, { dst := some 45, op := Op.binOp BinOp.sub 3 (Operand.tmp 44) (Operand.const (Value.int IntKind.i64 1)) 3, type := 3, pos := "slices.go:404", after := #[{ on := 6, ground := Ground.data }], guard := none }, { dst := some 46, op := Op.indexAddr 56 (Operand.tmp 43) (Operand.tmp 45), type := 0, pos := "slices.go:404", after := #[{ on := 5, ground := Ground.data }, { on := 7, ground := Ground.data }], guard := none }, { dst := some 47, op := Op.load 71 (Operand.tmp 46), type := 71, pos := "slices.go:404", after := #[{ on := 8, ground := Ground.data }], guard := none }, { dst := some 48, op := Op.call { callee := Callee.value (Operand.tmp 38), args := #[Operand.tmp 42, Operand.tmp 47], argTypes := #[71, 71] }, type := 4, pos := "slices.go:404", after := #[{ on := 0, ground := Ground.data }, { on := 4, ground := Ground.data }, { on := 9, ground := Ground.data }], guard := none }, { dst := some 49, op := Op.unOp UnOp.not 4 (Operand.tmp 48), type := 4, pos := "slices.go:404", after := #[{ on := 10, ground := Ground.data }], guard := none }]
theorem regCf11 {u0 u2 u3 u4 u5 u8 u9 u10 u11 u12 u13 u14 u15 u16 u17 u18 u19 u20 u21 u22 u23 u24 u25 u26 u27 u28 u29 u30 u31 u32 u33 u34 u35 u36 u37 u38 u39 u40 u41 u42 u43 u44 u45 u46 u47 u48 u49 u50 u51 u52 u53 u54 u55 u56 u57 u58 u59 u60 u61 u62 u63 u64 u65 : Value} {DD : List Deferred} {Q : Exit → Act → World → Prop} {w : World} {g N n c : Nat} {f : Nat → FM} {k q m : Nat} (hA : Arr w.drew g N n f) (hk : k + 1 < m) (hm : q + m ≤ n) (hn : n ≤ 1099511627776)
    (hend : ∀ (w2 : World) (x38 x39 x40 x41 x42 x43 x44 x45 x46 x47 x48 : Value) (_ : Below w.heap.size w w2), Q .normal ⟨#[u0, .func (.func 92) #[] #[], u2, u3, u4, u5, .slice (some ⟨g, q * 3, none⟩) m c, .int .i64 ((k + 1 : Nat) : Nat), u8, u9, u10, u11, u12, u13, u14, u15, u16, u17, u18, u19, u20, u21, u22, u23, u24, u25, u26, u27, u28, u29, u30, u31, u32, u33, u34, u35, u36, u37, x38, x39, x40, x41, x42, x43, x44, x45, x46, x47, x48, .bool (!eqF (f (q + (k + 1))) (f (q + k))), u50, u51, u52, u53, u54, u55, u56, u57, u58, u59, u60, u61, u62, u63, u64, u65], DD⟩ w2) :
    (Code.region 11 opsCf11 true).wp Try.prog Q ⟨#[u0, .func (.func 92) #[] #[], u2, u3, u4, u5, .slice (some ⟨g, q * 3, none⟩) m c, .int .i64 ((k + 1 : Nat) : Nat), u8, u9, u10, u11, u12, u13, u14, u15, u16, u17, u18, u19, u20, u21, u22, u23, u24, u25, u26, u27, u28, u29, u30, u31, u32, u33, u34, u35, u36, u37, u38, u39, u40, u41, u42, u43, u44, u45, u46, u47, u48, u49, u50, u51, u52, u53, u54, u55, u56, u57, u58, u59, u60, u61, u62, u63, u64, u65], DD⟩ w := by
  refine wp_region_noPanic ?_
  refine wp_region_held_drew (S := fun _ => True) (by kernel_rfl) trivial (fun _ => ?_)
  refine wpAnyH_take (i := 0) (oi := (⟨some 38, Op.move (Operand.tmp 1), 77, "slices.go:404", #[], none⟩)) (v := .func (.func 92) #[] #[]) rfl (by kernel_rfl) (by kernel_rfl) (by kernel_rfl) (fun _ _ _ h => h) (Or.inl ⟨by kernel_rfl, fun _ _ => by kernel_rfl⟩) trivial ?_
  simp only [Act.put, List.setIfInBounds_toArray, List.set_cons_zero, List.set_cons_succ]
  refine wpAnyH_take (i := 1) (oi := (⟨some 39, Op.move (Operand.tmp 6), 56, "slices.go:404", #[], none⟩)) (v := .slice (some ⟨g, q * 3, none⟩) m c) rfl (by kernel_rfl) (by kernel_rfl) (by kernel_rfl) (fun _ _ _ h => h) (Or.inl ⟨by kernel_rfl, fun _ _ => by kernel_rfl⟩) trivial ?_
  simp only [Act.put, List.setIfInBounds_toArray, List.set_cons_zero, List.set_cons_succ]
  refine wpAnyH_take (i := 2) (oi := (⟨some 40, Op.move (Operand.tmp 7), 3, "slices.go:404", #[], none⟩)) (v := .int .i64 ((k + 1 : Nat) : Nat)) rfl (by kernel_rfl) (by kernel_rfl) (by kernel_rfl) (fun _ _ _ h => h) (Or.inl ⟨by kernel_rfl, fun _ _ => by kernel_rfl⟩) trivial ?_
  simp only [Act.put, List.setIfInBounds_toArray, List.set_cons_zero, List.set_cons_succ]
  refine wpAnyH_take (i := 3) (oi := (⟨some 41, Op.indexAddr 56 (Operand.tmp 39) (Operand.tmp 40), 0, "slices.go:404", #[{ on := 1, ground := Ground.data }, { on := 2, ground := Ground.data }], none⟩)) (v := .pointer (some ⟨g, (q + (k + 1)) * 3, none⟩)) rfl (by kernel_rfl) (by kernel_rfl) (by kernel_rfl) (fun _ _ _ h => h) (Or.inl ⟨by kernel_rfl, fun W _ => run_ixB (i := k + 1) (n := m) (c := c) rfl rfl (by omega)⟩) trivial ?_
  simp only [Act.put, List.setIfInBounds_toArray, List.set_cons_zero, List.set_cons_succ]
  refine wpAnyH_take (i := 5) (oi := (⟨some 43, Op.move (Operand.tmp 6), 56, "slices.go:404", #[], none⟩)) (v := .slice (some ⟨g, q * 3, none⟩) m c) rfl (by kernel_rfl) (by kernel_rfl) (by kernel_rfl) (fun _ _ _ h => h) (Or.inl ⟨by kernel_rfl, fun _ _ => by kernel_rfl⟩) trivial ?_
  simp only [Act.put, List.setIfInBounds_toArray, List.set_cons_zero, List.set_cons_succ]
  refine wpAnyH_take (i := 6) (oi := (⟨some 44, Op.move (Operand.tmp 7), 3, "slices.go:404", #[], none⟩)) (v := .int .i64 ((k + 1 : Nat) : Nat)) rfl (by kernel_rfl) (by kernel_rfl) (by kernel_rfl) (fun _ _ _ h => h) (Or.inl ⟨by kernel_rfl, fun _ _ => by kernel_rfl⟩) trivial ?_
  simp only [Act.put, List.setIfInBounds_toArray, List.set_cons_zero, List.set_cons_succ]
  refine wpAnyH_take (i := 7) (oi := (⟨some 45, Op.binOp BinOp.sub 3 (Operand.tmp 44) (Operand.const (Value.int IntKind.i64 1)) 3, 3, "slices.go:404", #[{ on := 6, ground := Ground.data }], none⟩)) (v := .int .i64 (k : Nat)) rfl (by kernel_rfl) (by kernel_rfl) (by kernel_rfl) (fun _ _ _ h => h) (Or.inl ⟨by kernel_rfl, fun W _ => run_sub1_op (a := k) rfl rfl (by omega)⟩) trivial ?_
  simp only [Act.put, List.setIfInBounds_toArray, List.set_cons_zero, List.set_cons_succ]
  refine wpAnyH_take (i := 8) (oi := (⟨some 46, Op.indexAddr 56 (Operand.tmp 43) (Operand.tmp 45), 0, "slices.go:404", #[{ on := 5, ground := Ground.data }, { on := 7, ground := Ground.data }], none⟩)) (v := .pointer (some ⟨g, (q + (k)) * 3, none⟩)) rfl (by kernel_rfl) (by kernel_rfl) (by kernel_rfl) (fun _ _ _ h => h) (Or.inl ⟨by kernel_rfl, fun W _ => run_ixB (i := k) (n := m) (c := c) rfl rfl (by omega)⟩) trivial ?_
  simp only [Act.put, List.setIfInBounds_toArray, List.set_cons_zero, List.set_cons_succ]
  refine wpAnyH_ready (rs := [4, 9]) (by kernel_rfl) (by simp) ?_
  refine AllReadyH.cons (o := (⟨some 42, Op.load 71 (Operand.tmp 41), 71, "slices.go:404", #[{ on := 3, ground := Ground.data }], none⟩)) rfl ?_ (AllReadyH.cons (o := (⟨some 47, Op.load 71 (Operand.tmp 46), 71, "slices.go:404", #[{ on := 8, ground := Ground.data }], none⟩)) rfl ?_ (AllReadyH.nil))
  · skip
    refine next_op (v := (f (q + (k + 1))).val) (by kernel_rfl) (run_loadS_op (f (q + (k + 1))).cells (by kernel_rfl) (by kernel_rfl) rfl (hA.cells (q + (k + 1)) (by omega))) trivial (fun _ => ?_)
    simp only [Act.put, List.setIfInBounds_toArray, List.set_cons_zero, List.set_cons_succ]
    refine wpAnyH_ready (rs := [9]) (by kernel_rfl) (by simp) ?_
    refine AllReadyH.cons (o := (⟨some 47, Op.load 71 (Operand.tmp 46), 71, "slices.go:404", #[{ on := 8, ground := Ground.data }], none⟩)) rfl ?_ (AllReadyH.nil)
    · skip
      refine next_op (v := (f (q + k)).val) (by kernel_rfl) (run_loadS_op (f (q + k)).cells (by kernel_rfl) (by kernel_rfl) rfl (hA.cells (q + k) (by omega))) trivial (fun _ => ?_)
      simp only [Act.put, List.setIfInBounds_toArray, List.set_cons_zero, List.set_cons_succ]
      refine wpAnyH_ready (rs := [10]) (by kernel_rfl) (by simp) ?_
      refine AllReadyH.cons (o := (⟨some 48, Op.call { callee := Callee.value (Operand.tmp 38), args := #[Operand.tmp 42, Operand.tmp 47], argTypes := #[71, 71] }, 4, "slices.go:404", #[{ on := 0, ground := Ground.data }, { on := 4, ground := Ground.data }, { on := 9, ground := Ground.data }], none⟩)) rfl ?_ (AllReadyH.nil)
      · skip
        refine next_call (f := 92) (args := #[(f (q + (k + 1))).val, (f (q + k)).val]) (by kernel_rfl) (by kernel_rfl) (merge1_any (f (q + (k + 1))) (f (q + k)) w.drew) ?_
        rintro e wy3 ⟨rfl, hb⟩
        refine ⟨.bool (eqF (f (q + (k + 1))) (f (q + k))), rfl, trivial, fun _ => ?_⟩
        simp only [Act.put, List.setIfInBounds_toArray, List.set_cons_zero, List.set_cons_succ]
        refine wpAnyH_take (i := 11) (oi := (⟨some 49, Op.unOp UnOp.not 4 (Operand.tmp 48), 4, "slices.go:404", #[{ on := 10, ground := Ground.data }], none⟩)) (v := .bool (!eqF (f (q + (k + 1))) (f (q + k)))) rfl (by kernel_rfl) (by kernel_rfl) (by kernel_rfl) (fun _ _ _ h => h) (Or.inl ⟨by kernel_rfl, fun W _ => run_not_op rfl⟩) trivial ?_
        simp only [Act.put, List.setIfInBounds_toArray, List.set_cons_zero, List.set_cons_succ]
        refine wpAnyH_done (by kernel_rfl) ?_ _
        exact NoPanic.normal (hend wy3 _ _ _ _ _ _ _ _ _ _ _ ((Below.refl _ _).drew.trans hb))
  · skip
    refine next_op (v := (f (q + k)).val) (by kernel_rfl) (run_loadS_op (f (q + k)).cells (by kernel_rfl) (by kernel_rfl) rfl (hA.cells (q + k) (by omega))) trivial (fun _ => ?_)
    simp only [Act.put, List.setIfInBounds_toArray, List.set_cons_zero, List.set_cons_succ]
    refine wpAnyH_ready (rs := [4]) (by kernel_rfl) (by simp) ?_
    refine AllReadyH.cons (o := (⟨some 42, Op.load 71 (Operand.tmp 41), 71, "slices.go:404", #[{ on := 3, ground := Ground.data }], none⟩)) rfl ?_ (AllReadyH.nil)
    · skip
      refine next_op (v := (f (q + (k + 1))).val) (by kernel_rfl) (run_loadS_op (f (q + (k + 1))).cells (by kernel_rfl) (by kernel_rfl) rfl (hA.cells (q + (k + 1)) (by omega))) trivial (fun _ => ?_)
      simp only [Act.put, List.setIfInBounds_toArray, List.set_cons_zero, List.set_cons_succ]
      refine wpAnyH_ready (rs := [10]) (by kernel_rfl) (by simp) ?_
      refine AllReadyH.cons (o := (⟨some 48, Op.call { callee := Callee.value (Operand.tmp 38), args := #[Operand.tmp 42, Operand.tmp 47], argTypes := #[71, 71] }, 4, "slices.go:404", #[{ on := 0, ground := Ground.data }, { on := 4, ground := Ground.data }, { on := 9, ground := Ground.data }], none⟩)) rfl ?_ (AllReadyH.nil)
      · skip
        refine next_call (f := 92) (args := #[(f (q + (k + 1))).val, (f (q + k)).val]) (by kernel_rfl) (by kernel_rfl) (merge1_any (f (q + (k + 1))) (f (q + k)) w.drew) ?_
        rintro e wy6 ⟨rfl, hb⟩
        refine ⟨.bool (eqF (f (q + (k + 1))) (f (q + k))), rfl, trivial, fun _ => ?_⟩
        simp only [Act.put, List.setIfInBounds_toArray, List.set_cons_zero, List.set_cons_succ]
        refine wpAnyH_take (i := 11) (oi := (⟨some 49, Op.unOp UnOp.not 4 (Operand.tmp 48), 4, "slices.go:404", #[{ on := 10, ground := Ground.data }], none⟩)) (v := .bool (!eqF (f (q + (k + 1))) (f (q + k)))) rfl (by kernel_rfl) (by kernel_rfl) (by kernel_rfl) (fun _ _ _ h => h) (Or.inl ⟨by kernel_rfl, fun W _ => run_not_op rfl⟩) trivial ?_
        simp only [Act.put, List.setIfInBounds_toArray, List.set_cons_zero, List.set_cons_succ]
        refine wpAnyH_done (by kernel_rfl) ?_ _
        exact NoPanic.normal (hend wy6 _ _ _ _ _ _ _ _ _ _ _ ((Below.refl _ _).drew.trans hb))
end Go.Proofs.Ytadgaphgomagkaa
