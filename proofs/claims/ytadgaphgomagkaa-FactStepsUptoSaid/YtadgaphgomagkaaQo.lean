/- Lists of facts merged: the statements that draw their order. PRINTED by tools/regs_m.py. -/
import Derived.Test.YtadgaphgomagkaaQk
import Derived.Test.YtadgaphgomagkaaTf
namespace Go.Proofs.Ytadgaphgomagkaa
open Go.RowKit
set_option maxHeartbeats 8000000
set_option maxRecDepth 100000
theorem cell_lt {W : World} {p : Addr} {u : Value} (h : W.cell? p = some u) : p.block < W.heap.size := by
  rcases Nat.lt_or_ge p.block W.heap.size with hlt | hge
  · exact hlt
  · exfalso
    unfold World.cell? at h
    rw [Array.getElem?_eq_none hge] at h
    cases h
theorem run_neqb_same {ρ : Operand → Value} {d : Option Tmp} {ty : TypeId} {pos : String} {af : Array Edge} {g : Option (Nat × Bool)} {w : World} {x y : Operand} {b : Bool} (hx : ρ x = .bool b) (hy : ρ y = .bool b) : (execOp ρ ⟨d, .binOp .neq 4 x y 4, ty, pos, af, g⟩).run Try.prog w = .ok (.value (.bool false)) w := by
  simp only [execOp, hx, hy]
  cases b <;> kernel_rfl
theorem run_neqi_same {P : Program} {ρ : Operand → Value} {d : Option Tmp} {ty : TypeId} {pos : String} {af : Array Edge} {g : Option (Nat × Bool)} {w : World} {t r : TypeId} {x y : Operand} {a : Int} (hx : ρ x = .int .i64 a) (hy : ρ y = .int .i64 a) : (execOp ρ ⟨d, .binOp .neq t x y r, ty, pos, af, g⟩).run P w = .ok (.value (.bool false)) w := by
  simp only [execOp, hx, hy]
  simp [eqGuard, go_sem]
def opsTw10 : Array Oper := #[{ dst := some 27, op := Op.move (Operand.tmp 0), type := 56, pos := "ref.go:64", after := #[], guard := none }, { dst := some 28, op := Op.move (Operand.tmp 6), type := 3, pos := "ref.go:64", after := #[], guard := none }, { dst := some 29, op := Op.indexAddr 56 (Operand.tmp 27) (Operand.tmp 28), type := 0, pos := "ref.go:64", after := #[{ on := 0, ground := Ground.data }, { on := 1, ground := Ground.data }], guard := none }, { dst := some 30, op := Op.load 71 (Operand.tmp 29), type := 71, pos := "ref.go:64", after := #[{ on := 2, ground := Ground.data }], guard := none }, { dst := some 31, op := Op.move (Operand.tmp 1), type := 56, pos := "ref.go:64", after := #[], guard := none }, { dst := some 32, op := Op.move (Operand.tmp 7), type := 3, pos := "ref.go:64", after := #[], guard := none }, { dst := some 33, op := Op.indexAddr 56 (Operand.tmp 31) (Operand.tmp 32), type := 0, pos := "ref.go:64", after := #[{ on := 4, ground := Ground.data }, { on := 5, ground := Ground.data }], guard := none }, { dst := some 34, op := Op.load 71 (Operand.tmp 33), type := 71, pos := "ref.go:64", after := #[{ on := 6, ground := Ground.data }], guard := none }, { dst := some 35, op := Op.call { callee := Callee.value (Operand.func 45), args := #[Operand.tmp 30, Operand.tmp 34], argTypes := #[71, 71] }, type := 3, pos := "ref.go:64", after := #[{ on := 3, ground := Ground.data }, { on := 7, ground := Ground.data }], guard := none }, { dst := some 8, op := Op.assign (Operand.tmp 35), type := 3, pos := "ref.go:64", after := #[{ on := 8, ground := Ground.data }, { on := 8, ground := Ground.chain }, { on := 0, ground := Ground.phase }, { on := 1, ground := Ground.phase }, { on := 2, ground := Ground.phase }, { on := 3, ground := Ground.phase }, { on := 4, ground := Ground.phase }, { on := 5, ground := Ground.phase }, { on := 6, ground := Ground.phase }, { on := 7, ground := Ground.phase }, { on := 8, ground := Ground.phase }], guard := none }]
theorem regTw10 {u2 u3 u4 u5 u8 u9 u10 u11 u12 u13 u14 u15 u16 u17 u18 u19 u20 u21 u22 u23 u24 u25 u26 u27 u28 u29 u30 u31 u32 u33 u34 u35 u36 u37 u38 u39 u40 u41 u42 u43 u44 u45 u46 u47 u48 u49 u50 u51 u52 u53 u54 u55 u56 u57 u58 u59 u60 : Value} {DD : List Deferred} {Q : Exit → Act → World → Prop} {w : World} {aa ab : Addr} {n m ca cb i k : Nat} {a b : List FM} {x y : FM} (ha : Rd w.drew (some aa) (fcells a)) (hb : Rd w.drew (some ab) (fcells b)) (hx : a[i]? = some x) (hy : b[k]? = some y) (hn : i < n) (hm : k < m)
    (hend : ∀ (w2 : World) (x27 x28 x29 x30 x31 x32 x33 x34 x35 : Value) (_ : Below w.heap.size w w2), Q .normal ⟨#[.slice (some aa) n ca, .slice (some ab) m cb, u2, u3, u4, u5, .int .i64 (i : Nat), .int .i64 (k : Nat), .int .i64 (cmpF x y), u9, u10, u11, u12, u13, u14, u15, u16, u17, u18, u19, u20, u21, u22, u23, u24, u25, u26, x27, x28, x29, x30, x31, x32, x33, x34, x35, u36, u37, u38, u39, u40, u41, u42, u43, u44, u45, u46, u47, u48, u49, u50, u51, u52, u53, u54, u55, u56, u57, u58, u59, u60], DD⟩ w2) :
    (Code.region 10 opsTw10 true).wp Try.prog Q ⟨#[.slice (some aa) n ca, .slice (some ab) m cb, u2, u3, u4, u5, .int .i64 (i : Nat), .int .i64 (k : Nat), u8, u9, u10, u11, u12, u13, u14, u15, u16, u17, u18, u19, u20, u21, u22, u23, u24, u25, u26, u27, u28, u29, u30, u31, u32, u33, u34, u35, u36, u37, u38, u39, u40, u41, u42, u43, u44, u45, u46, u47, u48, u49, u50, u51, u52, u53, u54, u55, u56, u57, u58, u59, u60], DD⟩ w := by
  refine wp_region_noPanic ?_
  refine wp_region_held_drew (S := fun _ => True) (by kernel_rfl) trivial (fun _ => ?_)
  refine wpAnyH_take (i := 0) (oi := (⟨some 27, Op.move (Operand.tmp 0), 56, "ref.go:64", #[], none⟩)) (v := .slice (some aa) n ca) rfl (by kernel_rfl) (by kernel_rfl) (by kernel_rfl) (fun _ _ _ h => h) (Or.inl ⟨by kernel_rfl, fun _ _ => by kernel_rfl⟩) trivial ?_
  simp only [Act.put, List.setIfInBounds_toArray, List.set_cons_zero, List.set_cons_succ]
  refine wpAnyH_take (i := 1) (oi := (⟨some 28, Op.move (Operand.tmp 6), 3, "ref.go:64", #[], none⟩)) (v := .int .i64 (i : Nat)) rfl (by kernel_rfl) (by kernel_rfl) (by kernel_rfl) (fun _ _ _ h => h) (Or.inl ⟨by kernel_rfl, fun _ _ => by kernel_rfl⟩) trivial ?_
  simp only [Act.put, List.setIfInBounds_toArray, List.set_cons_zero, List.set_cons_succ]
  refine wpAnyH_take (i := 2) (oi := (⟨some 29, Op.indexAddr 56 (Operand.tmp 27) (Operand.tmp 28), 0, "ref.go:64", #[{ on := 0, ground := Ground.data }, { on := 1, ground := Ground.data }], none⟩)) (v := .pointer (some (aa.add (i * 3)))) rfl (by kernel_rfl) (by kernel_rfl) (by kernel_rfl) (fun _ _ _ h => h) (Or.inl ⟨by kernel_rfl, fun W _ => run_index_op (size := 3) (i := i) (n := n) (c := ca) Try.underlying56 (by kernel_rfl) rfl rfl hn⟩) trivial ?_
  simp only [Act.put, List.setIfInBounds_toArray, List.set_cons_zero, List.set_cons_succ]
  refine wpAnyH_take (i := 4) (oi := (⟨some 31, Op.move (Operand.tmp 1), 56, "ref.go:64", #[], none⟩)) (v := .slice (some ab) m cb) rfl (by kernel_rfl) (by kernel_rfl) (by kernel_rfl) (fun _ _ _ h => h) (Or.inl ⟨by kernel_rfl, fun _ _ => by kernel_rfl⟩) trivial ?_
  simp only [Act.put, List.setIfInBounds_toArray, List.set_cons_zero, List.set_cons_succ]
  refine wpAnyH_take (i := 5) (oi := (⟨some 32, Op.move (Operand.tmp 7), 3, "ref.go:64", #[], none⟩)) (v := .int .i64 (k : Nat)) rfl (by kernel_rfl) (by kernel_rfl) (by kernel_rfl) (fun _ _ _ h => h) (Or.inl ⟨by kernel_rfl, fun _ _ => by kernel_rfl⟩) trivial ?_
  simp only [Act.put, List.setIfInBounds_toArray, List.set_cons_zero, List.set_cons_succ]
  refine wpAnyH_take (i := 6) (oi := (⟨some 33, Op.indexAddr 56 (Operand.tmp 31) (Operand.tmp 32), 0, "ref.go:64", #[{ on := 4, ground := Ground.data }, { on := 5, ground := Ground.data }], none⟩)) (v := .pointer (some (ab.add (k * 3)))) rfl (by kernel_rfl) (by kernel_rfl) (by kernel_rfl) (fun _ _ _ h => h) (Or.inl ⟨by kernel_rfl, fun W _ => run_index_op (size := 3) (i := k) (n := m) (c := cb) Try.underlying56 (by kernel_rfl) rfl rfl hm⟩) trivial ?_
  simp only [Act.put, List.setIfInBounds_toArray, List.set_cons_zero, List.set_cons_succ]
  refine wpAnyH_ready (rs := [3, 7]) (by kernel_rfl) (by simp) ?_
  refine AllReadyH.cons (o := (⟨some 30, Op.load 71 (Operand.tmp 29), 71, "ref.go:64", #[{ on := 2, ground := Ground.data }], none⟩)) rfl ?_ (AllReadyH.cons (o := (⟨some 34, Op.load 71 (Operand.tmp 33), 71, "ref.go:64", #[{ on := 6, ground := Ground.data }], none⟩)) rfl ?_ (AllReadyH.nil))
  · skip
    refine next_op (v := x.val) (by kernel_rfl) (run_loadS_op x.cells (by kernel_rfl) (by kernel_rfl) rfl (facts_cells' ha hx)) trivial (fun _ => ?_)
    simp only [Act.put, List.setIfInBounds_toArray, List.set_cons_zero, List.set_cons_succ]
    refine wpAnyH_ready (rs := [7]) (by kernel_rfl) (by simp) ?_
    refine AllReadyH.cons (o := (⟨some 34, Op.load 71 (Operand.tmp 33), 71, "ref.go:64", #[{ on := 6, ground := Ground.data }], none⟩)) rfl ?_ (AllReadyH.nil)
    · skip
      refine next_op (v := y.val) (by kernel_rfl) (run_loadS_op y.cells (by kernel_rfl) (by kernel_rfl) rfl (facts_cells' hb hy)) trivial (fun _ => ?_)
      simp only [Act.put, List.setIfInBounds_toArray, List.set_cons_zero, List.set_cons_succ]
      refine wpAnyH_ready (rs := [8]) (by kernel_rfl) (by simp) ?_
      refine AllReadyH.cons (o := (⟨some 35, Op.call { callee := Callee.value (Operand.func 45), args := #[Operand.tmp 30, Operand.tmp 34], argTypes := #[71, 71] }, 3, "ref.go:64", #[{ on := 3, ground := Ground.data }, { on := 7, ground := Ground.data }], none⟩)) rfl ?_ (AllReadyH.nil)
      · skip
        refine next_call (f := 45) (args := #[x.val, y.val]) (by kernel_rfl) (by kernel_rfl) (refCompare_any x y w.drew) ?_
        rintro e wy3 ⟨rfl, hbb⟩
        refine ⟨.int .i64 (cmpF x y), rfl, trivial, fun _ => ?_⟩
        simp only [Act.put, List.setIfInBounds_toArray, List.set_cons_zero, List.set_cons_succ]
        refine wpAnyH_take (i := 9) (oi := (⟨some 8, Op.assign (Operand.tmp 35), 3, "ref.go:64", #[{ on := 8, ground := Ground.data }, { on := 8, ground := Ground.chain }, { on := 0, ground := Ground.phase }, { on := 1, ground := Ground.phase }, { on := 2, ground := Ground.phase }, { on := 3, ground := Ground.phase }, { on := 4, ground := Ground.phase }, { on := 5, ground := Ground.phase }, { on := 6, ground := Ground.phase }, { on := 7, ground := Ground.phase }, { on := 8, ground := Ground.phase }], none⟩)) (v := .int .i64 (cmpF x y)) rfl (by kernel_rfl) (by kernel_rfl) (by kernel_rfl) (fun _ _ _ h => h) (Or.inl ⟨by kernel_rfl, fun _ _ => by kernel_rfl⟩) trivial ?_
        simp only [Act.put, List.setIfInBounds_toArray, List.set_cons_zero, List.set_cons_succ]
        refine wpAnyH_done (by kernel_rfl) ?_ _
        exact NoPanic.normal (hend wy3 _ _ _ _ _ _ _ _ _ ((Below.refl _ _).drew.trans (hbb.mono (Nat.le_refl _))))
  · skip
    refine next_op (v := y.val) (by kernel_rfl) (run_loadS_op y.cells (by kernel_rfl) (by kernel_rfl) rfl (facts_cells' hb hy)) trivial (fun _ => ?_)
    simp only [Act.put, List.setIfInBounds_toArray, List.set_cons_zero, List.set_cons_succ]
    refine wpAnyH_ready (rs := [3]) (by kernel_rfl) (by simp) ?_
    refine AllReadyH.cons (o := (⟨some 30, Op.load 71 (Operand.tmp 29), 71, "ref.go:64", #[{ on := 2, ground := Ground.data }], none⟩)) rfl ?_ (AllReadyH.nil)
    · skip
      refine next_op (v := x.val) (by kernel_rfl) (run_loadS_op x.cells (by kernel_rfl) (by kernel_rfl) rfl (facts_cells' ha hx)) trivial (fun _ => ?_)
      simp only [Act.put, List.setIfInBounds_toArray, List.set_cons_zero, List.set_cons_succ]
      refine wpAnyH_ready (rs := [8]) (by kernel_rfl) (by simp) ?_
      refine AllReadyH.cons (o := (⟨some 35, Op.call { callee := Callee.value (Operand.func 45), args := #[Operand.tmp 30, Operand.tmp 34], argTypes := #[71, 71] }, 3, "ref.go:64", #[{ on := 3, ground := Ground.data }, { on := 7, ground := Ground.data }], none⟩)) rfl ?_ (AllReadyH.nil)
      · skip
        refine next_call (f := 45) (args := #[x.val, y.val]) (by kernel_rfl) (by kernel_rfl) (refCompare_any x y w.drew) ?_
        rintro e wy6 ⟨rfl, hbb⟩
        refine ⟨.int .i64 (cmpF x y), rfl, trivial, fun _ => ?_⟩
        simp only [Act.put, List.setIfInBounds_toArray, List.set_cons_zero, List.set_cons_succ]
        refine wpAnyH_take (i := 9) (oi := (⟨some 8, Op.assign (Operand.tmp 35), 3, "ref.go:64", #[{ on := 8, ground := Ground.data }, { on := 8, ground := Ground.chain }, { on := 0, ground := Ground.phase }, { on := 1, ground := Ground.phase }, { on := 2, ground := Ground.phase }, { on := 3, ground := Ground.phase }, { on := 4, ground := Ground.phase }, { on := 5, ground := Ground.phase }, { on := 6, ground := Ground.phase }, { on := 7, ground := Ground.phase }, { on := 8, ground := Ground.phase }], none⟩)) (v := .int .i64 (cmpF x y)) rfl (by kernel_rfl) (by kernel_rfl) (by kernel_rfl) (fun _ _ _ h => h) (Or.inl ⟨by kernel_rfl, fun _ _ => by kernel_rfl⟩) trivial ?_
        simp only [Act.put, List.setIfInBounds_toArray, List.set_cons_zero, List.set_cons_succ]
        refine wpAnyH_done (by kernel_rfl) ?_ _
        exact NoPanic.normal (hend wy6 _ _ _ _ _ _ _ _ _ ((Below.refl _ _).drew.trans (hbb.mono (Nat.le_refl _))))
def opsFm12 : Array Oper := #[{ dst := some 42, op := Op.load 71 (Operand.tmp 3), type := 71, pos := "law.go:86", after := #[], guard := none }, { dst := some 43, op := Op.load 71 (Operand.tmp 4), type := 71, pos := "law.go:86", after := #[], guard := none }, { dst := some 44, op := Op.call { callee := Callee.value (Operand.func 44), args := #[Operand.tmp 42, Operand.tmp 43], argTypes := #[71, 71] }, type := 3, pos := "law.go:86", after := #[{ on := 0, ground := Ground.data }, { on := 1, ground := Ground.data }], guard := none }, { dst := some 45, op := Op.load 71 (Operand.tmp 3), type := 71, pos := "law.go:86", after := #[], guard := none }, { dst := some 46, op := Op.load 71 (Operand.tmp 4), type := 71, pos := "law.go:86", after := #[], guard := none }, { dst := some 47, op := Op.call { callee := Callee.value (Operand.func 45), args := #[Operand.tmp 45, Operand.tmp 46], argTypes := #[71, 71] }, type := 3, pos := "law.go:86", after := #[{ on := 3, ground := Ground.data }, { on := 4, ground := Ground.data }, { on := 2, ground := Ground.chain }], guard := none }, { dst := some 48, op := Op.binOp BinOp.neq 3 (Operand.tmp 44) (Operand.tmp 47) 3, type := 4, pos := "law.go:86", after := #[{ on := 2, ground := Ground.data }, { on := 5, ground := Ground.data }], guard := none }]
theorem regFm12 {u0 u1 u2 u5 u6 u7 u8 u9 u10 u11 u12 u13 u14 u15 u16 u17 u18 u19 u20 u21 u22 u23 u24 u25 u26 u27 u28 u29 u30 u31 u32 u33 u34 u35 u36 u37 u38 u39 u40 u41 u42 u43 u44 u45 u46 u47 u48 u49 u50 u51 u52 u53 u54 u55 u56 u57 u58 u59 u60 u61 u62 u63 u64 u65 u66 u67 u68 u69 u70 u71 u72 u73 u74 u75 u76 u77 u78 u79 u80 u81 u82 u83 : Value} {DD : List Deferred} {Q : Exit → Act → World → Prop} {w : World} {ga gb : Nat} {a b : FM} (hA : Blk w.drew ga 71 a.cells.toArray) (hB : Blk w.drew gb 71 b.cells.toArray)
    (hend : ∀ (w2 : World) (x42 x43 x44 x45 x46 x47 : Value) (_ : Below w.heap.size w w2), Q .normal ⟨#[u0, u1, u2, .pointer (some ⟨ga, 0, none⟩), .pointer (some ⟨gb, 0, none⟩), u5, u6, u7, u8, u9, u10, u11, u12, u13, u14, u15, u16, u17, u18, u19, u20, u21, u22, u23, u24, u25, u26, u27, u28, u29, u30, u31, u32, u33, u34, u35, u36, u37, u38, u39, u40, u41, x42, x43, x44, x45, x46, x47, .bool false, u49, u50, u51, u52, u53, u54, u55, u56, u57, u58, u59, u60, u61, u62, u63, u64, u65, u66, u67, u68, u69, u70, u71, u72, u73, u74, u75, u76, u77, u78, u79, u80, u81, u82, u83], DD⟩ w2) :
    (Code.region 12 opsFm12 true).wp Try.prog Q ⟨#[u0, u1, u2, .pointer (some ⟨ga, 0, none⟩), .pointer (some ⟨gb, 0, none⟩), u5, u6, u7, u8, u9, u10, u11, u12, u13, u14, u15, u16, u17, u18, u19, u20, u21, u22, u23, u24, u25, u26, u27, u28, u29, u30, u31, u32, u33, u34, u35, u36, u37, u38, u39, u40, u41, u42, u43, u44, u45, u46, u47, u48, u49, u50, u51, u52, u53, u54, u55, u56, u57, u58, u59, u60, u61, u62, u63, u64, u65, u66, u67, u68, u69, u70, u71, u72, u73, u74, u75, u76, u77, u78, u79, u80, u81, u82, u83], DD⟩ w := by
  have hbt : Below w.heap.size w w.drew := (Below.refl _ _).drew
  refine wp_region_noPanic ?_
  refine wp_region_held_drew (S := fun W => Blk W ga 71 a.cells.toArray ∧ Blk W gb 71 b.cells.toArray) (by kernel_rfl) ⟨hA, hB⟩ (fun hS => ?_)
  refine wpAnyH_take (i := 0) (oi := (⟨some 42, Op.load 71 (Operand.tmp 3), 71, "law.go:86", #[], none⟩)) (v := a.val) rfl (by kernel_rfl) (by kernel_rfl) (by kernel_rfl) (fun _ _ _ h => h) (Or.inl ⟨by kernel_rfl, fun W hW => run_loadS_op a.cells (by kernel_rfl) (by kernel_rfl) rfl (blk_cells hW.1)⟩) hS ?_
  simp only [Act.put, List.setIfInBounds_toArray, List.set_cons_zero, List.set_cons_succ]
  refine wpAnyH_take (i := 1) (oi := (⟨some 43, Op.load 71 (Operand.tmp 4), 71, "law.go:86", #[], none⟩)) (v := b.val) rfl (by kernel_rfl) (by kernel_rfl) (by kernel_rfl) (fun _ _ _ h => h) (Or.inl ⟨by kernel_rfl, fun W hW => run_loadS_op b.cells (by kernel_rfl) (by kernel_rfl) rfl (blk_cells hW.2)⟩) hS ?_
  simp only [Act.put, List.setIfInBounds_toArray, List.set_cons_zero, List.set_cons_succ]
  refine wpAnyH_take (i := 3) (oi := (⟨some 45, Op.load 71 (Operand.tmp 3), 71, "law.go:86", #[], none⟩)) (v := a.val) rfl (by kernel_rfl) (by kernel_rfl) (by kernel_rfl) (fun _ _ _ h => h) (Or.inl ⟨by kernel_rfl, fun W hW => run_loadS_op a.cells (by kernel_rfl) (by kernel_rfl) rfl (blk_cells hW.1)⟩) hS ?_
  simp only [Act.put, List.setIfInBounds_toArray, List.set_cons_zero, List.set_cons_succ]
  refine wpAnyH_take (i := 4) (oi := (⟨some 46, Op.load 71 (Operand.tmp 4), 71, "law.go:86", #[], none⟩)) (v := b.val) rfl (by kernel_rfl) (by kernel_rfl) (by kernel_rfl) (fun _ _ _ h => h) (Or.inl ⟨by kernel_rfl, fun W hW => run_loadS_op b.cells (by kernel_rfl) (by kernel_rfl) rfl (blk_cells hW.2)⟩) hS ?_
  simp only [Act.put, List.setIfInBounds_toArray, List.set_cons_zero, List.set_cons_succ]
  refine wpAnyH_ready (rs := [2]) (by kernel_rfl) (by simp) ?_
  refine AllReadyH.cons (o := (⟨some 44, Op.call { callee := Callee.value (Operand.func 44), args := #[Operand.tmp 42, Operand.tmp 43], argTypes := #[71, 71] }, 3, "law.go:86", #[{ on := 0, ground := Ground.data }, { on := 1, ground := Ground.data }], none⟩)) rfl ?_ (AllReadyH.nil)
  · skip
    refine next_call (f := 44) (args := #[a.val, b.val]) (by kernel_rfl) (by kernel_rfl) (compare_any a b w.drew) ?_
    rintro e wy1 ⟨rfl, hb⟩
    refine ⟨.int .i64 (cmpF a b), rfl, ⟨hS.1.below' hb, hS.2.below' hb⟩, fun hS => ?_⟩
    simp only [Act.put, List.setIfInBounds_toArray, List.set_cons_zero, List.set_cons_succ]
    have hbt := hbt.trans (hb.mono hbt.size)
    refine wpAnyH_ready (rs := [5]) (by kernel_rfl) (by simp) ?_
    refine AllReadyH.cons (o := (⟨some 47, Op.call { callee := Callee.value (Operand.func 45), args := #[Operand.tmp 45, Operand.tmp 46], argTypes := #[71, 71] }, 3, "law.go:86", #[{ on := 3, ground := Ground.data }, { on := 4, ground := Ground.data }, { on := 2, ground := Ground.chain }], none⟩)) rfl ?_ (AllReadyH.nil)
    · skip
      refine next_call (f := 45) (args := #[a.val, b.val]) (by kernel_rfl) (by kernel_rfl) (refCompare_any a b wy1) ?_
      rintro e wy2 ⟨rfl, hb⟩
      refine ⟨.int .i64 (cmpF a b), rfl, ⟨hS.1.below' hb, hS.2.below' hb⟩, fun hS => ?_⟩
      simp only [Act.put, List.setIfInBounds_toArray, List.set_cons_zero, List.set_cons_succ]
      have hbt := hbt.trans (hb.mono hbt.size)
      refine wpAnyH_take (i := 6) (oi := (⟨some 48, Op.binOp BinOp.neq 3 (Operand.tmp 44) (Operand.tmp 47) 3, 4, "law.go:86", #[{ on := 2, ground := Ground.data }, { on := 5, ground := Ground.data }], none⟩)) (v := .bool false) rfl (by kernel_rfl) (by kernel_rfl) (by kernel_rfl) (fun _ _ _ h => h) (Or.inl ⟨by kernel_rfl, fun W _ => run_neqi_same rfl rfl⟩) hS ?_
      simp only [Act.put, List.setIfInBounds_toArray, List.set_cons_zero, List.set_cons_succ]
      refine wpAnyH_done (by kernel_rfl) ?_ _
      exact NoPanic.normal (hend wy2 _ _ _ _ _ _ hbt)
def opsFm17 : Array Oper := #[{ dst := some 55, op := Op.move (Operand.tmp 2), type := 85, pos := "law.go:90", after := #[], guard := none }, { dst := some 56, op := Op.move (Operand.tmp 9), type := 3, pos := "law.go:90", after := #[], guard := none }, { dst := some 57, op := Op.indexAddr 85 (Operand.tmp 55) (Operand.tmp 56), type := 0, pos := "law.go:90", after := #[{ on := 0, ground := Ground.data }, { on := 1, ground := Ground.data }], guard := none }, { dst := some 58, op := Op.load 56 (Operand.tmp 57), type := 56, pos := "law.go:90", after := #[{ on := 2, ground := Ground.data }], guard := none }, { dst := some 59, op := Op.call { callee := Callee.value (Operand.func 46), args := #[Operand.tmp 58], argTypes := #[56] }, type := 4, pos := "law.go:90", after := #[{ on := 3, ground := Ground.data }], guard := none }, { dst := some 60, op := Op.move (Operand.tmp 2), type := 85, pos := "law.go:90", after := #[], guard := none }, { dst := some 61, op := Op.move (Operand.tmp 9), type := 3, pos := "law.go:90", after := #[], guard := none }, { dst := some 62, op := Op.indexAddr 85 (Operand.tmp 60) (Operand.tmp 61), type := 0, pos := "law.go:90", after := #[{ on := 5, ground := Ground.data }, { on := 6, ground := Ground.data }], guard := none }, { dst := some 63, op := Op.load 56 (Operand.tmp 62), type := 56, pos := "law.go:90", after := #[{ on := 7, ground := Ground.data }], guard := none }, { dst := some 64, op := Op.call { callee := Callee.value (Operand.func 35), args := #[Operand.tmp 63], argTypes := #[56] }, type := 4, pos := "law.go:90", after := #[{ on := 8, ground := Ground.data }, { on := 4, ground := Ground.chain }], guard := none }, { dst := some 65, op := Op.binOp BinOp.neq 4 (Operand.tmp 59) (Operand.tmp 64) 4, type := 4, pos := "law.go:90", after := #[{ on := 4, ground := Ground.data }, { on := 9, ground := Ground.data }], guard := none }]
theorem regFm17 {u0 u1 u3 u4 u5 u6 u7 u8 u10 u11 u12 u13 u14 u15 u16 u17 u18 u19 u20 u21 u22 u23 u24 u25 u26 u27 u28 u29 u30 u31 u32 u33 u34 u35 u36 u37 u38 u39 u40 u41 u42 u43 u44 u45 u46 u47 u48 u49 u50 u51 u52 u53 u54 u55 u56 u57 u58 u59 u60 u61 u62 u63 u64 u65 u66 u67 u68 u69 u70 u71 u72 u73 u74 u75 u76 u77 u78 u79 u80 u81 u82 u83 : Value} {DD : List Deferred} {Q : Exit → Act → World → Prop} {w : World} {la : Addr} {n lc i : Nat} {qA : Option Addr} {qc : Nat} {M : List FM} (hn : i < n) (hM : M.length ≤ 1048576) (hl : w.drew.cell? (la.add (i * 1)) = some (.slice qA M.length qc)) (hr : Rd w.drew qA (fcells M))
    (hend : ∀ (w2 : World) (x55 x56 x57 x58 x59 x60 x61 x62 x63 x64 : Value) (_ : Below w.heap.size w w2), Q .normal ⟨#[u0, u1, .slice (some la) n lc, u3, u4, u5, u6, u7, u8, .int .i64 (i : Nat), u10, u11, u12, u13, u14, u15, u16, u17, u18, u19, u20, u21, u22, u23, u24, u25, u26, u27, u28, u29, u30, u31, u32, u33, u34, u35, u36, u37, u38, u39, u40, u41, u42, u43, u44, u45, u46, u47, u48, u49, u50, u51, u52, u53, u54, x55, x56, x57, x58, x59, x60, x61, x62, x63, x64, .bool false, u66, u67, u68, u69, u70, u71, u72, u73, u74, u75, u76, u77, u78, u79, u80, u81, u82, u83], DD⟩ w2) :
    (Code.region 17 opsFm17 true).wp Try.prog Q ⟨#[u0, u1, .slice (some la) n lc, u3, u4, u5, u6, u7, u8, .int .i64 (i : Nat), u10, u11, u12, u13, u14, u15, u16, u17, u18, u19, u20, u21, u22, u23, u24, u25, u26, u27, u28, u29, u30, u31, u32, u33, u34, u35, u36, u37, u38, u39, u40, u41, u42, u43, u44, u45, u46, u47, u48, u49, u50, u51, u52, u53, u54, u55, u56, u57, u58, u59, u60, u61, u62, u63, u64, u65, u66, u67, u68, u69, u70, u71, u72, u73, u74, u75, u76, u77, u78, u79, u80, u81, u82, u83], DD⟩ w := by
  have hbt : Below w.heap.size w w.drew := (Below.refl _ _).drew
  refine wp_region_noPanic ?_
  refine wp_region_held_drew (S := fun W => W.cell? (la.add (i * 1)) = some (.slice qA M.length qc) ∧ Rd W qA (fcells M)) (by kernel_rfl) ⟨hl, hr⟩ (fun hS => ?_)
  refine wpAnyH_take (i := 0) (oi := (⟨some 55, Op.move (Operand.tmp 2), 85, "law.go:90", #[], none⟩)) (v := .slice (some la) n lc) rfl (by kernel_rfl) (by kernel_rfl) (by kernel_rfl) (fun _ _ _ h => h) (Or.inl ⟨by kernel_rfl, fun _ _ => by kernel_rfl⟩) hS ?_
  simp only [Act.put, List.setIfInBounds_toArray, List.set_cons_zero, List.set_cons_succ]
  refine wpAnyH_take (i := 1) (oi := (⟨some 56, Op.move (Operand.tmp 9), 3, "law.go:90", #[], none⟩)) (v := .int .i64 (i : Nat)) rfl (by kernel_rfl) (by kernel_rfl) (by kernel_rfl) (fun _ _ _ h => h) (Or.inl ⟨by kernel_rfl, fun _ _ => by kernel_rfl⟩) hS ?_
  simp only [Act.put, List.setIfInBounds_toArray, List.set_cons_zero, List.set_cons_succ]
  refine wpAnyH_take (i := 2) (oi := (⟨some 57, Op.indexAddr 85 (Operand.tmp 55) (Operand.tmp 56), 0, "law.go:90", #[{ on := 0, ground := Ground.data }, { on := 1, ground := Ground.data }], none⟩)) (v := .pointer (some (la.add (i * 1)))) rfl (by kernel_rfl) (by kernel_rfl) (by kernel_rfl) (fun _ _ _ h => h) (Or.inl ⟨by kernel_rfl, fun W _ => run_index_op (size := 1) (i := i) (n := n) (c := lc) Try.underlying85 (by kernel_rfl) rfl rfl hn⟩) hS ?_
  simp only [Act.put, List.setIfInBounds_toArray, List.set_cons_zero, List.set_cons_succ]
  refine wpAnyH_take (i := 3) (oi := (⟨some 58, Op.load 56 (Operand.tmp 57), 56, "law.go:90", #[{ on := 2, ground := Ground.data }], none⟩)) (v := .slice qA M.length qc) rfl (by kernel_rfl) (by kernel_rfl) (by kernel_rfl) (fun _ _ _ h => h) (Or.inl ⟨by kernel_rfl, fun W hW => run_load1_op (by kernel_rfl) (by kernel_rfl) hW.1⟩) hS ?_
  simp only [Act.put, List.setIfInBounds_toArray, List.set_cons_zero, List.set_cons_succ]
  refine wpAnyH_take (i := 5) (oi := (⟨some 60, Op.move (Operand.tmp 2), 85, "law.go:90", #[], none⟩)) (v := .slice (some la) n lc) rfl (by kernel_rfl) (by kernel_rfl) (by kernel_rfl) (fun _ _ _ h => h) (Or.inl ⟨by kernel_rfl, fun _ _ => by kernel_rfl⟩) hS ?_
  simp only [Act.put, List.setIfInBounds_toArray, List.set_cons_zero, List.set_cons_succ]
  refine wpAnyH_take (i := 6) (oi := (⟨some 61, Op.move (Operand.tmp 9), 3, "law.go:90", #[], none⟩)) (v := .int .i64 (i : Nat)) rfl (by kernel_rfl) (by kernel_rfl) (by kernel_rfl) (fun _ _ _ h => h) (Or.inl ⟨by kernel_rfl, fun _ _ => by kernel_rfl⟩) hS ?_
  simp only [Act.put, List.setIfInBounds_toArray, List.set_cons_zero, List.set_cons_succ]
  refine wpAnyH_take (i := 7) (oi := (⟨some 62, Op.indexAddr 85 (Operand.tmp 60) (Operand.tmp 61), 0, "law.go:90", #[{ on := 5, ground := Ground.data }, { on := 6, ground := Ground.data }], none⟩)) (v := .pointer (some (la.add (i * 1)))) rfl (by kernel_rfl) (by kernel_rfl) (by kernel_rfl) (fun _ _ _ h => h) (Or.inl ⟨by kernel_rfl, fun W _ => run_index_op (size := 1) (i := i) (n := n) (c := lc) Try.underlying85 (by kernel_rfl) rfl rfl hn⟩) hS ?_
  simp only [Act.put, List.setIfInBounds_toArray, List.set_cons_zero, List.set_cons_succ]
  refine wpAnyH_take (i := 8) (oi := (⟨some 63, Op.load 56 (Operand.tmp 62), 56, "law.go:90", #[{ on := 7, ground := Ground.data }], none⟩)) (v := .slice qA M.length qc) rfl (by kernel_rfl) (by kernel_rfl) (by kernel_rfl) (fun _ _ _ h => h) (Or.inl ⟨by kernel_rfl, fun W hW => run_load1_op (by kernel_rfl) (by kernel_rfl) hW.1⟩) hS ?_
  simp only [Act.put, List.setIfInBounds_toArray, List.set_cons_zero, List.set_cons_succ]
  refine wpAnyH_ready (rs := [4]) (by kernel_rfl) (by simp) ?_
  refine AllReadyH.cons (o := (⟨some 59, Op.call { callee := Callee.value (Operand.func 46), args := #[Operand.tmp 58], argTypes := #[56] }, 4, "law.go:90", #[{ on := 3, ground := Ground.data }], none⟩)) rfl ?_ (AllReadyH.nil)
  · skip
    have hlt := cell_lt hS.1
    refine next_call (f := 46) (args := #[.slice qA M.length qc]) (by kernel_rfl) (by kernel_rfl) (right_any qA qc M w.drew hS.2 hM) ?_
    rintro e wy1 ⟨rfl, hb⟩
    refine ⟨.bool (rightF M), rfl, ⟨(hb.cell hlt).trans hS.1, hS.2.below hb⟩, fun hS => ?_⟩
    simp only [Act.put, List.setIfInBounds_toArray, List.set_cons_zero, List.set_cons_succ]
    have hbt := hbt.trans (hb.mono hbt.size)
    refine wpAnyH_ready (rs := [9]) (by kernel_rfl) (by simp) ?_
    refine AllReadyH.cons (o := (⟨some 64, Op.call { callee := Callee.value (Operand.func 35), args := #[Operand.tmp 63], argTypes := #[56] }, 4, "law.go:90", #[{ on := 8, ground := Ground.data }, { on := 4, ground := Ground.chain }], none⟩)) rfl ?_ (AllReadyH.nil)
    · skip
      have hlt := cell_lt hS.1
      refine next_call (f := 35) (args := #[.slice qA M.length qc]) (by kernel_rfl) (by kernel_rfl) (refRight_any qA qc M wy1 hS.2 hM) ?_
      rintro e wy2 ⟨rfl, hb⟩
      refine ⟨.bool (rightF M), rfl, ⟨(hb.cell hlt).trans hS.1, hS.2.below hb⟩, fun hS => ?_⟩
      simp only [Act.put, List.setIfInBounds_toArray, List.set_cons_zero, List.set_cons_succ]
      have hbt := hbt.trans (hb.mono hbt.size)
      refine wpAnyH_take (i := 10) (oi := (⟨some 65, Op.binOp BinOp.neq 4 (Operand.tmp 59) (Operand.tmp 64) 4, 4, "law.go:90", #[{ on := 4, ground := Ground.data }, { on := 9, ground := Ground.data }], none⟩)) (v := .bool false) rfl (by kernel_rfl) (by kernel_rfl) (by kernel_rfl) (fun _ _ _ h => h) (Or.inl ⟨by kernel_rfl, fun W _ => run_neqb_same rfl rfl⟩) hS ?_
      simp only [Act.put, List.setIfInBounds_toArray, List.set_cons_zero, List.set_cons_succ]
      refine wpAnyH_done (by kernel_rfl) ?_ _
      exact NoPanic.normal (hend wy2 _ _ _ _ _ _ _ _ _ _ hbt)
end Go.Proofs.Ytadgaphgomagkaa
