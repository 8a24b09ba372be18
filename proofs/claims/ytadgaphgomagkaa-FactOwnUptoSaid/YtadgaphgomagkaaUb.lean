/- FactOwn: the statement that draws its order, in a round. PRINTED by tools/regs_u.py. -/
import Derived.Test.YtadgaphgomagkaaLr
import Derived.Test.YtadgaphgomagkaaLt
import Derived.Test.YtadgaphgomagkaaLw
import Derived.Test.YtadgaphgomagkaaTa
import Derived.Test.YtadgaphgomagkaaWj
import Derived.Test.YtadgaphgomagkaaTf
namespace Go.Proofs.Ytadgaphgomagkaa
open Go.RowKit
set_option maxHeartbeats 8000000
set_option maxRecDepth 100000
def opsFo32 : Array Oper := #[{ dst := some 107, op := Op.load 3 (Operand.tmp 16), type := 3, pos := "law.go:246", after := #[], guard := none }, { dst := some 108, op := Op.load 56 (Operand.tmp 2), type := 56, pos := "law.go:246", after := #[], guard := none }, { dst := some 109, op := Op.call { callee := Callee.builtin Builtin.len, args := #[Operand.tmp 108], argTypes := #[56] }, type := 3, pos := "law.go:246", after := #[{ on := 1, ground := Ground.data }], guard := none }, { dst := some 110, op := Op.binOp BinOp.geq 3 (Operand.tmp 107) (Operand.tmp 109) 3, type := 4, pos := "law.go:246", after := #[{ on := 0, ground := Ground.data }, { on := 2, ground := Ground.data }], guard := none }, { dst := some 111, op := Op.move (Operand.tmp 110), type := 4, pos := "law.go:246", after := #[{ on := 3, ground := Ground.data }], guard := none }, { dst := some 112, op := Op.load 71 (Operand.tmp 17), type := 71, pos := "law.go:246", after := #[{ on := 4, ground := Ground.guard }], guard := some (4, false) }, { dst := some 113, op := Op.load 56 (Operand.tmp 2), type := 56, pos := "law.go:246", after := #[{ on := 4, ground := Ground.guard }], guard := some (4, false) }, { dst := some 114, op := Op.load 3 (Operand.tmp 16), type := 3, pos := "law.go:246", after := #[{ on := 4, ground := Ground.guard }], guard := some (4, false) }, { dst := some 115, op := Op.indexAddr 56 (Operand.tmp 113) (Operand.tmp 114), type := 0, pos := "law.go:246", after := #[{ on := 6, ground := Ground.data }, { on := 7, ground := Ground.data }, { on := 4, ground := Ground.guard }], guard := some (4, false) }, { dst := some 116, op := Op.load 71 (Operand.tmp 115), type := 71, pos := "law.go:246", after := #[{ on := 8, ground := Ground.data }, { on := 4, ground := Ground.guard }], guard := some (4, false) }, { dst := some 117, op := Op.call { callee := Callee.value (Operand.func 40), args := #[Operand.tmp 112, Operand.tmp 116], argTypes := #[71, 71] }, type := 4, pos := "law.go:246", after := #[{ on := 5, ground := Ground.data }, { on := 9, ground := Ground.data }, { on := 4, ground := Ground.chain }, { on := 4, ground := Ground.guard }], guard := some (4, false) }, { dst := some 118, op := Op.unOp UnOp.not 4 (Operand.tmp 117), type := 4, pos := "law.go:246", after := #[{ on := 10, ground := Ground.data }, { on := 4, ground := Ground.guard }], guard := some (4, false) }, { dst := some 119, op := Op.pick (Operand.tmp 111) (Operand.const (Value.bool true)) (Operand.tmp 118), type := 4, pos := "law.go:246", after := #[{ on := 4, ground := Ground.data }, { on := 11, ground := Ground.data }], guard := none }]
theorem run_geq_false {P : Program} {ρ : Operand → Value} {d : Option Tmp} {ty : TypeId} {pos : String} {af : Array Edge} {g : Option (Nat × Bool)} {w : World} {t : TypeId} {x y : Operand} {a b : Nat} (hx : ρ x = .int .i64 (a : Nat)) (hy : ρ y = .int .i64 (b : Nat)) (h : a < b) : (execOp ρ ⟨d, .binOp .geq t x y t, ty, pos, af, g⟩).run P w = .ok (.value (.bool false)) w := by
  have e : ¬ (b : Int) ≤ (a : Int) := by omega
  simp [execOp, hx, hy, eqGuard, go_sem, e]
theorem regFo32 {u0 u1 u3 u4 u5 u6 u7 u8 u9 u10 u11 u12 u13 u14 u15 u18 u19 u20 u21 u22 u23 u24 u25 u26 u27 u28 u29 u30 u31 u32 u33 u34 u35 u36 u37 u38 u39 u40 u41 u42 u43 u44 u45 u46 u47 u48 u49 u50 u51 u52 u53 u54 u55 u56 u57 u58 u59 u60 u61 u62 u63 u64 u65 u66 u67 u68 u69 u70 u71 u72 u73 u74 u75 u76 u77 u78 u79 u80 u81 u82 u83 u84 u85 u86 u87 u88 u89 u90 u91 u92 u93 u94 u95 u96 u97 u98 u99 u100 u101 u102 u103 u104 u105 u106 u107 u108 u109 u110 u111 u112 u113 u114 u115 u116 u117 u118 u119 u120 u121 u122 u123 u124 u125 : Value} {DD : List Deferred} {lr : Nat} {Q : Exit → Act → World → Prop} {w : World} {la : Addr} {n lc gB gn gx h : Nat} {l : List FM} {f x : FM} (hl : Rd w.drew (some la) (fcells l)) (hf : l[h]? = some f) (hn : h < n) (x0 : w.drew.cell? ⟨gB, 0, none⟩ = some (.slice (some la) n lc)) (y0 : w.drew.cell? ⟨gn, 0, none⟩ = some (.int .i64 (h : Nat))) (hX : Blk w.drew gx 71 x.cells.toArray)
    (hxo : x.ok w.drew) (hyo : f.ok w.drew) (hxy : x.fv = f.fv)
    (hend : ∀ (w2 : World) (x107 x108 x109 x110 x111 x112 x113 x114 x115 x116 x117 x118 : Value) (_ : Below w.heap.size w w2), Q .normal ⟨#[u0, u1, .pointer (some ⟨gB, 0, none⟩), u3, u4, u5, u6, u7, u8, u9, u10, u11, u12, u13, u14, u15, .pointer (some ⟨gn, 0, none⟩), .pointer (some ⟨gx, 0, none⟩), u18, u19, u20, u21, u22, u23, u24, u25, u26, u27, u28, u29, u30, u31, u32, u33, u34, u35, u36, u37, u38, u39, u40, u41, u42, u43, u44, u45, u46, u47, u48, u49, u50, u51, u52, u53, u54, u55, u56, u57, u58, u59, u60, u61, u62, u63, u64, u65, u66, u67, u68, u69, u70, u71, u72, u73, u74, u75, u76, u77, u78, u79, u80, u81, u82, u83, u84, u85, u86, u87, u88, u89, u90, u91, u92, u93, u94, u95, u96, u97, u98, u99, u100, u101, u102, u103, u104, u105, u106, x107, x108, x109, x110, x111, x112, x113, x114, x115, x116, x117, x118, .bool false, u120, u121, u122, u123, u124, u125], DD⟩ w2) :
    (Code.region 32 opsFo32 true).wpIn (Fence.wide.inRound lr) 0 Try.prog Q ⟨#[u0, u1, .pointer (some ⟨gB, 0, none⟩), u3, u4, u5, u6, u7, u8, u9, u10, u11, u12, u13, u14, u15, .pointer (some ⟨gn, 0, none⟩), .pointer (some ⟨gx, 0, none⟩), u18, u19, u20, u21, u22, u23, u24, u25, u26, u27, u28, u29, u30, u31, u32, u33, u34, u35, u36, u37, u38, u39, u40, u41, u42, u43, u44, u45, u46, u47, u48, u49, u50, u51, u52, u53, u54, u55, u56, u57, u58, u59, u60, u61, u62, u63, u64, u65, u66, u67, u68, u69, u70, u71, u72, u73, u74, u75, u76, u77, u78, u79, u80, u81, u82, u83, u84, u85, u86, u87, u88, u89, u90, u91, u92, u93, u94, u95, u96, u97, u98, u99, u100, u101, u102, u103, u104, u105, u106, u107, u108, u109, u110, u111, u112, u113, u114, u115, u116, u117, u118, u119, u120, u121, u122, u123, u124, u125], DD⟩ w := by
  have SC := lawSame_any x f w.drew hxo hyo
  rw [decide_eq_true hxy] at SC
  refine wpIn_region_held_round (S := fun _ => True) (by kernel_rfl) (by kernel_rfl) trivial (fun _ => ?_)
  refine wpAnyH_ready (rs := [0, 1]) (by kernel_rfl) (by simp) ?_
  refine AllReadyH.cons (o := (⟨some 107, Op.load 3 (Operand.tmp 16), 3, "law.go:246", #[], none⟩)) rfl ?_ (AllReadyH.cons (o := (⟨some 108, Op.load 56 (Operand.tmp 2), 56, "law.go:246", #[], none⟩)) rfl ?_ (AllReadyH.nil))
  · skip
    refine next_op (v := .int .i64 (h : Nat)) (by kernel_rfl) (run_load1_op (by kernel_rfl) (by kernel_rfl) y0) trivial (fun _ => ?_)
    simp only [Act.put, List.setIfInBounds_toArray, List.set_cons_zero, List.set_cons_succ]
    refine wpAnyH_ready (rs := [1]) (by kernel_rfl) (by simp) ?_
    refine AllReadyH.cons (o := (⟨some 108, Op.load 56 (Operand.tmp 2), 56, "law.go:246", #[], none⟩)) rfl ?_ (AllReadyH.nil)
    · skip
      refine next_op (v := .slice (some la) n lc) (by kernel_rfl) (run_load1_op (by kernel_rfl) (by kernel_rfl) x0) trivial (fun _ => ?_)
      simp only [Act.put, List.setIfInBounds_toArray, List.set_cons_zero, List.set_cons_succ]
      refine wpAnyH_take (i := 2) (oi := (⟨some 109, Op.call { callee := Callee.builtin Builtin.len, args := #[Operand.tmp 108], argTypes := #[56] }, 3, "law.go:246", #[{ on := 1, ground := Ground.data }], none⟩)) (v := .int .i64 (n : Nat)) rfl (by kernel_rfl) (by kernel_rfl) (by kernel_rfl) (fun _ _ _ h => h) (Or.inl ⟨by kernel_rfl, fun W _ => run_len_op Try.underlying56 rfl⟩) trivial ?_
      simp only [Act.put, List.setIfInBounds_toArray, List.set_cons_zero, List.set_cons_succ]
      refine wpAnyH_take (i := 3) (oi := (⟨some 110, Op.binOp BinOp.geq 3 (Operand.tmp 107) (Operand.tmp 109) 3, 4, "law.go:246", #[{ on := 0, ground := Ground.data }, { on := 2, ground := Ground.data }], none⟩)) (v := .bool false) rfl (by kernel_rfl) (by kernel_rfl) (by kernel_rfl) (fun _ _ _ h => h) (Or.inl ⟨by kernel_rfl, fun W _ => run_geq_false rfl rfl hn⟩) trivial ?_
      simp only [Act.put, List.setIfInBounds_toArray, List.set_cons_zero, List.set_cons_succ]
      refine wpAnyH_take (i := 4) (oi := (⟨some 111, Op.move (Operand.tmp 110), 4, "law.go:246", #[{ on := 3, ground := Ground.data }], none⟩)) (v := .bool false) rfl (by kernel_rfl) (by kernel_rfl) (by kernel_rfl) (fun _ _ _ h => h) (Or.inl ⟨by kernel_rfl, fun _ _ => by kernel_rfl⟩) trivial ?_
      simp only [Act.put, List.setIfInBounds_toArray, List.set_cons_zero, List.set_cons_succ]
      refine wpAnyH_ready (rs := [5, 6, 7]) (by kernel_rfl) (by simp) ?_
      refine AllReadyH.cons (o := (⟨some 112, Op.load 71 (Operand.tmp 17), 71, "law.go:246", #[{ on := 4, ground := Ground.guard }], some (4, false)⟩)) rfl ?_ (AllReadyH.cons (o := (⟨some 113, Op.load 56 (Operand.tmp 2), 56, "law.go:246", #[{ on := 4, ground := Ground.guard }], some (4, false)⟩)) rfl ?_ (AllReadyH.cons (o := (⟨some 114, Op.load 3 (Operand.tmp 16), 3, "law.go:246", #[{ on := 4, ground := Ground.guard }], some (4, false)⟩)) rfl ?_ (AllReadyH.nil)))
      · skip
        refine next_op (v := x.val) (by kernel_rfl) (run_loadS_op x.cells (by kernel_rfl) (by kernel_rfl) rfl (blk_cells hX)) trivial (fun _ => ?_)
        simp only [Act.put, List.setIfInBounds_toArray, List.set_cons_zero, List.set_cons_succ]
        refine wpAnyH_ready (rs := [6, 7]) (by kernel_rfl) (by simp) ?_
        refine AllReadyH.cons (o := (⟨some 113, Op.load 56 (Operand.tmp 2), 56, "law.go:246", #[{ on := 4, ground := Ground.guard }], some (4, false)⟩)) rfl ?_ (AllReadyH.cons (o := (⟨some 114, Op.load 3 (Operand.tmp 16), 3, "law.go:246", #[{ on := 4, ground := Ground.guard }], some (4, false)⟩)) rfl ?_ (AllReadyH.nil))
        · skip
          refine next_op (v := .slice (some la) n lc) (by kernel_rfl) (run_load1_op (by kernel_rfl) (by kernel_rfl) x0) trivial (fun _ => ?_)
          simp only [Act.put, List.setIfInBounds_toArray, List.set_cons_zero, List.set_cons_succ]
          refine wpAnyH_ready (rs := [7]) (by kernel_rfl) (by simp) ?_
          refine AllReadyH.cons (o := (⟨some 114, Op.load 3 (Operand.tmp 16), 3, "law.go:246", #[{ on := 4, ground := Ground.guard }], some (4, false)⟩)) rfl ?_ (AllReadyH.nil)
          · skip
            refine next_op (v := .int .i64 (h : Nat)) (by kernel_rfl) (run_load1_op (by kernel_rfl) (by kernel_rfl) y0) trivial (fun _ => ?_)
            simp only [Act.put, List.setIfInBounds_toArray, List.set_cons_zero, List.set_cons_succ]
            refine wpAnyH_take (i := 8) (oi := (⟨some 115, Op.indexAddr 56 (Operand.tmp 113) (Operand.tmp 114), 0, "law.go:246", #[{ on := 6, ground := Ground.data }, { on := 7, ground := Ground.data }, { on := 4, ground := Ground.guard }], some (4, false)⟩)) (v := .pointer (some (la.add (h * 3)))) rfl (by kernel_rfl) (by kernel_rfl) (by kernel_rfl) (fun _ _ _ h => h) (Or.inl ⟨by kernel_rfl, fun W _ => run_index_op (size := 3) (i := h) (n := n) (c := lc) Try.underlying56 (by kernel_rfl) rfl rfl hn⟩) trivial ?_
            simp only [Act.put, List.setIfInBounds_toArray, List.set_cons_zero, List.set_cons_succ]
            refine wpAnyH_ready (rs := [9]) (by kernel_rfl) (by simp) ?_
            refine AllReadyH.cons (o := (⟨some 116, Op.load 71 (Operand.tmp 115), 71, "law.go:246", #[{ on := 8, ground := Ground.data }, { on := 4, ground := Ground.guard }], some (4, false)⟩)) rfl ?_ (AllReadyH.nil)
            · skip
              refine next_op (v := f.val) (by kernel_rfl) (run_loadS_op f.cells (by kernel_rfl) (by kernel_rfl) rfl (facts_cells' hl hf)) trivial (fun _ => ?_)
              simp only [Act.put, List.setIfInBounds_toArray, List.set_cons_zero, List.set_cons_succ]
              refine wpAnyH_ready (rs := [10]) (by kernel_rfl) (by simp) ?_
              refine AllReadyH.cons (o := (⟨some 117, Op.call { callee := Callee.value (Operand.func 40), args := #[Operand.tmp 112, Operand.tmp 116], argTypes := #[71, 71] }, 4, "law.go:246", #[{ on := 5, ground := Ground.data }, { on := 9, ground := Ground.data }, { on := 4, ground := Ground.chain }, { on := 4, ground := Ground.guard }], some (4, false)⟩)) rfl ?_ (AllReadyH.nil)
              · skip
                refine next_call (f := 40) (args := #[x.val, f.val]) (by kernel_rfl) (by kernel_rfl) (SC) ?_
                rintro e wy7 ⟨rfl, hb⟩
                refine ⟨.bool true, rfl, trivial, fun _ => ?_⟩
                simp only [Act.put, List.setIfInBounds_toArray, List.set_cons_zero, List.set_cons_succ]
                refine wpAnyH_take (i := 11) (oi := (⟨some 118, Op.unOp UnOp.not 4 (Operand.tmp 117), 4, "law.go:246", #[{ on := 10, ground := Ground.data }, { on := 4, ground := Ground.guard }], some (4, false)⟩)) (v := .bool false) rfl (by kernel_rfl) (by kernel_rfl) (by kernel_rfl) (fun _ _ _ h => h) (Or.inl ⟨by kernel_rfl, fun _ _ => by kernel_rfl⟩) trivial ?_
                simp only [Act.put, List.setIfInBounds_toArray, List.set_cons_zero, List.set_cons_succ]
                refine wpAnyH_take (i := 12) (oi := (⟨some 119, Op.pick (Operand.tmp 111) (Operand.const (Value.bool true)) (Operand.tmp 118), 4, "law.go:246", #[{ on := 4, ground := Ground.data }, { on := 11, ground := Ground.data }], none⟩)) (v := .bool false) rfl (by kernel_rfl) (by kernel_rfl) (by kernel_rfl) (fun _ _ _ h => h) (Or.inl ⟨by kernel_rfl, fun _ _ => by kernel_rfl⟩) trivial ?_
                simp only [Act.put, List.setIfInBounds_toArray, List.set_cons_zero, List.set_cons_succ]
                refine wpAnyH_done (by kernel_rfl) ?_ _
                exact OnlyN.normal (hend wy7 _ _ _ _ _ _ _ _ _ _ _ _ ((Below.refl _ _).drew.trans hb))
        · skip
          refine next_op (v := .int .i64 (h : Nat)) (by kernel_rfl) (run_load1_op (by kernel_rfl) (by kernel_rfl) y0) trivial (fun _ => ?_)
          simp only [Act.put, List.setIfInBounds_toArray, List.set_cons_zero, List.set_cons_succ]
          refine wpAnyH_ready (rs := [6]) (by kernel_rfl) (by simp) ?_
          refine AllReadyH.cons (o := (⟨some 113, Op.load 56 (Operand.tmp 2), 56, "law.go:246", #[{ on := 4, ground := Ground.guard }], some (4, false)⟩)) rfl ?_ (AllReadyH.nil)
          · skip
            refine next_op (v := .slice (some la) n lc) (by kernel_rfl) (run_load1_op (by kernel_rfl) (by kernel_rfl) x0) trivial (fun _ => ?_)
            simp only [Act.put, List.setIfInBounds_toArray, List.set_cons_zero, List.set_cons_succ]
            refine wpAnyH_take (i := 8) (oi := (⟨some 115, Op.indexAddr 56 (Operand.tmp 113) (Operand.tmp 114), 0, "law.go:246", #[{ on := 6, ground := Ground.data }, { on := 7, ground := Ground.data }, { on := 4, ground := Ground.guard }], some (4, false)⟩)) (v := .pointer (some (la.add (h * 3)))) rfl (by kernel_rfl) (by kernel_rfl) (by kernel_rfl) (fun _ _ _ h => h) (Or.inl ⟨by kernel_rfl, fun W _ => run_index_op (size := 3) (i := h) (n := n) (c := lc) Try.underlying56 (by kernel_rfl) rfl rfl hn⟩) trivial ?_
            simp only [Act.put, List.setIfInBounds_toArray, List.set_cons_zero, List.set_cons_succ]
            refine wpAnyH_ready (rs := [9]) (by kernel_rfl) (by simp) ?_
            refine AllReadyH.cons (o := (⟨some 116, Op.load 71 (Operand.tmp 115), 71, "law.go:246", #[{ on := 8, ground := Ground.data }, { on := 4, ground := Ground.guard }], some (4, false)⟩)) rfl ?_ (AllReadyH.nil)
            · skip
              refine next_op (v := f.val) (by kernel_rfl) (run_loadS_op f.cells (by kernel_rfl) (by kernel_rfl) rfl (facts_cells' hl hf)) trivial (fun _ => ?_)
              simp only [Act.put, List.setIfInBounds_toArray, List.set_cons_zero, List.set_cons_succ]
              refine wpAnyH_ready (rs := [10]) (by kernel_rfl) (by simp) ?_
              refine AllReadyH.cons (o := (⟨some 117, Op.call { callee := Callee.value (Operand.func 40), args := #[Operand.tmp 112, Operand.tmp 116], argTypes := #[71, 71] }, 4, "law.go:246", #[{ on := 5, ground := Ground.data }, { on := 9, ground := Ground.data }, { on := 4, ground := Ground.chain }, { on := 4, ground := Ground.guard }], some (4, false)⟩)) rfl ?_ (AllReadyH.nil)
              · skip
                refine next_call (f := 40) (args := #[x.val, f.val]) (by kernel_rfl) (by kernel_rfl) (SC) ?_
                rintro e wy11 ⟨rfl, hb⟩
                refine ⟨.bool true, rfl, trivial, fun _ => ?_⟩
                simp only [Act.put, List.setIfInBounds_toArray, List.set_cons_zero, List.set_cons_succ]
                refine wpAnyH_take (i := 11) (oi := (⟨some 118, Op.unOp UnOp.not 4 (Operand.tmp 117), 4, "law.go:246", #[{ on := 10, ground := Ground.data }, { on := 4, ground := Ground.guard }], some (4, false)⟩)) (v := .bool false) rfl (by kernel_rfl) (by kernel_rfl) (by kernel_rfl) (fun _ _ _ h => h) (Or.inl ⟨by kernel_rfl, fun _ _ => by kernel_rfl⟩) trivial ?_
                simp only [Act.put, List.setIfInBounds_toArray, List.set_cons_zero, List.set_cons_succ]
                refine wpAnyH_take (i := 12) (oi := (⟨some 119, Op.pick (Operand.tmp 111) (Operand.const (Value.bool true)) (Operand.tmp 118), 4, "law.go:246", #[{ on := 4, ground := Ground.data }, { on := 11, ground := Ground.data }], none⟩)) (v := .bool false) rfl (by kernel_rfl) (by kernel_rfl) (by kernel_rfl) (fun _ _ _ h => h) (Or.inl ⟨by kernel_rfl, fun _ _ => by kernel_rfl⟩) trivial ?_
                simp only [Act.put, List.setIfInBounds_toArray, List.set_cons_zero, List.set_cons_succ]
                refine wpAnyH_done (by kernel_rfl) ?_ _
                exact OnlyN.normal (hend wy11 _ _ _ _ _ _ _ _ _ _ _ _ ((Below.refl _ _).drew.trans hb))
      · skip
        refine next_op (v := .slice (some la) n lc) (by kernel_rfl) (run_load1_op (by kernel_rfl) (by kernel_rfl) x0) trivial (fun _ => ?_)
        simp only [Act.put, List.setIfInBounds_toArray, List.set_cons_zero, List.set_cons_succ]
        refine wpAnyH_ready (rs := [5, 7]) (by kernel_rfl) (by simp) ?_
        refine AllReadyH.cons (o := (⟨some 112, Op.load 71 (Operand.tmp 17), 71, "law.go:246", #[{ on := 4, ground := Ground.guard }], some (4, false)⟩)) rfl ?_ (AllReadyH.cons (o := (⟨some 114, Op.load 3 (Operand.tmp 16), 3, "law.go:246", #[{ on := 4, ground := Ground.guard }], some (4, false)⟩)) rfl ?_ (AllReadyH.nil))
        · skip
          refine next_op (v := x.val) (by kernel_rfl) (run_loadS_op x.cells (by kernel_rfl) (by kernel_rfl) rfl (blk_cells hX)) trivial (fun _ => ?_)
          simp only [Act.put, List.setIfInBounds_toArray, List.set_cons_zero, List.set_cons_succ]
          refine wpAnyH_ready (rs := [7]) (by kernel_rfl) (by simp) ?_
          refine AllReadyH.cons (o := (⟨some 114, Op.load 3 (Operand.tmp 16), 3, "law.go:246", #[{ on := 4, ground := Ground.guard }], some (4, false)⟩)) rfl ?_ (AllReadyH.nil)
          · skip
            refine next_op (v := .int .i64 (h : Nat)) (by kernel_rfl) (run_load1_op (by kernel_rfl) (by kernel_rfl) y0) trivial (fun _ => ?_)
            simp only [Act.put, List.setIfInBounds_toArray, List.set_cons_zero, List.set_cons_succ]
            refine wpAnyH_take (i := 8) (oi := (⟨some 115, Op.indexAddr 56 (Operand.tmp 113) (Operand.tmp 114), 0, "law.go:246", #[{ on := 6, ground := Ground.data }, { on := 7, ground := Ground.data }, { on := 4, ground := Ground.guard }], some (4, false)⟩)) (v := .pointer (some (la.add (h * 3)))) rfl (by kernel_rfl) (by kernel_rfl) (by kernel_rfl) (fun _ _ _ h => h) (Or.inl ⟨by kernel_rfl, fun W _ => run_index_op (size := 3) (i := h) (n := n) (c := lc) Try.underlying56 (by kernel_rfl) rfl rfl hn⟩) trivial ?_
            simp only [Act.put, List.setIfInBounds_toArray, List.set_cons_zero, List.set_cons_succ]
            refine wpAnyH_ready (rs := [9]) (by kernel_rfl) (by simp) ?_
            refine AllReadyH.cons (o := (⟨some 116, Op.load 71 (Operand.tmp 115), 71, "law.go:246", #[{ on := 8, ground := Ground.data }, { on := 4, ground := Ground.guard }], some (4, false)⟩)) rfl ?_ (AllReadyH.nil)
            · skip
              refine next_op (v := f.val) (by kernel_rfl) (run_loadS_op f.cells (by kernel_rfl) (by kernel_rfl) rfl (facts_cells' hl hf)) trivial (fun _ => ?_)
              simp only [Act.put, List.setIfInBounds_toArray, List.set_cons_zero, List.set_cons_succ]
              refine wpAnyH_ready (rs := [10]) (by kernel_rfl) (by simp) ?_
              refine AllReadyH.cons (o := (⟨some 117, Op.call { callee := Callee.value (Operand.func 40), args := #[Operand.tmp 112, Operand.tmp 116], argTypes := #[71, 71] }, 4, "law.go:246", #[{ on := 5, ground := Ground.data }, { on := 9, ground := Ground.data }, { on := 4, ground := Ground.chain }, { on := 4, ground := Ground.guard }], some (4, false)⟩)) rfl ?_ (AllReadyH.nil)
              · skip
                refine next_call (f := 40) (args := #[x.val, f.val]) (by kernel_rfl) (by kernel_rfl) (SC) ?_
                rintro e wy16 ⟨rfl, hb⟩
                refine ⟨.bool true, rfl, trivial, fun _ => ?_⟩
                simp only [Act.put, List.setIfInBounds_toArray, List.set_cons_zero, List.set_cons_succ]
                refine wpAnyH_take (i := 11) (oi := (⟨some 118, Op.unOp UnOp.not 4 (Operand.tmp 117), 4, "law.go:246", #[{ on := 10, ground := Ground.data }, { on := 4, ground := Ground.guard }], some (4, false)⟩)) (v := .bool false) rfl (by kernel_rfl) (by kernel_rfl) (by kernel_rfl) (fun _ _ _ h => h) (Or.inl ⟨by kernel_rfl, fun _ _ => by kernel_rfl⟩) trivial ?_
                simp only [Act.put, List.setIfInBounds_toArray, List.set_cons_zero, List.set_cons_succ]
                refine wpAnyH_take (i := 12) (oi := (⟨some 119, Op.pick (Operand.tmp 111) (Operand.const (Value.bool true)) (Operand.tmp 118), 4, "law.go:246", #[{ on := 4, ground := Ground.data }, { on := 11, ground := Ground.data }], none⟩)) (v := .bool false) rfl (by kernel_rfl) (by kernel_rfl) (by kernel_rfl) (fun _ _ _ h => h) (Or.inl ⟨by kernel_rfl, fun _ _ => by kernel_rfl⟩) trivial ?_
                simp only [Act.put, List.setIfInBounds_toArray, List.set_cons_zero, List.set_cons_succ]
                refine wpAnyH_done (by kernel_rfl) ?_ _
                exact OnlyN.normal (hend wy16 _ _ _ _ _ _ _ _ _ _ _ _ ((Below.refl _ _).drew.trans hb))
        · skip
          refine next_op (v := .int .i64 (h : Nat)) (by kernel_rfl) (run_load1_op (by kernel_rfl) (by kernel_rfl) y0) trivial (fun _ => ?_)
          simp only [Act.put, List.setIfInBounds_toArray, List.set_cons_zero, List.set_cons_succ]
          refine wpAnyH_take (i := 8) (oi := (⟨some 115, Op.indexAddr 56 (Operand.tmp 113) (Operand.tmp 114), 0, "law.go:246", #[{ on := 6, ground := Ground.data }, { on := 7, ground := Ground.data }, { on := 4, ground := Ground.guard }], some (4, false)⟩)) (v := .pointer (some (la.add (h * 3)))) rfl (by kernel_rfl) (by kernel_rfl) (by kernel_rfl) (fun _ _ _ h => h) (Or.inl ⟨by kernel_rfl, fun W _ => run_index_op (size := 3) (i := h) (n := n) (c := lc) Try.underlying56 (by kernel_rfl) rfl rfl hn⟩) trivial ?_
          simp only [Act.put, List.setIfInBounds_toArray, List.set_cons_zero, List.set_cons_succ]
          refine wpAnyH_ready (rs := [5, 9]) (by kernel_rfl) (by simp) ?_
          refine AllReadyH.cons (o := (⟨some 112, Op.load 71 (Operand.tmp 17), 71, "law.go:246", #[{ on := 4, ground := Ground.guard }], some (4, false)⟩)) rfl ?_ (AllReadyH.cons (o := (⟨some 116, Op.load 71 (Operand.tmp 115), 71, "law.go:246", #[{ on := 8, ground := Ground.data }, { on := 4, ground := Ground.guard }], some (4, false)⟩)) rfl ?_ (AllReadyH.nil))
          · skip
            refine next_op (v := x.val) (by kernel_rfl) (run_loadS_op x.cells (by kernel_rfl) (by kernel_rfl) rfl (blk_cells hX)) trivial (fun _ => ?_)
            simp only [Act.put, List.setIfInBounds_toArray, List.set_cons_zero, List.set_cons_succ]
            refine wpAnyH_ready (rs := [9]) (by kernel_rfl) (by simp) ?_
            refine AllReadyH.cons (o := (⟨some 116, Op.load 71 (Operand.tmp 115), 71, "law.go:246", #[{ on := 8, ground := Ground.data }, { on := 4, ground := Ground.guard }], some (4, false)⟩)) rfl ?_ (AllReadyH.nil)
            · skip
              refine next_op (v := f.val) (by kernel_rfl) (run_loadS_op f.cells (by kernel_rfl) (by kernel_rfl) rfl (facts_cells' hl hf)) trivial (fun _ => ?_)
              simp only [Act.put, List.setIfInBounds_toArray, List.set_cons_zero, List.set_cons_succ]
              refine wpAnyH_ready (rs := [10]) (by kernel_rfl) (by simp) ?_
              refine AllReadyH.cons (o := (⟨some 117, Op.call { callee := Callee.value (Operand.func 40), args := #[Operand.tmp 112, Operand.tmp 116], argTypes := #[71, 71] }, 4, "law.go:246", #[{ on := 5, ground := Ground.data }, { on := 9, ground := Ground.data }, { on := 4, ground := Ground.chain }, { on := 4, ground := Ground.guard }], some (4, false)⟩)) rfl ?_ (AllReadyH.nil)
              · skip
                refine next_call (f := 40) (args := #[x.val, f.val]) (by kernel_rfl) (by kernel_rfl) (SC) ?_
                rintro e wy20 ⟨rfl, hb⟩
                refine ⟨.bool true, rfl, trivial, fun _ => ?_⟩
                simp only [Act.put, List.setIfInBounds_toArray, List.set_cons_zero, List.set_cons_succ]
                refine wpAnyH_take (i := 11) (oi := (⟨some 118, Op.unOp UnOp.not 4 (Operand.tmp 117), 4, "law.go:246", #[{ on := 10, ground := Ground.data }, { on := 4, ground := Ground.guard }], some (4, false)⟩)) (v := .bool false) rfl (by kernel_rfl) (by kernel_rfl) (by kernel_rfl) (fun _ _ _ h => h) (Or.inl ⟨by kernel_rfl, fun _ _ => by kernel_rfl⟩) trivial ?_
                simp only [Act.put, List.setIfInBounds_toArray, List.set_cons_zero, List.set_cons_succ]
                refine wpAnyH_take (i := 12) (oi := (⟨some 119, Op.pick (Operand.tmp 111) (Operand.const (Value.bool true)) (Operand.tmp 118), 4, "law.go:246", #[{ on := 4, ground := Ground.data }, { on := 11, ground := Ground.data }], none⟩)) (v := .bool false) rfl (by kernel_rfl) (by kernel_rfl) (by kernel_rfl) (fun _ _ _ h => h) (Or.inl ⟨by kernel_rfl, fun _ _ => by kernel_rfl⟩) trivial ?_
                simp only [Act.put, List.setIfInBounds_toArray, List.set_cons_zero, List.set_cons_succ]
                refine wpAnyH_done (by kernel_rfl) ?_ _
                exact OnlyN.normal (hend wy20 _ _ _ _ _ _ _ _ _ _ _ _ ((Below.refl _ _).drew.trans hb))
          · skip
            refine next_op (v := f.val) (by kernel_rfl) (run_loadS_op f.cells (by kernel_rfl) (by kernel_rfl) rfl (facts_cells' hl hf)) trivial (fun _ => ?_)
            simp only [Act.put, List.setIfInBounds_toArray, List.set_cons_zero, List.set_cons_succ]
            refine wpAnyH_ready (rs := [5]) (by kernel_rfl) (by simp) ?_
            refine AllReadyH.cons (o := (⟨some 112, Op.load 71 (Operand.tmp 17), 71, "law.go:246", #[{ on := 4, ground := Ground.guard }], some (4, false)⟩)) rfl ?_ (AllReadyH.nil)
            · skip
              refine next_op (v := x.val) (by kernel_rfl) (run_loadS_op x.cells (by kernel_rfl) (by kernel_rfl) rfl (blk_cells hX)) trivial (fun _ => ?_)
              simp only [Act.put, List.setIfInBounds_toArray, List.set_cons_zero, List.set_cons_succ]
              refine wpAnyH_ready (rs := [10]) (by kernel_rfl) (by simp) ?_
              refine AllReadyH.cons (o := (⟨some 117, Op.call { callee := Callee.value (Operand.func 40), args := #[Operand.tmp 112, Operand.tmp 116], argTypes := #[71, 71] }, 4, "law.go:246", #[{ on := 5, ground := Ground.data }, { on := 9, ground := Ground.data }, { on := 4, ground := Ground.chain }, { on := 4, ground := Ground.guard }], some (4, false)⟩)) rfl ?_ (AllReadyH.nil)
              · skip
                refine next_call (f := 40) (args := #[x.val, f.val]) (by kernel_rfl) (by kernel_rfl) (SC) ?_
                rintro e wy23 ⟨rfl, hb⟩
                refine ⟨.bool true, rfl, trivial, fun _ => ?_⟩
                simp only [Act.put, List.setIfInBounds_toArray, List.set_cons_zero, List.set_cons_succ]
                refine wpAnyH_take (i := 11) (oi := (⟨some 118, Op.unOp UnOp.not 4 (Operand.tmp 117), 4, "law.go:246", #[{ on := 10, ground := Ground.data }, { on := 4, ground := Ground.guard }], some (4, false)⟩)) (v := .bool false) rfl (by kernel_rfl) (by kernel_rfl) (by kernel_rfl) (fun _ _ _ h => h) (Or.inl ⟨by kernel_rfl, fun _ _ => by kernel_rfl⟩) trivial ?_
                simp only [Act.put, List.setIfInBounds_toArray, List.set_cons_zero, List.set_cons_succ]
                refine wpAnyH_take (i := 12) (oi := (⟨some 119, Op.pick (Operand.tmp 111) (Operand.const (Value.bool true)) (Operand.tmp 118), 4, "law.go:246", #[{ on := 4, ground := Ground.data }, { on := 11, ground := Ground.data }], none⟩)) (v := .bool false) rfl (by kernel_rfl) (by kernel_rfl) (by kernel_rfl) (fun _ _ _ h => h) (Or.inl ⟨by kernel_rfl, fun _ _ => by kernel_rfl⟩) trivial ?_
                simp only [Act.put, List.setIfInBounds_toArray, List.set_cons_zero, List.set_cons_succ]
                refine wpAnyH_done (by kernel_rfl) ?_ _
                exact OnlyN.normal (hend wy23 _ _ _ _ _ _ _ _ _ _ _ _ ((Below.refl _ _).drew.trans hb))
      · skip
        refine next_op (v := .int .i64 (h : Nat)) (by kernel_rfl) (run_load1_op (by kernel_rfl) (by kernel_rfl) y0) trivial (fun _ => ?_)
        simp only [Act.put, List.setIfInBounds_toArray, List.set_cons_zero, List.set_cons_succ]
        refine wpAnyH_ready (rs := [5, 6]) (by kernel_rfl) (by simp) ?_
        refine AllReadyH.cons (o := (⟨some 112, Op.load 71 (Operand.tmp 17), 71, "law.go:246", #[{ on := 4, ground := Ground.guard }], some (4, false)⟩)) rfl ?_ (AllReadyH.cons (o := (⟨some 113, Op.load 56 (Operand.tmp 2), 56, "law.go:246", #[{ on := 4, ground := Ground.guard }], some (4, false)⟩)) rfl ?_ (AllReadyH.nil))
        · skip
          refine next_op (v := x.val) (by kernel_rfl) (run_loadS_op x.cells (by kernel_rfl) (by kernel_rfl) rfl (blk_cells hX)) trivial (fun _ => ?_)
          simp only [Act.put, List.setIfInBounds_toArray, List.set_cons_zero, List.set_cons_succ]
          refine wpAnyH_ready (rs := [6]) (by kernel_rfl) (by simp) ?_
          refine AllReadyH.cons (o := (⟨some 113, Op.load 56 (Operand.tmp 2), 56, "law.go:246", #[{ on := 4, ground := Ground.guard }], some (4, false)⟩)) rfl ?_ (AllReadyH.nil)
          · skip
            refine next_op (v := .slice (some la) n lc) (by kernel_rfl) (run_load1_op (by kernel_rfl) (by kernel_rfl) x0) trivial (fun _ => ?_)
            simp only [Act.put, List.setIfInBounds_toArray, List.set_cons_zero, List.set_cons_succ]
            refine wpAnyH_take (i := 8) (oi := (⟨some 115, Op.indexAddr 56 (Operand.tmp 113) (Operand.tmp 114), 0, "law.go:246", #[{ on := 6, ground := Ground.data }, { on := 7, ground := Ground.data }, { on := 4, ground := Ground.guard }], some (4, false)⟩)) (v := .pointer (some (la.add (h * 3)))) rfl (by kernel_rfl) (by kernel_rfl) (by kernel_rfl) (fun _ _ _ h => h) (Or.inl ⟨by kernel_rfl, fun W _ => run_index_op (size := 3) (i := h) (n := n) (c := lc) Try.underlying56 (by kernel_rfl) rfl rfl hn⟩) trivial ?_
            simp only [Act.put, List.setIfInBounds_toArray, List.set_cons_zero, List.set_cons_succ]
            refine wpAnyH_ready (rs := [9]) (by kernel_rfl) (by simp) ?_
            refine AllReadyH.cons (o := (⟨some 116, Op.load 71 (Operand.tmp 115), 71, "law.go:246", #[{ on := 8, ground := Ground.data }, { on := 4, ground := Ground.guard }], some (4, false)⟩)) rfl ?_ (AllReadyH.nil)
            · skip
              refine next_op (v := f.val) (by kernel_rfl) (run_loadS_op f.cells (by kernel_rfl) (by kernel_rfl) rfl (facts_cells' hl hf)) trivial (fun _ => ?_)
              simp only [Act.put, List.setIfInBounds_toArray, List.set_cons_zero, List.set_cons_succ]
              refine wpAnyH_ready (rs := [10]) (by kernel_rfl) (by simp) ?_
              refine AllReadyH.cons (o := (⟨some 117, Op.call { callee := Callee.value (Operand.func 40), args := #[Operand.tmp 112, Operand.tmp 116], argTypes := #[71, 71] }, 4, "law.go:246", #[{ on := 5, ground := Ground.data }, { on := 9, ground := Ground.data }, { on := 4, ground := Ground.chain }, { on := 4, ground := Ground.guard }], some (4, false)⟩)) rfl ?_ (AllReadyH.nil)
              · skip
                refine next_call (f := 40) (args := #[x.val, f.val]) (by kernel_rfl) (by kernel_rfl) (SC) ?_
                rintro e wy28 ⟨rfl, hb⟩
                refine ⟨.bool true, rfl, trivial, fun _ => ?_⟩
                simp only [Act.put, List.setIfInBounds_toArray, List.set_cons_zero, List.set_cons_succ]
                refine wpAnyH_take (i := 11) (oi := (⟨some 118, Op.unOp UnOp.not 4 (Operand.tmp 117), 4, "law.go:246", #[{ on := 10, ground := Ground.data }, { on := 4, ground := Ground.guard }], some (4, false)⟩)) (v := .bool false) rfl (by kernel_rfl) (by kernel_rfl) (by kernel_rfl) (fun _ _ _ h => h) (Or.inl ⟨by kernel_rfl, fun _ _ => by kernel_rfl⟩) trivial ?_
                simp only [Act.put, List.setIfInBounds_toArray, List.set_cons_zero, List.set_cons_succ]
                refine wpAnyH_take (i := 12) (oi := (⟨some 119, Op.pick (Operand.tmp 111) (Operand.const (Value.bool true)) (Operand.tmp 118), 4, "law.go:246", #[{ on := 4, ground := Ground.data }, { on := 11, ground := Ground.data }], none⟩)) (v := .bool false) rfl (by kernel_rfl) (by kernel_rfl) (by kernel_rfl) (fun _ _ _ h => h) (Or.inl ⟨by kernel_rfl, fun _ _ => by kernel_rfl⟩) trivial ?_
                simp only [Act.put, List.setIfInBounds_toArray, List.set_cons_zero, List.set_cons_succ]
                refine wpAnyH_done (by kernel_rfl) ?_ _
                exact OnlyN.normal (hend wy28 _ _ _ _ _ _ _ _ _ _ _ _ ((Below.refl _ _).drew.trans hb))
        · skip
          refine next_op (v := .slice (some la) n lc) (by kernel_rfl) (run_load1_op (by kernel_rfl) (by kernel_rfl) x0) trivial (fun _ => ?_)
          simp only [Act.put, List.setIfInBounds_toArray, List.set_cons_zero, List.set_cons_succ]
          refine wpAnyH_take (i := 8) (oi := (⟨some 115, Op.indexAddr 56 (Operand.tmp 113) (Operand.tmp 114), 0, "law.go:246", #[{ on := 6, ground := Ground.data }, { on := 7, ground := Ground.data }, { on := 4, ground := Ground.guard }], some (4, false)⟩)) (v := .pointer (some (la.add (h * 3)))) rfl (by kernel_rfl) (by kernel_rfl) (by kernel_rfl) (fun _ _ _ h => h) (Or.inl ⟨by kernel_rfl, fun W _ => run_index_op (size := 3) (i := h) (n := n) (c := lc) Try.underlying56 (by kernel_rfl) rfl rfl hn⟩) trivial ?_
          simp only [Act.put, List.setIfInBounds_toArray, List.set_cons_zero, List.set_cons_succ]
          refine wpAnyH_ready (rs := [5, 9]) (by kernel_rfl) (by simp) ?_
          refine AllReadyH.cons (o := (⟨some 112, Op.load 71 (Operand.tmp 17), 71, "law.go:246", #[{ on := 4, ground := Ground.guard }], some (4, false)⟩)) rfl ?_ (AllReadyH.cons (o := (⟨some 116, Op.load 71 (Operand.tmp 115), 71, "law.go:246", #[{ on := 8, ground := Ground.data }, { on := 4, ground := Ground.guard }], some (4, false)⟩)) rfl ?_ (AllReadyH.nil))
          · skip
            refine next_op (v := x.val) (by kernel_rfl) (run_loadS_op x.cells (by kernel_rfl) (by kernel_rfl) rfl (blk_cells hX)) trivial (fun _ => ?_)
            simp only [Act.put, List.setIfInBounds_toArray, List.set_cons_zero, List.set_cons_succ]
            refine wpAnyH_ready (rs := [9]) (by kernel_rfl) (by simp) ?_
            refine AllReadyH.cons (o := (⟨some 116, Op.load 71 (Operand.tmp 115), 71, "law.go:246", #[{ on := 8, ground := Ground.data }, { on := 4, ground := Ground.guard }], some (4, false)⟩)) rfl ?_ (AllReadyH.nil)
            · skip
              refine next_op (v := f.val) (by kernel_rfl) (run_loadS_op f.cells (by kernel_rfl) (by kernel_rfl) rfl (facts_cells' hl hf)) trivial (fun _ => ?_)
              simp only [Act.put, List.setIfInBounds_toArray, List.set_cons_zero, List.set_cons_succ]
              refine wpAnyH_ready (rs := [10]) (by kernel_rfl) (by simp) ?_
              refine AllReadyH.cons (o := (⟨some 117, Op.call { callee := Callee.value (Operand.func 40), args := #[Operand.tmp 112, Operand.tmp 116], argTypes := #[71, 71] }, 4, "law.go:246", #[{ on := 5, ground := Ground.data }, { on := 9, ground := Ground.data }, { on := 4, ground := Ground.chain }, { on := 4, ground := Ground.guard }], some (4, false)⟩)) rfl ?_ (AllReadyH.nil)
              · skip
                refine next_call (f := 40) (args := #[x.val, f.val]) (by kernel_rfl) (by kernel_rfl) (SC) ?_
                rintro e wy32 ⟨rfl, hb⟩
                refine ⟨.bool true, rfl, trivial, fun _ => ?_⟩
                simp only [Act.put, List.setIfInBounds_toArray, List.set_cons_zero, List.set_cons_succ]
                refine wpAnyH_take (i := 11) (oi := (⟨some 118, Op.unOp UnOp.not 4 (Operand.tmp 117), 4, "law.go:246", #[{ on := 10, ground := Ground.data }, { on := 4, ground := Ground.guard }], some (4, false)⟩)) (v := .bool false) rfl (by kernel_rfl) (by kernel_rfl) (by kernel_rfl) (fun _ _ _ h => h) (Or.inl ⟨by kernel_rfl, fun _ _ => by kernel_rfl⟩) trivial ?_
                simp only [Act.put, List.setIfInBounds_toArray, List.set_cons_zero, List.set_cons_succ]
                refine wpAnyH_take (i := 12) (oi := (⟨some 119, Op.pick (Operand.tmp 111) (Operand.const (Value.bool true)) (Operand.tmp 118), 4, "law.go:246", #[{ on := 4, ground := Ground.data }, { on := 11, ground := Ground.data }], none⟩)) (v := .bool false) rfl (by kernel_rfl) (by kernel_rfl) (by kernel_rfl) (fun _ _ _ h => h) (Or.inl ⟨by kernel_rfl, fun _ _ => by kernel_rfl⟩) trivial ?_
                simp only [Act.put, List.setIfInBounds_toArray, List.set_cons_zero, List.set_cons_succ]
                refine wpAnyH_done (by kernel_rfl) ?_ _
                exact OnlyN.normal (hend wy32 _ _ _ _ _ _ _ _ _ _ _ _ ((Below.refl _ _).drew.trans hb))
          · skip
            refine next_op (v := f.val) (by kernel_rfl) (run_loadS_op f.cells (by kernel_rfl) (by kernel_rfl) rfl (facts_cells' hl hf)) trivial (fun _ => ?_)
            simp only [Act.put, List.setIfInBounds_toArray, List.set_cons_zero, List.set_cons_succ]
            refine wpAnyH_ready (rs := [5]) (by kernel_rfl) (by simp) ?_
            refine AllReadyH.cons (o := (⟨some 112, Op.load 71 (Operand.tmp 17), 71, "law.go:246", #[{ on := 4, ground := Ground.guard }], some (4, false)⟩)) rfl ?_ (AllReadyH.nil)
            · skip
              refine next_op (v := x.val) (by kernel_rfl) (run_loadS_op x.cells (by kernel_rfl) (by kernel_rfl) rfl (blk_cells hX)) trivial (fun _ => ?_)
              simp only [Act.put, List.setIfInBounds_toArray, List.set_cons_zero, List.set_cons_succ]
              refine wpAnyH_ready (rs := [10]) (by kernel_rfl) (by simp) ?_
              refine AllReadyH.cons (o := (⟨some 117, Op.call { callee := Callee.value (Operand.func 40), args := #[Operand.tmp 112, Operand.tmp 116], argTypes := #[71, 71] }, 4, "law.go:246", #[{ on := 5, ground := Ground.data }, { on := 9, ground := Ground.data }, { on := 4, ground := Ground.chain }, { on := 4, ground := Ground.guard }], some (4, false)⟩)) rfl ?_ (AllReadyH.nil)
              · skip
                refine next_call (f := 40) (args := #[x.val, f.val]) (by kernel_rfl) (by kernel_rfl) (SC) ?_
                rintro e wy35 ⟨rfl, hb⟩
                refine ⟨.bool true, rfl, trivial, fun _ => ?_⟩
                simp only [Act.put, List.setIfInBounds_toArray, List.set_cons_zero, List.set_cons_succ]
                refine wpAnyH_take (i := 11) (oi := (⟨some 118, Op.unOp UnOp.not 4 (Operand.tmp 117), 4, "law.go:246", #[{ on := 10, ground := Ground.data }, { on := 4, ground := Ground.guard }], some (4, false)⟩)) (v := .bool false) rfl (by kernel_rfl) (by kernel_rfl) (by kernel_rfl) (fun _ _ _ h => h) (Or.inl ⟨by kernel_rfl, fun _ _ => by kernel_rfl⟩) trivial ?_
                simp only [Act.put, List.setIfInBounds_toArray, List.set_cons_zero, List.set_cons_succ]
                refine wpAnyH_take (i := 12) (oi := (⟨some 119, Op.pick (Operand.tmp 111) (Operand.const (Value.bool true)) (Operand.tmp 118), 4, "law.go:246", #[{ on := 4, ground := Ground.data }, { on := 11, ground := Ground.data }], none⟩)) (v := .bool false) rfl (by kernel_rfl) (by kernel_rfl) (by kernel_rfl) (fun _ _ _ h => h) (Or.inl ⟨by kernel_rfl, fun _ _ => by kernel_rfl⟩) trivial ?_
                simp only [Act.put, List.setIfInBounds_toArray, List.set_cons_zero, List.set_cons_succ]
                refine wpAnyH_done (by kernel_rfl) ?_ _
                exact OnlyN.normal (hend wy35 _ _ _ _ _ _ _ _ _ _ _ _ ((Below.refl _ _).drew.trans hb))
  · skip
    refine next_op (v := .slice (some la) n lc) (by kernel_rfl) (run_load1_op (by kernel_rfl) (by kernel_rfl) x0) trivial (fun _ => ?_)
    simp only [Act.put, List.setIfInBounds_toArray, List.set_cons_zero, List.set_cons_succ]
    refine wpAnyH_take (i := 2) (oi := (⟨some 109, Op.call { callee := Callee.builtin Builtin.len, args := #[Operand.tmp 108], argTypes := #[56] }, 3, "law.go:246", #[{ on := 1, ground := Ground.data }], none⟩)) (v := .int .i64 (n : Nat)) rfl (by kernel_rfl) (by kernel_rfl) (by kernel_rfl) (fun _ _ _ h => h) (Or.inl ⟨by kernel_rfl, fun W _ => run_len_op Try.underlying56 rfl⟩) trivial ?_
    simp only [Act.put, List.setIfInBounds_toArray, List.set_cons_zero, List.set_cons_succ]
    refine wpAnyH_ready (rs := [0]) (by kernel_rfl) (by simp) ?_
    refine AllReadyH.cons (o := (⟨some 107, Op.load 3 (Operand.tmp 16), 3, "law.go:246", #[], none⟩)) rfl ?_ (AllReadyH.nil)
    · skip
      refine next_op (v := .int .i64 (h : Nat)) (by kernel_rfl) (run_load1_op (by kernel_rfl) (by kernel_rfl) y0) trivial (fun _ => ?_)
      simp only [Act.put, List.setIfInBounds_toArray, List.set_cons_zero, List.set_cons_succ]
      refine wpAnyH_take (i := 3) (oi := (⟨some 110, Op.binOp BinOp.geq 3 (Operand.tmp 107) (Operand.tmp 109) 3, 4, "law.go:246", #[{ on := 0, ground := Ground.data }, { on := 2, ground := Ground.data }], none⟩)) (v := .bool false) rfl (by kernel_rfl) (by kernel_rfl) (by kernel_rfl) (fun _ _ _ h => h) (Or.inl ⟨by kernel_rfl, fun W _ => run_geq_false rfl rfl hn⟩) trivial ?_
      simp only [Act.put, List.setIfInBounds_toArray, List.set_cons_zero, List.set_cons_succ]
      refine wpAnyH_take (i := 4) (oi := (⟨some 111, Op.move (Operand.tmp 110), 4, "law.go:246", #[{ on := 3, ground := Ground.data }], none⟩)) (v := .bool false) rfl (by kernel_rfl) (by kernel_rfl) (by kernel_rfl) (fun _ _ _ h => h) (Or.inl ⟨by kernel_rfl, fun _ _ => by kernel_rfl⟩) trivial ?_
      simp only [Act.put, List.setIfInBounds_toArray, List.set_cons_zero, List.set_cons_succ]
      refine wpAnyH_ready (rs := [5, 6, 7]) (by kernel_rfl) (by simp) ?_
      refine AllReadyH.cons (o := (⟨some 112, Op.load 71 (Operand.tmp 17), 71, "law.go:246", #[{ on := 4, ground := Ground.guard }], some (4, false)⟩)) rfl ?_ (AllReadyH.cons (o := (⟨some 113, Op.load 56 (Operand.tmp 2), 56, "law.go:246", #[{ on := 4, ground := Ground.guard }], some (4, false)⟩)) rfl ?_ (AllReadyH.cons (o := (⟨some 114, Op.load 3 (Operand.tmp 16), 3, "law.go:246", #[{ on := 4, ground := Ground.guard }], some (4, false)⟩)) rfl ?_ (AllReadyH.nil)))
      · skip
        refine next_op (v := x.val) (by kernel_rfl) (run_loadS_op x.cells (by kernel_rfl) (by kernel_rfl) rfl (blk_cells hX)) trivial (fun _ => ?_)
        simp only [Act.put, List.setIfInBounds_toArray, List.set_cons_zero, List.set_cons_succ]
        refine wpAnyH_ready (rs := [6, 7]) (by kernel_rfl) (by simp) ?_
        refine AllReadyH.cons (o := (⟨some 113, Op.load 56 (Operand.tmp 2), 56, "law.go:246", #[{ on := 4, ground := Ground.guard }], some (4, false)⟩)) rfl ?_ (AllReadyH.cons (o := (⟨some 114, Op.load 3 (Operand.tmp 16), 3, "law.go:246", #[{ on := 4, ground := Ground.guard }], some (4, false)⟩)) rfl ?_ (AllReadyH.nil))
        · skip
          refine next_op (v := .slice (some la) n lc) (by kernel_rfl) (run_load1_op (by kernel_rfl) (by kernel_rfl) x0) trivial (fun _ => ?_)
          simp only [Act.put, List.setIfInBounds_toArray, List.set_cons_zero, List.set_cons_succ]
          refine wpAnyH_ready (rs := [7]) (by kernel_rfl) (by simp) ?_
          refine AllReadyH.cons (o := (⟨some 114, Op.load 3 (Operand.tmp 16), 3, "law.go:246", #[{ on := 4, ground := Ground.guard }], some (4, false)⟩)) rfl ?_ (AllReadyH.nil)
          · skip
            refine next_op (v := .int .i64 (h : Nat)) (by kernel_rfl) (run_load1_op (by kernel_rfl) (by kernel_rfl) y0) trivial (fun _ => ?_)
            simp only [Act.put, List.setIfInBounds_toArray, List.set_cons_zero, List.set_cons_succ]
            refine wpAnyH_take (i := 8) (oi := (⟨some 115, Op.indexAddr 56 (Operand.tmp 113) (Operand.tmp 114), 0, "law.go:246", #[{ on := 6, ground := Ground.data }, { on := 7, ground := Ground.data }, { on := 4, ground := Ground.guard }], some (4, false)⟩)) (v := .pointer (some (la.add (h * 3)))) rfl (by kernel_rfl) (by kernel_rfl) (by kernel_rfl) (fun _ _ _ h => h) (Or.inl ⟨by kernel_rfl, fun W _ => run_index_op (size := 3) (i := h) (n := n) (c := lc) Try.underlying56 (by kernel_rfl) rfl rfl hn⟩) trivial ?_
            simp only [Act.put, List.setIfInBounds_toArray, List.set_cons_zero, List.set_cons_succ]
            refine wpAnyH_ready (rs := [9]) (by kernel_rfl) (by simp) ?_
            refine AllReadyH.cons (o := (⟨some 116, Op.load 71 (Operand.tmp 115), 71, "law.go:246", #[{ on := 8, ground := Ground.data }, { on := 4, ground := Ground.guard }], some (4, false)⟩)) rfl ?_ (AllReadyH.nil)
            · skip
              refine next_op (v := f.val) (by kernel_rfl) (run_loadS_op f.cells (by kernel_rfl) (by kernel_rfl) rfl (facts_cells' hl hf)) trivial (fun _ => ?_)
              simp only [Act.put, List.setIfInBounds_toArray, List.set_cons_zero, List.set_cons_succ]
              refine wpAnyH_ready (rs := [10]) (by kernel_rfl) (by simp) ?_
              refine AllReadyH.cons (o := (⟨some 117, Op.call { callee := Callee.value (Operand.func 40), args := #[Operand.tmp 112, Operand.tmp 116], argTypes := #[71, 71] }, 4, "law.go:246", #[{ on := 5, ground := Ground.data }, { on := 9, ground := Ground.data }, { on := 4, ground := Ground.chain }, { on := 4, ground := Ground.guard }], some (4, false)⟩)) rfl ?_ (AllReadyH.nil)
              · skip
                refine next_call (f := 40) (args := #[x.val, f.val]) (by kernel_rfl) (by kernel_rfl) (SC) ?_
                rintro e wy42 ⟨rfl, hb⟩
                refine ⟨.bool true, rfl, trivial, fun _ => ?_⟩
                simp only [Act.put, List.setIfInBounds_toArray, List.set_cons_zero, List.set_cons_succ]
                refine wpAnyH_take (i := 11) (oi := (⟨some 118, Op.unOp UnOp.not 4 (Operand.tmp 117), 4, "law.go:246", #[{ on := 10, ground := Ground.data }, { on := 4, ground := Ground.guard }], some (4, false)⟩)) (v := .bool false) rfl (by kernel_rfl) (by kernel_rfl) (by kernel_rfl) (fun _ _ _ h => h) (Or.inl ⟨by kernel_rfl, fun _ _ => by kernel_rfl⟩) trivial ?_
                simp only [Act.put, List.setIfInBounds_toArray, List.set_cons_zero, List.set_cons_succ]
                refine wpAnyH_take (i := 12) (oi := (⟨some 119, Op.pick (Operand.tmp 111) (Operand.const (Value.bool true)) (Operand.tmp 118), 4, "law.go:246", #[{ on := 4, ground := Ground.data }, { on := 11, ground := Ground.data }], none⟩)) (v := .bool false) rfl (by kernel_rfl) (by kernel_rfl) (by kernel_rfl) (fun _ _ _ h => h) (Or.inl ⟨by kernel_rfl, fun _ _ => by kernel_rfl⟩) trivial ?_
                simp only [Act.put, List.setIfInBounds_toArray, List.set_cons_zero, List.set_cons_succ]
                refine wpAnyH_done (by kernel_rfl) ?_ _
                exact OnlyN.normal (hend wy42 _ _ _ _ _ _ _ _ _ _ _ _ ((Below.refl _ _).drew.trans hb))
        · skip
          refine next_op (v := .int .i64 (h : Nat)) (by kernel_rfl) (run_load1_op (by kernel_rfl) (by kernel_rfl) y0) trivial (fun _ => ?_)
          simp only [Act.put, List.setIfInBounds_toArray, List.set_cons_zero, List.set_cons_succ]
          refine wpAnyH_ready (rs := [6]) (by kernel_rfl) (by simp) ?_
          refine AllReadyH.cons (o := (⟨some 113, Op.load 56 (Operand.tmp 2), 56, "law.go:246", #[{ on := 4, ground := Ground.guard }], some (4, false)⟩)) rfl ?_ (AllReadyH.nil)
          · skip
            refine next_op (v := .slice (some la) n lc) (by kernel_rfl) (run_load1_op (by kernel_rfl) (by kernel_rfl) x0) trivial (fun _ => ?_)
            simp only [Act.put, List.setIfInBounds_toArray, List.set_cons_zero, List.set_cons_succ]
            refine wpAnyH_take (i := 8) (oi := (⟨some 115, Op.indexAddr 56 (Operand.tmp 113) (Operand.tmp 114), 0, "law.go:246", #[{ on := 6, ground := Ground.data }, { on := 7, ground := Ground.data }, { on := 4, ground := Ground.guard }], some (4, false)⟩)) (v := .pointer (some (la.add (h * 3)))) rfl (by kernel_rfl) (by kernel_rfl) (by kernel_rfl) (fun _ _ _ h => h) (Or.inl ⟨by kernel_rfl, fun W _ => run_index_op (size := 3) (i := h) (n := n) (c := lc) Try.underlying56 (by kernel_rfl) rfl rfl hn⟩) trivial ?_
            simp only [Act.put, List.setIfInBounds_toArray, List.set_cons_zero, List.set_cons_succ]
            refine wpAnyH_ready (rs := [9]) (by kernel_rfl) (by simp) ?_
            refine AllReadyH.cons (o := (⟨some 116, Op.load 71 (Operand.tmp 115), 71, "law.go:246", #[{ on := 8, ground := Ground.data }, { on := 4, ground := Ground.guard }], some (4, false)⟩)) rfl ?_ (AllReadyH.nil)
            · skip
              refine next_op (v := f.val) (by kernel_rfl) (run_loadS_op f.cells (by kernel_rfl) (by kernel_rfl) rfl (facts_cells' hl hf)) trivial (fun _ => ?_)
              simp only [Act.put, List.setIfInBounds_toArray, List.set_cons_zero, List.set_cons_succ]
              refine wpAnyH_ready (rs := [10]) (by kernel_rfl) (by simp) ?_
              refine AllReadyH.cons (o := (⟨some 117, Op.call { callee := Callee.value (Operand.func 40), args := #[Operand.tmp 112, Operand.tmp 116], argTypes := #[71, 71] }, 4, "law.go:246", #[{ on := 5, ground := Ground.data }, { on := 9, ground := Ground.data }, { on := 4, ground := Ground.chain }, { on := 4, ground := Ground.guard }], some (4, false)⟩)) rfl ?_ (AllReadyH.nil)
              · skip
                refine next_call (f := 40) (args := #[x.val, f.val]) (by kernel_rfl) (by kernel_rfl) (SC) ?_
                rintro e wy46 ⟨rfl, hb⟩
                refine ⟨.bool true, rfl, trivial, fun _ => ?_⟩
                simp only [Act.put, List.setIfInBounds_toArray, List.set_cons_zero, List.set_cons_succ]
                refine wpAnyH_take (i := 11) (oi := (⟨some 118, Op.unOp UnOp.not 4 (Operand.tmp 117), 4, "law.go:246", #[{ on := 10, ground := Ground.data }, { on := 4, ground := Ground.guard }], some (4, false)⟩)) (v := .bool false) rfl (by kernel_rfl) (by kernel_rfl) (by kernel_rfl) (fun _ _ _ h => h) (Or.inl ⟨by kernel_rfl, fun _ _ => by kernel_rfl⟩) trivial ?_
                simp only [Act.put, List.setIfInBounds_toArray, List.set_cons_zero, List.set_cons_succ]
                refine wpAnyH_take (i := 12) (oi := (⟨some 119, Op.pick (Operand.tmp 111) (Operand.const (Value.bool true)) (Operand.tmp 118), 4, "law.go:246", #[{ on := 4, ground := Ground.data }, { on := 11, ground := Ground.data }], none⟩)) (v := .bool false) rfl (by kernel_rfl) (by kernel_rfl) (by kernel_rfl) (fun _ _ _ h => h) (Or.inl ⟨by kernel_rfl, fun _ _ => by kernel_rfl⟩) trivial ?_
                simp only [Act.put, List.setIfInBounds_toArray, List.set_cons_zero, List.set_cons_succ]
                refine wpAnyH_done (by kernel_rfl) ?_ _
                exact OnlyN.normal (hend wy46 _ _ _ _ _ _ _ _ _ _ _ _ ((Below.refl _ _).drew.trans hb))
      · skip
        refine next_op (v := .slice (some la) n lc) (by kernel_rfl) (run_load1_op (by kernel_rfl) (by kernel_rfl) x0) trivial (fun _ => ?_)
        simp only [Act.put, List.setIfInBounds_toArray, List.set_cons_zero, List.set_cons_succ]
        refine wpAnyH_ready (rs := [5, 7]) (by kernel_rfl) (by simp) ?_
        refine AllReadyH.cons (o := (⟨some 112, Op.load 71 (Operand.tmp 17), 71, "law.go:246", #[{ on := 4, ground := Ground.guard }], some (4, false)⟩)) rfl ?_ (AllReadyH.cons (o := (⟨some 114, Op.load 3 (Operand.tmp 16), 3, "law.go:246", #[{ on := 4, ground := Ground.guard }], some (4, false)⟩)) rfl ?_ (AllReadyH.nil))
        · skip
          refine next_op (v := x.val) (by kernel_rfl) (run_loadS_op x.cells (by kernel_rfl) (by kernel_rfl) rfl (blk_cells hX)) trivial (fun _ => ?_)
          simp only [Act.put, List.setIfInBounds_toArray, List.set_cons_zero, List.set_cons_succ]
          refine wpAnyH_ready (rs := [7]) (by kernel_rfl) (by simp) ?_
          refine AllReadyH.cons (o := (⟨some 114, Op.load 3 (Operand.tmp 16), 3, "law.go:246", #[{ on := 4, ground := Ground.guard }], some (4, false)⟩)) rfl ?_ (AllReadyH.nil)
          · skip
            refine next_op (v := .int .i64 (h : Nat)) (by kernel_rfl) (run_load1_op (by kernel_rfl) (by kernel_rfl) y0) trivial (fun _ => ?_)
            simp only [Act.put, List.setIfInBounds_toArray, List.set_cons_zero, List.set_cons_succ]
            refine wpAnyH_take (i := 8) (oi := (⟨some 115, Op.indexAddr 56 (Operand.tmp 113) (Operand.tmp 114), 0, "law.go:246", #[{ on := 6, ground := Ground.data }, { on := 7, ground := Ground.data }, { on := 4, ground := Ground.guard }], some (4, false)⟩)) (v := .pointer (some (la.add (h * 3)))) rfl (by kernel_rfl) (by kernel_rfl) (by kernel_rfl) (fun _ _ _ h => h) (Or.inl ⟨by kernel_rfl, fun W _ => run_index_op (size := 3) (i := h) (n := n) (c := lc) Try.underlying56 (by kernel_rfl) rfl rfl hn⟩) trivial ?_
            simp only [Act.put, List.setIfInBounds_toArray, List.set_cons_zero, List.set_cons_succ]
            refine wpAnyH_ready (rs := [9]) (by kernel_rfl) (by simp) ?_
            refine AllReadyH.cons (o := (⟨some 116, Op.load 71 (Operand.tmp 115), 71, "law.go:246", #[{ on := 8, ground := Ground.data }, { on := 4, ground := Ground.guard }], some (4, false)⟩)) rfl ?_ (AllReadyH.nil)
            · skip
              refine next_op (v := f.val) (by kernel_rfl) (run_loadS_op f.cells (by kernel_rfl) (by kernel_rfl) rfl (facts_cells' hl hf)) trivial (fun _ => ?_)
              simp only [Act.put, List.setIfInBounds_toArray, List.set_cons_zero, List.set_cons_succ]
              refine wpAnyH_ready (rs := [10]) (by kernel_rfl) (by simp) ?_
              refine AllReadyH.cons (o := (⟨some 117, Op.call { callee := Callee.value (Operand.func 40), args := #[Operand.tmp 112, Operand.tmp 116], argTypes := #[71, 71] }, 4, "law.go:246", #[{ on := 5, ground := Ground.data }, { on := 9, ground := Ground.data }, { on := 4, ground := Ground.chain }, { on := 4, ground := Ground.guard }], some (4, false)⟩)) rfl ?_ (AllReadyH.nil)
              · skip
                refine next_call (f := 40) (args := #[x.val, f.val]) (by kernel_rfl) (by kernel_rfl) (SC) ?_
                rintro e wy51 ⟨rfl, hb⟩
                refine ⟨.bool true, rfl, trivial, fun _ => ?_⟩
                simp only [Act.put, List.setIfInBounds_toArray, List.set_cons_zero, List.set_cons_succ]
                refine wpAnyH_take (i := 11) (oi := (⟨some 118, Op.unOp UnOp.not 4 (Operand.tmp 117), 4, "law.go:246", #[{ on := 10, ground := Ground.data }, { on := 4, ground := Ground.guard }], some (4, false)⟩)) (v := .bool false) rfl (by kernel_rfl) (by kernel_rfl) (by kernel_rfl) (fun _ _ _ h => h) (Or.inl ⟨by kernel_rfl, fun _ _ => by kernel_rfl⟩) trivial ?_
                simp only [Act.put, List.setIfInBounds_toArray, List.set_cons_zero, List.set_cons_succ]
                refine wpAnyH_take (i := 12) (oi := (⟨some 119, Op.pick (Operand.tmp 111) (Operand.const (Value.bool true)) (Operand.tmp 118), 4, "law.go:246", #[{ on := 4, ground := Ground.data }, { on := 11, ground := Ground.data }], none⟩)) (v := .bool false) rfl (by kernel_rfl) (by kernel_rfl) (by kernel_rfl) (fun _ _ _ h => h) (Or.inl ⟨by kernel_rfl, fun _ _ => by kernel_rfl⟩) trivial ?_
                simp only [Act.put, List.setIfInBounds_toArray, List.set_cons_zero, List.set_cons_succ]
                refine wpAnyH_done (by kernel_rfl) ?_ _
                exact OnlyN.normal (hend wy51 _ _ _ _ _ _ _ _ _ _ _ _ ((Below.refl _ _).drew.trans hb))
        · skip
          refine next_op (v := .int .i64 (h : Nat)) (by kernel_rfl) (run_load1_op (by kernel_rfl) (by kernel_rfl) y0) trivial (fun _ => ?_)
          simp only [Act.put, List.setIfInBounds_toArray, List.set_cons_zero, List.set_cons_succ]
          refine wpAnyH_take (i := 8) (oi := (⟨some 115, Op.indexAddr 56 (Operand.tmp 113) (Operand.tmp 114), 0, "law.go:246", #[{ on := 6, ground := Ground.data }, { on := 7, ground := Ground.data }, { on := 4, ground := Ground.guard }], some (4, false)⟩)) (v := .pointer (some (la.add (h * 3)))) rfl (by kernel_rfl) (by kernel_rfl) (by kernel_rfl) (fun _ _ _ h => h) (Or.inl ⟨by kernel_rfl, fun W _ => run_index_op (size := 3) (i := h) (n := n) (c := lc) Try.underlying56 (by kernel_rfl) rfl rfl hn⟩) trivial ?_
          simp only [Act.put, List.setIfInBounds_toArray, List.set_cons_zero, List.set_cons_succ]
          refine wpAnyH_ready (rs := [5, 9]) (by kernel_rfl) (by simp) ?_
          refine AllReadyH.cons (o := (⟨some 112, Op.load 71 (Operand.tmp 17), 71, "law.go:246", #[{ on := 4, ground := Ground.guard }], some (4, false)⟩)) rfl ?_ (AllReadyH.cons (o := (⟨some 116, Op.load 71 (Operand.tmp 115), 71, "law.go:246", #[{ on := 8, ground := Ground.data }, { on := 4, ground := Ground.guard }], some (4, false)⟩)) rfl ?_ (AllReadyH.nil))
          · skip
            refine next_op (v := x.val) (by kernel_rfl) (run_loadS_op x.cells (by kernel_rfl) (by kernel_rfl) rfl (blk_cells hX)) trivial (fun _ => ?_)
            simp only [Act.put, List.setIfInBounds_toArray, List.set_cons_zero, List.set_cons_succ]
            refine wpAnyH_ready (rs := [9]) (by kernel_rfl) (by simp) ?_
            refine AllReadyH.cons (o := (⟨some 116, Op.load 71 (Operand.tmp 115), 71, "law.go:246", #[{ on := 8, ground := Ground.data }, { on := 4, ground := Ground.guard }], some (4, false)⟩)) rfl ?_ (AllReadyH.nil)
            · skip
              refine next_op (v := f.val) (by kernel_rfl) (run_loadS_op f.cells (by kernel_rfl) (by kernel_rfl) rfl (facts_cells' hl hf)) trivial (fun _ => ?_)
              simp only [Act.put, List.setIfInBounds_toArray, List.set_cons_zero, List.set_cons_succ]
              refine wpAnyH_ready (rs := [10]) (by kernel_rfl) (by simp) ?_
              refine AllReadyH.cons (o := (⟨some 117, Op.call { callee := Callee.value (Operand.func 40), args := #[Operand.tmp 112, Operand.tmp 116], argTypes := #[71, 71] }, 4, "law.go:246", #[{ on := 5, ground := Ground.data }, { on := 9, ground := Ground.data }, { on := 4, ground := Ground.chain }, { on := 4, ground := Ground.guard }], some (4, false)⟩)) rfl ?_ (AllReadyH.nil)
              · skip
                refine next_call (f := 40) (args := #[x.val, f.val]) (by kernel_rfl) (by kernel_rfl) (SC) ?_
                rintro e wy55 ⟨rfl, hb⟩
                refine ⟨.bool true, rfl, trivial, fun _ => ?_⟩
                simp only [Act.put, List.setIfInBounds_toArray, List.set_cons_zero, List.set_cons_succ]
                refine wpAnyH_take (i := 11) (oi := (⟨some 118, Op.unOp UnOp.not 4 (Operand.tmp 117), 4, "law.go:246", #[{ on := 10, ground := Ground.data }, { on := 4, ground := Ground.guard }], some (4, false)⟩)) (v := .bool false) rfl (by kernel_rfl) (by kernel_rfl) (by kernel_rfl) (fun _ _ _ h => h) (Or.inl ⟨by kernel_rfl, fun _ _ => by kernel_rfl⟩) trivial ?_
                simp only [Act.put, List.setIfInBounds_toArray, List.set_cons_zero, List.set_cons_succ]
                refine wpAnyH_take (i := 12) (oi := (⟨some 119, Op.pick (Operand.tmp 111) (Operand.const (Value.bool true)) (Operand.tmp 118), 4, "law.go:246", #[{ on := 4, ground := Ground.data }, { on := 11, ground := Ground.data }], none⟩)) (v := .bool false) rfl (by kernel_rfl) (by kernel_rfl) (by kernel_rfl) (fun _ _ _ h => h) (Or.inl ⟨by kernel_rfl, fun _ _ => by kernel_rfl⟩) trivial ?_
                simp only [Act.put, List.setIfInBounds_toArray, List.set_cons_zero, List.set_cons_succ]
                refine wpAnyH_done (by kernel_rfl) ?_ _
                exact OnlyN.normal (hend wy55 _ _ _ _ _ _ _ _ _ _ _ _ ((Below.refl _ _).drew.trans hb))
          · skip
            refine next_op (v := f.val) (by kernel_rfl) (run_loadS_op f.cells (by kernel_rfl) (by kernel_rfl) rfl (facts_cells' hl hf)) trivial (fun _ => ?_)
            simp only [Act.put, List.setIfInBounds_toArray, List.set_cons_zero, List.set_cons_succ]
            refine wpAnyH_ready (rs := [5]) (by kernel_rfl) (by simp) ?_
            refine AllReadyH.cons (o := (⟨some 112, Op.load 71 (Operand.tmp 17), 71, "law.go:246", #[{ on := 4, ground := Ground.guard }], some (4, false)⟩)) rfl ?_ (AllReadyH.nil)
            · skip
              refine next_op (v := x.val) (by kernel_rfl) (run_loadS_op x.cells (by kernel_rfl) (by kernel_rfl) rfl (blk_cells hX)) trivial (fun _ => ?_)
              simp only [Act.put, List.setIfInBounds_toArray, List.set_cons_zero, List.set_cons_succ]
              refine wpAnyH_ready (rs := [10]) (by kernel_rfl) (by simp) ?_
              refine AllReadyH.cons (o := (⟨some 117, Op.call { callee := Callee.value (Operand.func 40), args := #[Operand.tmp 112, Operand.tmp 116], argTypes := #[71, 71] }, 4, "law.go:246", #[{ on := 5, ground := Ground.data }, { on := 9, ground := Ground.data }, { on := 4, ground := Ground.chain }, { on := 4, ground := Ground.guard }], some (4, false)⟩)) rfl ?_ (AllReadyH.nil)
              · skip
                refine next_call (f := 40) (args := #[x.val, f.val]) (by kernel_rfl) (by kernel_rfl) (SC) ?_
                rintro e wy58 ⟨rfl, hb⟩
                refine ⟨.bool true, rfl, trivial, fun _ => ?_⟩
                simp only [Act.put, List.setIfInBounds_toArray, List.set_cons_zero, List.set_cons_succ]
                refine wpAnyH_take (i := 11) (oi := (⟨some 118, Op.unOp UnOp.not 4 (Operand.tmp 117), 4, "law.go:246", #[{ on := 10, ground := Ground.data }, { on := 4, ground := Ground.guard }], some (4, false)⟩)) (v := .bool false) rfl (by kernel_rfl) (by kernel_rfl) (by kernel_rfl) (fun _ _ _ h => h) (Or.inl ⟨by kernel_rfl, fun _ _ => by kernel_rfl⟩) trivial ?_
                simp only [Act.put, List.setIfInBounds_toArray, List.set_cons_zero, List.set_cons_succ]
                refine wpAnyH_take (i := 12) (oi := (⟨some 119, Op.pick (Operand.tmp 111) (Operand.const (Value.bool true)) (Operand.tmp 118), 4, "law.go:246", #[{ on := 4, ground := Ground.data }, { on := 11, ground := Ground.data }], none⟩)) (v := .bool false) rfl (by kernel_rfl) (by kernel_rfl) (by kernel_rfl) (fun _ _ _ h => h) (Or.inl ⟨by kernel_rfl, fun _ _ => by kernel_rfl⟩) trivial ?_
                simp only [Act.put, List.setIfInBounds_toArray, List.set_cons_zero, List.set_cons_succ]
                refine wpAnyH_done (by kernel_rfl) ?_ _
                exact OnlyN.normal (hend wy58 _ _ _ _ _ _ _ _ _ _ _ _ ((Below.refl _ _).drew.trans hb))
      · skip
        refine next_op (v := .int .i64 (h : Nat)) (by kernel_rfl) (run_load1_op (by kernel_rfl) (by kernel_rfl) y0) trivial (fun _ => ?_)
        simp only [Act.put, List.setIfInBounds_toArray, List.set_cons_zero, List.set_cons_succ]
        refine wpAnyH_ready (rs := [5, 6]) (by kernel_rfl) (by simp) ?_
        refine AllReadyH.cons (o := (⟨some 112, Op.load 71 (Operand.tmp 17), 71, "law.go:246", #[{ on := 4, ground := Ground.guard }], some (4, false)⟩)) rfl ?_ (AllReadyH.cons (o := (⟨some 113, Op.load 56 (Operand.tmp 2), 56, "law.go:246", #[{ on := 4, ground := Ground.guard }], some (4, false)⟩)) rfl ?_ (AllReadyH.nil))
        · skip
          refine next_op (v := x.val) (by kernel_rfl) (run_loadS_op x.cells (by kernel_rfl) (by kernel_rfl) rfl (blk_cells hX)) trivial (fun _ => ?_)
          simp only [Act.put, List.setIfInBounds_toArray, List.set_cons_zero, List.set_cons_succ]
          refine wpAnyH_ready (rs := [6]) (by kernel_rfl) (by simp) ?_
          refine AllReadyH.cons (o := (⟨some 113, Op.load 56 (Operand.tmp 2), 56, "law.go:246", #[{ on := 4, ground := Ground.guard }], some (4, false)⟩)) rfl ?_ (AllReadyH.nil)
          · skip
            refine next_op (v := .slice (some la) n lc) (by kernel_rfl) (run_load1_op (by kernel_rfl) (by kernel_rfl) x0) trivial (fun _ => ?_)
            simp only [Act.put, List.setIfInBounds_toArray, List.set_cons_zero, List.set_cons_succ]
            refine wpAnyH_take (i := 8) (oi := (⟨some 115, Op.indexAddr 56 (Operand.tmp 113) (Operand.tmp 114), 0, "law.go:246", #[{ on := 6, ground := Ground.data }, { on := 7, ground := Ground.data }, { on := 4, ground := Ground.guard }], some (4, false)⟩)) (v := .pointer (some (la.add (h * 3)))) rfl (by kernel_rfl) (by kernel_rfl) (by kernel_rfl) (fun _ _ _ h => h) (Or.inl ⟨by kernel_rfl, fun W _ => run_index_op (size := 3) (i := h) (n := n) (c := lc) Try.underlying56 (by kernel_rfl) rfl rfl hn⟩) trivial ?_
            simp only [Act.put, List.setIfInBounds_toArray, List.set_cons_zero, List.set_cons_succ]
            refine wpAnyH_ready (rs := [9]) (by kernel_rfl) (by simp) ?_
            refine AllReadyH.cons (o := (⟨some 116, Op.load 71 (Operand.tmp 115), 71, "law.go:246", #[{ on := 8, ground := Ground.data }, { on := 4, ground := Ground.guard }], some (4, false)⟩)) rfl ?_ (AllReadyH.nil)
            · skip
              refine next_op (v := f.val) (by kernel_rfl) (run_loadS_op f.cells (by kernel_rfl) (by kernel_rfl) rfl (facts_cells' hl hf)) trivial (fun _ => ?_)
              simp only [Act.put, List.setIfInBounds_toArray, List.set_cons_zero, List.set_cons_succ]
              refine wpAnyH_ready (rs := [10]) (by kernel_rfl) (by simp) ?_
              refine AllReadyH.cons (o := (⟨some 117, Op.call { callee := Callee.value (Operand.func 40), args := #[Operand.tmp 112, Operand.tmp 116], argTypes := #[71, 71] }, 4, "law.go:246", #[{ on := 5, ground := Ground.data }, { on := 9, ground := Ground.data }, { on := 4, ground := Ground.chain }, { on := 4, ground := Ground.guard }], some (4, false)⟩)) rfl ?_ (AllReadyH.nil)
              · skip
                refine next_call (f := 40) (args := #[x.val, f.val]) (by kernel_rfl) (by kernel_rfl) (SC) ?_
                rintro e wy63 ⟨rfl, hb⟩
                refine ⟨.bool true, rfl, trivial, fun _ => ?_⟩
                simp only [Act.put, List.setIfInBounds_toArray, List.set_cons_zero, List.set_cons_succ]
                refine wpAnyH_take (i := 11) (oi := (⟨some 118, Op.unOp UnOp.not 4 (Operand.tmp 117), 4, "law.go:246", #[{ on := 10, ground := Ground.data }, { on := 4, ground := Ground.guard }], some (4, false)⟩)) (v := .bool false) rfl (by kernel_rfl) (by kernel_rfl) (by kernel_rfl) (fun _ _ _ h => h) (Or.inl ⟨by kernel_rfl, fun _ _ => by kernel_rfl⟩) trivial ?_
                simp only [Act.put, List.setIfInBounds_toArray, List.set_cons_zero, List.set_cons_succ]
                refine wpAnyH_take (i := 12) (oi := (⟨some 119, Op.pick (Operand.tmp 111) (Operand.const (Value.bool true)) (Operand.tmp 118), 4, "law.go:246", #[{ on := 4, ground := Ground.data }, { on := 11, ground := Ground.data }], none⟩)) (v := .bool false) rfl (by kernel_rfl) (by kernel_rfl) (by kernel_rfl) (fun _ _ _ h => h) (Or.inl ⟨by kernel_rfl, fun _ _ => by kernel_rfl⟩) trivial ?_
                simp only [Act.put, List.setIfInBounds_toArray, List.set_cons_zero, List.set_cons_succ]
                refine wpAnyH_done (by kernel_rfl) ?_ _
                exact OnlyN.normal (hend wy63 _ _ _ _ _ _ _ _ _ _ _ _ ((Below.refl _ _).drew.trans hb))
        · skip
          refine next_op (v := .slice (some la) n lc) (by kernel_rfl) (run_load1_op (by kernel_rfl) (by kernel_rfl) x0) trivial (fun _ => ?_)
          simp only [Act.put, List.setIfInBounds_toArray, List.set_cons_zero, List.set_cons_succ]
          refine wpAnyH_take (i := 8) (oi := (⟨some 115, Op.indexAddr 56 (Operand.tmp 113) (Operand.tmp 114), 0, "law.go:246", #[{ on := 6, ground := Ground.data }, { on := 7, ground := Ground.data }, { on := 4, ground := Ground.guard }], some (4, false)⟩)) (v := .pointer (some (la.add (h * 3)))) rfl (by kernel_rfl) (by kernel_rfl) (by kernel_rfl) (fun _ _ _ h => h) (Or.inl ⟨by kernel_rfl, fun W _ => run_index_op (size := 3) (i := h) (n := n) (c := lc) Try.underlying56 (by kernel_rfl) rfl rfl hn⟩) trivial ?_
          simp only [Act.put, List.setIfInBounds_toArray, List.set_cons_zero, List.set_cons_succ]
          refine wpAnyH_ready (rs := [5, 9]) (by kernel_rfl) (by simp) ?_
          refine AllReadyH.cons (o := (⟨some 112, Op.load 71 (Operand.tmp 17), 71, "law.go:246", #[{ on := 4, ground := Ground.guard }], some (4, false)⟩)) rfl ?_ (AllReadyH.cons (o := (⟨some 116, Op.load 71 (Operand.tmp 115), 71, "law.go:246", #[{ on := 8, ground := Ground.data }, { on := 4, ground := Ground.guard }], some (4, false)⟩)) rfl ?_ (AllReadyH.nil))
          · skip
            refine next_op (v := x.val) (by kernel_rfl) (run_loadS_op x.cells (by kernel_rfl) (by kernel_rfl) rfl (blk_cells hX)) trivial (fun _ => ?_)
            simp only [Act.put, List.setIfInBounds_toArray, List.set_cons_zero, List.set_cons_succ]
            refine wpAnyH_ready (rs := [9]) (by kernel_rfl) (by simp) ?_
            refine AllReadyH.cons (o := (⟨some 116, Op.load 71 (Operand.tmp 115), 71, "law.go:246", #[{ on := 8, ground := Ground.data }, { on := 4, ground := Ground.guard }], some (4, false)⟩)) rfl ?_ (AllReadyH.nil)
            · skip
              refine next_op (v := f.val) (by kernel_rfl) (run_loadS_op f.cells (by kernel_rfl) (by kernel_rfl) rfl (facts_cells' hl hf)) trivial (fun _ => ?_)
              simp only [Act.put, List.setIfInBounds_toArray, List.set_cons_zero, List.set_cons_succ]
              refine wpAnyH_ready (rs := [10]) (by kernel_rfl) (by simp) ?_
              refine AllReadyH.cons (o := (⟨some 117, Op.call { callee := Callee.value (Operand.func 40), args := #[Operand.tmp 112, Operand.tmp 116], argTypes := #[71, 71] }, 4, "law.go:246", #[{ on := 5, ground := Ground.data }, { on := 9, ground := Ground.data }, { on := 4, ground := Ground.chain }, { on := 4, ground := Ground.guard }], some (4, false)⟩)) rfl ?_ (AllReadyH.nil)
              · skip
                refine next_call (f := 40) (args := #[x.val, f.val]) (by kernel_rfl) (by kernel_rfl) (SC) ?_
                rintro e wy67 ⟨rfl, hb⟩
                refine ⟨.bool true, rfl, trivial, fun _ => ?_⟩
                simp only [Act.put, List.setIfInBounds_toArray, List.set_cons_zero, List.set_cons_succ]
                refine wpAnyH_take (i := 11) (oi := (⟨some 118, Op.unOp UnOp.not 4 (Operand.tmp 117), 4, "law.go:246", #[{ on := 10, ground := Ground.data }, { on := 4, ground := Ground.guard }], some (4, false)⟩)) (v := .bool false) rfl (by kernel_rfl) (by kernel_rfl) (by kernel_rfl) (fun _ _ _ h => h) (Or.inl ⟨by kernel_rfl, fun _ _ => by kernel_rfl⟩) trivial ?_
                simp only [Act.put, List.setIfInBounds_toArray, List.set_cons_zero, List.set_cons_succ]
                refine wpAnyH_take (i := 12) (oi := (⟨some 119, Op.pick (Operand.tmp 111) (Operand.const (Value.bool true)) (Operand.tmp 118), 4, "law.go:246", #[{ on := 4, ground := Ground.data }, { on := 11, ground := Ground.data }], none⟩)) (v := .bool false) rfl (by kernel_rfl) (by kernel_rfl) (by kernel_rfl) (fun _ _ _ h => h) (Or.inl ⟨by kernel_rfl, fun _ _ => by kernel_rfl⟩) trivial ?_
                simp only [Act.put, List.setIfInBounds_toArray, List.set_cons_zero, List.set_cons_succ]
                refine wpAnyH_done (by kernel_rfl) ?_ _
                exact OnlyN.normal (hend wy67 _ _ _ _ _ _ _ _ _ _ _ _ ((Below.refl _ _).drew.trans hb))
          · skip
            refine next_op (v := f.val) (by kernel_rfl) (run_loadS_op f.cells (by kernel_rfl) (by kernel_rfl) rfl (facts_cells' hl hf)) trivial (fun _ => ?_)
            simp only [Act.put, List.setIfInBounds_toArray, List.set_cons_zero, List.set_cons_succ]
            refine wpAnyH_ready (rs := [5]) (by kernel_rfl) (by simp) ?_
            refine AllReadyH.cons (o := (⟨some 112, Op.load 71 (Operand.tmp 17), 71, "law.go:246", #[{ on := 4, ground := Ground.guard }], some (4, false)⟩)) rfl ?_ (AllReadyH.nil)
            · skip
              refine next_op (v := x.val) (by kernel_rfl) (run_loadS_op x.cells (by kernel_rfl) (by kernel_rfl) rfl (blk_cells hX)) trivial (fun _ => ?_)
              simp only [Act.put, List.setIfInBounds_toArray, List.set_cons_zero, List.set_cons_succ]
              refine wpAnyH_ready (rs := [10]) (by kernel_rfl) (by simp) ?_
              refine AllReadyH.cons (o := (⟨some 117, Op.call { callee := Callee.value (Operand.func 40), args := #[Operand.tmp 112, Operand.tmp 116], argTypes := #[71, 71] }, 4, "law.go:246", #[{ on := 5, ground := Ground.data }, { on := 9, ground := Ground.data }, { on := 4, ground := Ground.chain }, { on := 4, ground := Ground.guard }], some (4, false)⟩)) rfl ?_ (AllReadyH.nil)
              · skip
                refine next_call (f := 40) (args := #[x.val, f.val]) (by kernel_rfl) (by kernel_rfl) (SC) ?_
                rintro e wy70 ⟨rfl, hb⟩
                refine ⟨.bool true, rfl, trivial, fun _ => ?_⟩
                simp only [Act.put, List.setIfInBounds_toArray, List.set_cons_zero, List.set_cons_succ]
                refine wpAnyH_take (i := 11) (oi := (⟨some 118, Op.unOp UnOp.not 4 (Operand.tmp 117), 4, "law.go:246", #[{ on := 10, ground := Ground.data }, { on := 4, ground := Ground.guard }], some (4, false)⟩)) (v := .bool false) rfl (by kernel_rfl) (by kernel_rfl) (by kernel_rfl) (fun _ _ _ h => h) (Or.inl ⟨by kernel_rfl, fun _ _ => by kernel_rfl⟩) trivial ?_
                simp only [Act.put, List.setIfInBounds_toArray, List.set_cons_zero, List.set_cons_succ]
                refine wpAnyH_take (i := 12) (oi := (⟨some 119, Op.pick (Operand.tmp 111) (Operand.const (Value.bool true)) (Operand.tmp 118), 4, "law.go:246", #[{ on := 4, ground := Ground.data }, { on := 11, ground := Ground.data }], none⟩)) (v := .bool false) rfl (by kernel_rfl) (by kernel_rfl) (by kernel_rfl) (fun _ _ _ h => h) (Or.inl ⟨by kernel_rfl, fun _ _ => by kernel_rfl⟩) trivial ?_
                simp only [Act.put, List.setIfInBounds_toArray, List.set_cons_zero, List.set_cons_succ]
                refine wpAnyH_done (by kernel_rfl) ?_ _
                exact OnlyN.normal (hend wy70 _ _ _ _ _ _ _ _ _ _ _ _ ((Below.refl _ _).drew.trans hb))
end Go.Proofs.Ytadgaphgomagkaa
