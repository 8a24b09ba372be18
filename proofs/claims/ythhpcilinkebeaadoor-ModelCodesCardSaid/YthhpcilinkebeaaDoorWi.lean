/- Words for regions that draw their order: loads, rows built, any of those that may come next. -/
import Derived.Test.YthhpcilinkebeaaDoorWh
import Derived.Great.BuildSlice
namespace Go.Proofs.YthhpcilinkebeaaDoor
open Go.RowKit
set_option maxHeartbeats 1000000
set_option maxRecDepth 100000

section
variable {P : Program} {ρ : Operand → Value} {d : Option Tmp} {ty : TypeId} {pos : String} {af : Array Edge} {g : Option (Nat × Bool)} {w : World}
theorem run_conv2_op {s t : TypeId} {x : Operand} {u v : Value} {w' : World} (hx : ρ x = u) (h : (convert s t u).run P w = .ok v w') : (execOp ρ ⟨d, .convert s t x, ty, pos, af, g⟩).run P w = .ok (.value v) w' := by
  subst hx
  simp [execOp, h]
/-- a load of one cell -/
theorem run_load1_op {t : TypeId} {x : Operand} {ad : Addr} {v : Value} (ha : (isAgg t).run P w = .ok false w) (hx : ρ x = .pointer (some ad)) (hc : w.cell? ad = some v) : (execOp ρ ⟨d, .load t x, ty, pos, af, g⟩).run P w = .ok (.value v) w := by
  simp [execOp, hx, Instr.loadAt, Instr.sureAddr, loadVar, ha, hc]
/-- a load of a struct -/
theorem run_loadS_op {t : TypeId} {x : Operand} {ad : Addr} (cs : List Value) (ha : (isAgg t).run P w = .ok true w) (hz : (sizeOf t).run P w = .ok cs.length w) (hx : ρ x = .pointer (some ad)) (hc : ∀ j v, cs[j]? = some v → w.cell? (ad.add j) = some v) : (execOp ρ ⟨d, .load t x, ty, pos, af, g⟩).run P w = .ok (.value (.agg cs.toArray)) w := by
  have h := run_loadCells_list (P := P) w ad cs hc
  simp [execOp, hx, Instr.loadAt, Instr.sureAddr, loadVar, ha, hz, h]
theorem run_sub1_op {t : TypeId} {x y : Operand} {a : Nat} (hx : ρ x = .int .i64 ((a + 1 : Nat) : Nat)) (hy : ρ y = .int .i64 1) (h : a + 1 ≤ 9223372036854775807) : (execOp ρ ⟨d, .binOp .sub t x y t, ty, pos, af, g⟩).run P w = .ok (.value (.int .i64 (a : Nat))) w := by
  have e : IntKind.i64.wrap (((a + 1 : Nat) : Int) - 1) = (a : Int) := by rw [IntWalk.i64_in _ (by omega)]; omega
  simp only [execOp, hx, hy]
  simp [eqGuard, go_sem]
  simpa using e
theorem run_geq0_op {t : TypeId} {x y : Operand} {a : Int} (hx : ρ x = .int .i64 a) (hy : ρ y = .int .i64 0) : (execOp ρ ⟨d, .binOp .geq t x y t, ty, pos, af, g⟩).run P w = .ok (.value (.bool (decide (0 ≤ a)))) w := by
  simp [execOp, hx, hy, eqGuard, go_sem]
theorem run_index_op {t e : TypeId} {x ix : Operand} {ad : Addr} {n c i size : Nat} (hu : P.underlying t = some (.slice e)) (hz : (sizeOf e).run P w = .ok size w) (hx : ρ x = .slice (some ad) n c) (hi : ρ ix = .int .i64 (i : Nat)) (h : i < n) : (execOp ρ ⟨d, .indexAddr t x ix, ty, pos, af, g⟩).run P w = .ok (.value (.pointer (some (ad.add (i * size))))) w := by
  simp only [execOp, hx, hi]
  simp [Instr.indexAt, go_sem, run_underlying hu, hz, h]
theorem run_buildSlice_op {t e : TypeId} {len : Nat} {parts : Array (Nat × Operand)} (cells : Array Value) (z : Value) {size : Nat}
    (hu : P.underlying t = some (.slice e)) (hie : (P.info? e).map (fun i => (i.zero, i.size)) = some (some z, size)) (hsmall : ¬ len * size > 2 ^ 24) (hpos : ¬ len * size = 0)
    (h : Instr.fill (fun i => some (i * size, size)) ((Array.range (len * size)).map (z.cells[· % z.cells.size]!)) (parts.map fun (i, x) => (i, ρ x)).toList = some cells) :
    (execOp ρ ⟨d, .buildSlice t len parts, ty, pos, af, g⟩).run P w = .ok (.value (.slice (some ⟨w.heap.size, 0, none⟩) len len)) (w.alloc (.cells cells e)) := by
  obtain ⟨ie, h1, h2⟩ := Option.map_eq_some_iff.1 hie
  simp only [Prod.mk.injEq] at h2
  have hr := run_buildSlice (P := P) w t e len (parts.map fun (i, x) => (i, ρ x)) cells ie z hu h1 h2.1 (by rw [h2.2]; exact hsmall) (by rw [h2.2]; exact hpos) (by rw [h2.2]; exact h)
  simp only [execOp]
  simp [hr]
end
/-- of those that may come next one is a call of a Go function -/
theorem next_call {P : Program} {Q : Exit → Act → World → Prop} {S : World → Prop} {fuel i : Nat} {ops : Array Oper} {listed : Array Bool} {a : Act} {w : World} {o : Oper} {f : FuncId} {args : Array Value} {post : Ending → World → Prop}
    (hw : Region.wanted o (yielded ops a.tmps) = true) (he : (execOp a.eval o).run P w = .ok (.enter f args) w) (hc : Calls P f args w post)
    (hp : ∀ e w', post e w' → ∃ v, e = .returned v ∧ S w' ∧ (S w' → wpAnyH P .any ops Q S fuel (listed.setIfInBounds i true) (a.put o.dst v) w')) :
    ∀ K : Act → World → Prop, Shut (∀ a w, S w → (S w → wpAnyH P .any ops Q S fuel (listed.setIfInBounds i true) a w) → K a w) → if Region.wanted o (yielded ops a.tmps) = true then Oper.wp P o a w K Q else K (a.put o.dst undef) w := by
  intro K hK
  rw [if_pos hw]
  unfold Oper.wp
  rw [he]
  refine hc.mono fun e w' h => ?_
  obtain ⟨v, rfl, hS, hn⟩ := hp e w' h
  exact hK.out _ _ hS hn
/-- of those that may come next one yields a value, in a world that may be another -/
theorem next_op {P : Program} {Q : Exit → Act → World → Prop} {S : World → Prop} {fuel i : Nat} {ops : Array Oper} {listed : Array Bool} {a : Act} {w w' : World} {o : Oper} {v : Value}
    (hw : Region.wanted o (yielded ops a.tmps) = true) (he : (execOp a.eval o).run P w = .ok (.value v) w') (hS : S w')
    (hn : S w' → wpAnyH P .any ops Q S fuel (listed.setIfInBounds i true) (a.put o.dst v) w') :
    ∀ K : Act → World → Prop, Shut (∀ a w, S w → (S w → wpAnyH P .any ops Q S fuel (listed.setIfInBounds i true) a w) → K a w) → if Region.wanted o (yielded ops a.tmps) = true then Oper.wp P o a w K Q else K (a.put o.dst undef) w := by
  intro K hK
  rw [if_pos hw]
  unfold Oper.wp
  rw [he]
  exact hK.out _ _ hS hn
/-- .. or stores -/
theorem next_skip {P : Program} {Q : Exit → Act → World → Prop} {S : World → Prop} {fuel i : Nat} {ops : Array Oper} {listed : Array Bool} {a : Act} {w w' : World} {o : Oper}
    (hw : Region.wanted o (yielded ops a.tmps) = true) (he : (execOp a.eval o).run P w = .ok .skip w') (hS : S w')
    (hn : S w' → wpAnyH P .any ops Q S fuel (listed.setIfInBounds i true) (a.put o.dst undef) w') :
    ∀ K : Act → World → Prop, Shut (∀ a w, S w → (S w → wpAnyH P .any ops Q S fuel (listed.setIfInBounds i true) a w) → K a w) → if Region.wanted o (yielded ops a.tmps) = true then Oper.wp P o a w K Q else K (a.put o.dst undef) w := by
  intro K hK
  rw [if_pos hw]
  unfold Oper.wp
  rw [he]
  exact hK.out _ _ hS hn
end Go.Proofs.YthhpcilinkebeaaDoor
