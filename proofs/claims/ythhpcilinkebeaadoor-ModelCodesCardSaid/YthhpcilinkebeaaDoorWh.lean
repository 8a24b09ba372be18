/- Words for regions that draw their order: single operations, a call that alone may come next. -/
import Derived.Test.YthhpcilinkebeaaDoorWd
import Derived.Deep.RegionHeld3
namespace Go.Proofs.YthhpcilinkebeaaDoor
open Go.RowKit
set_option maxHeartbeats 1000000
set_option maxRecDepth 100000

section
variable {P : Program} {ρ : Operand → Value} {d : Option Tmp} {ty : TypeId} {pos : String} {af : Array Edge} {g : Option (Nat × Bool)} {w : World}
theorem run_convert_op {s t : TypeId} {x : Operand} {u v : Value} (hx : ρ x = u) (h : (convert s t u).run P w = .ok v w) : (execOp ρ ⟨d, .convert s t x, ty, pos, af, g⟩).run P w = .ok (.value v) w := by
  subst hx
  simp [execOp, h]
theorem run_neq_str {t : TypeId} {x y : Operand} {s r : ByteArray} (hx : ρ x = .string s) (hy : ρ y = .string r) : (execOp ρ ⟨d, .binOp .neq t x y t, ty, pos, af, g⟩).run P w = .ok (.value (.bool (!(s.toList == r.toList)))) w := by
  simp [execOp, hx, hy, eqGuard, binOp, Op.stringOp, go_sem]
theorem run_add_nat {t : TypeId} {x y : Operand} {a b : Nat} (hx : ρ x = .int .i64 (a : Nat)) (hy : ρ y = .int .i64 (b : Nat)) (h : a + b ≤ 9223372036854775807) : (execOp ρ ⟨d, .binOp .add t x y t, ty, pos, af, g⟩).run P w = .ok (.value (.int .i64 ((a + b : Nat) : Nat))) w := by
  have e : IntKind.i64.wrap ((a : Int) + (b : Int)) = (a : Int) + (b : Int) := IntWalk.i64_in _ (by omega)
  simp [execOp, hx, hy, eqGuard, go_sem, e]
theorem run_neq_same {t : TypeId} {x y : Operand} {s : ByteArray} (hx : ρ x = .string s) (hy : ρ y = .string s) : (execOp ρ ⟨d, .binOp .neq t x y t, ty, pos, af, g⟩).run P w = .ok (.value (.bool false)) w := by
  rw [run_neq_str hx hy]
  simp
theorem run_eql_same {t : TypeId} {x y : Operand} {s : ByteArray} (hx : ρ x = .string s) (hy : ρ y = .string s) : (execOp ρ ⟨d, .binOp .eql t x y t, ty, pos, af, g⟩).run P w = .ok (.value (.bool true)) w := by
  simp [execOp, hx, hy, eqGuard, binOp, Op.stringOp, go_sem]
end
theorem held_call {P : Program} {ops : Array Oper} {Q : Exit → Act → World → Prop} {S : World → Prop} {fuel i : Nat} {listed : Array Bool} {a : Act} {w : World} {o : Oper} {f : FuncId} {args : Array Value} {post : Ending → World → Prop}
    (ho : ops[i]? = some o) (hr : Region.ready .any ops listed = [i]) (hw : Region.wanted o (yielded ops a.tmps) = true) (he : (execOp a.eval o).run P w = .ok (.enter f args) w) (hc : Calls P f args w post)
    (hp : ∀ e w', post e w' → ∃ v, e = .returned v ∧ S w' ∧ (S w' → wpAnyH P .any ops Q S fuel (listed.setIfInBounds i true) (a.put o.dst v) w')) : wpAnyH P .any ops Q S (fuel + 1) listed a w := by
  refine wpAnyH_ready hr (by simp) (AllReadyH.cons ho (fun K hK => ?_) AllReadyH.nil)
  rw [if_pos hw]
  unfold Oper.wp
  rw [he]
  refine hc.mono fun e w' h => ?_
  obtain ⟨v, rfl, hS, hn⟩ := hp e w' h
  exact hK.out _ _ hS hn
/-- the only operation that may come next yields a value and leaves the world -/
theorem held_op {P : Program} {ops : Array Oper} {Q : Exit → Act → World → Prop} {S : World → Prop} {fuel i : Nat} {listed : Array Bool} {a : Act} {w : World} {o : Oper} {v : Value}
    (ho : ops[i]? = some o) (hr : Region.ready .any ops listed = [i]) (hw : Region.wanted o (yielded ops a.tmps) = true) (he : (execOp a.eval o).run P w = .ok (.value v) w) (hS : S w)
    (hp : wpAnyH P .any ops Q S fuel (listed.setIfInBounds i true) (a.put o.dst v) w) : wpAnyH P .any ops Q S (fuel + 1) listed a w := by
  refine wpAnyH_ready hr (by simp) (AllReadyH.cons ho (fun K hK => ?_) AllReadyH.nil)
  rw [if_pos hw]
  unfold Oper.wp
  rw [he]
  exact hK.out _ _ hS fun _ => hp
end Go.Proofs.YthhpcilinkebeaaDoor
