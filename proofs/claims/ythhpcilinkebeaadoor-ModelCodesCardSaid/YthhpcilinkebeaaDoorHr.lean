/- The abstract array: entries laid in, taken out; words for these operations. -/
import Derived.Test.YthhpcilinkebeaaDoorHq
import Derived.Test.YthhpcilinkebeaaDoorHj
namespace Go.Proofs.YthhpcilinkebeaaDoor
open Go.RowKit Go.Maps
set_option maxHeartbeats 4000000
set_option maxRecDepth 100000

theorem MpX.tight {K : Type} [DecidableEq K] {κ : KK K} {w : World} {M n : Nat} {f : K → Option Value} {ks : List K} (h : MpX κ w M n f) (hk : Keys f ks) : MpX κ w M ks.length f := by
  obtain ⟨D, h1, h2, h3⟩ := h
  have hsz := keys_size h1 h2 hk
  obtain ⟨es, clock, hb, F, hs, hD⟩ := h1
  refine ⟨D, ⟨es, clock, hb, F, ?_, hD⟩, h2, h3⟩
  rw [← hsz, hD, Maps.size_eq, length_read]
  exact Nat.le_refl _
theorem Chg.of_grown {w w' : World} {b : Nat} (h : w.grownBy w' (some b)) : Chg (fun k => k = b) w w' :=
  ⟨h.os, h.tape, h.output, h.size, fun k hk hn => h.block k hk fun e => by injection e with e; exact hn e⟩
section
variable {P : Program} {ρ : Operand → Value} {d : Option Tmp} {ty : TypeId} {pos : String} {af : Array Edge} {g : Option (Nat × Bool)} {w : World}
theorem run_delete_op {t k : TypeId} {x y : Operand} {m u v : Value} {w' : World} (hx : ρ x = m) (hy : ρ y = u) (h : (Builtin.delete_ #[t, k] ty #[m, u]).run P w = .ok v w') : (execOp ρ ⟨d, .call { callee := .builtin .delete, args := #[x, y], argTypes := #[t, k] }, ty, pos, af, g⟩).run P w = .ok (.value v) w' := by
  subst hx hy
  simp [execOp, resolve, invoke, builtin, h, Result.andThen]
theorem run_mapset_op {t : TypeId} {x y z : Operand} {m u v : Value} {w' : World} (hx : ρ x = m) (hy : ρ y = u) (hz : ρ z = v) (h : (Instr.mapUpdate t m u v).run P w = .ok () w') : (execOp ρ ⟨d, .mapUpdate t x y z, ty, pos, af, g⟩).run P w = .ok .skip w' := by
  subst hx hy hz
  simp [execOp, h]
theorem run_makeMap_op {t : TypeId} (h : (Instr.makeMap t none).run P w = .ok (.map (some w.heap.size)) (w.alloc (.map #[] 0))) : (execOp ρ ⟨d, .makeMap t none, ty, pos, af, g⟩).run P w = .ok (.value (.map (some w.heap.size))) (w.alloc (.map #[] 0)) := by
  simp [execOp, h]
theorem run_boxS_op {t : TypeId} {x : Operand} {cs : Array Value} (hx : ρ x = .agg cs) (h : (Instr.box t (.agg cs)).run P w = .ok (.pointer (some ⟨w.heap.size, 0, none⟩)) (w.alloc (.cells cs t))) : (execOp ρ ⟨d, .box t x, ty, pos, af, g⟩).run P w = .ok (.value (.pointer (some ⟨w.heap.size, 0, none⟩))) (w.alloc (.cells cs t)) := by
  simp only [execOp, hx]
  simp [h]
end
theorem run_storeI_op {P : Program} {ρ : Operand → Value} {d : Option Tmp} {ty : TypeId} {pos : String} {af : Array Edge} {g : Option (Nat × Bool)} {w : World} {t : TypeId} {x y : Operand} {ad : Addr} {k : IntKind} {n : Int} {u : Value} (hz : (sizeOf t).run P w = .ok 1 w) (hx : ρ x = .pointer (some ad)) (hy : ρ y = .int k n) (hc : w.cell? ad = some u) (hf : w.frozen? ad = false) :
    (execOp ρ ⟨d, .store t x y, ty, pos, af, g⟩).run P w = .ok .skip (w.setCell ad (.int k n)) := by
  simp [execOp, hx, hy, Instr.storeAt, Instr.sureAddr, storeVar, hz, hc, hf, go_sem]
section
variable {w : World} {A M block quota : Nat} {ms : List VM}
theorem kStr_val (s : ByteArray) : kStr.val (strB s) = .string s := by show Value.string _ = _; rw [bts_str]
theorem ArrAt.drop (h : ArrAt w A M block quota ms) (s : ByteArray) (hs : s.size ≤ 1048576) (ty : TypeId) :
    ∃ w', (Builtin.delete_ #[78, 9] ty #[.map (some M), .string s]).run Tryd.prog w = .ok (.tuple #[]) w' ∧ ArrAt w' A M block quota (delM ms (strB s)) ∧ Chg (fun k => k = M) w w' := by
  obtain ⟨n, hn⟩ := h.mp
  obtain ⟨w', hrun, h1, h2⟩ := hn.drop (x := strB s) (show (strB s).length ≤ maxLen from Nat.le_trans hs (by decide)) (t := 78) (e := 91) Tryd.underlying78 ty
  rw [kStr_val] at hrun
  have hc := Chg.of_grown h2.grown
  refine ⟨w', hrun, h.del (strB s) ⟨n, ?_⟩ hc, hc⟩
  have e : MpF (delM ms (strB s)) = updX (MpF ms) (strB s) none := by
    funext x
    unfold MpF updX
    rw [getM_del h.sorted]
    by_cases e : x = strB s <;> simp [e]
  rw [e]
  exact h1
theorem ArrAt.lay (h : ArrAt w A M block quota ms) (s : ByteArray) (hs : s.size ≤ 1048576) (m : VM) (hm : m.name = strB s) :
    ∃ w', (Instr.mapUpdate 78 (.map (some M)) (.string s) m.ptr).run Tryd.prog w = .ok () w' ∧ (∃ n, MpX kStr w' M n (MpF (putM ms m))) ∧ Chg (fun k => k = M) w w' := by
  obtain ⟨n, hn⟩ := h.mp
  have ht := hn.tight (keysM h.sorted)
  rw [List.length_map] at ht
  obtain ⟨w', hrun, h1, h2⟩ := ht.store (x := strB s) (show (strB s).length ≤ maxLen from Nat.le_trans hs (by decide)) (t := 78) (e := 91) Tryd.underlying78 (by have := h.few; unfold maxLen; omega) m.ptr
  rw [kStr_val] at hrun
  refine ⟨w', hrun, ⟨ms.length + 1, ?_⟩, Chg.of_grown h2.grown⟩
  have e : MpF (putM ms m) = updX (MpF ms) (strB s) (some m.ptr) := by
    funext x
    unfold MpF updX
    rw [getM_put m h.sorted, hm]
    by_cases e : x = strB s <;> simp [e]
  rw [e]
  exact h1
/-- a new volume is laid in -/
theorem ArrAt.put1 (h : ArrAt w A M block quota ms) {W : World} (hb : Below w.heap.size w W) (s : ByteArray) (hs : s.size ≤ 1048576) (m : VM) (hm : m.name = strB s) (hv : VolAt W block m) (hV : w.heap.size ≤ m.V) (hB : w.heap.size ≤ m.Bm)
    (hnew : getM ms (strB s) = none) (hlen : ms.length + 1 ≤ 1024) (hq : usedM ms + m.size ≤ quota) :
    ∃ w', (Instr.mapUpdate 78 (.map (some M)) (.string s) m.ptr).run Tryd.prog W = .ok () w' ∧ ArrAt w' A M block quota (putM ms m) ∧ Chg (fun k => k = M) w w' := by
  obtain ⟨n0, hm0⟩ := h.mp
  have hMl := hm0.lt
  obtain ⟨w', hrun, hmp, hc⟩ := (h.below hb).lay s hs m hm
  have hMW : IsMp W M := (hm0.below hb).isMp
  have hpg : ∀ k, k = M → ¬ Has W k 5 := fun k e hh => by subst e; exact hh.notMp hMW
  have hc2 : Chg (fun k => k = M) w w' := (Chg.of_below hb).trans hc
  exact ⟨w', hrun, h.put m (by rw [hm]; exact hnew) (hv.keep hc (by omega) (by omega) hpg) hmp hc2 hV hB hlen hq, hc2⟩
theorem VolAt.new (w : World) (block n : Nat) (hn : n ≤ 1048576) (nm : Bts) : VolAt ((w.alloc (.map #[] 0)).alloc (.cells #[.int .i64 (n : Nat), .bool false, .map (some w.heap.size)] 95)) block ⟨nm, (w.alloc (.map #[] 0)).heap.size, w.heap.size, n, false, fun _ => none⟩ :=
  ⟨Blk.new _ _ _, ⟨0, (MpX.made (κ := kInt) w).alloc _⟩, fun i s h => (by cases h), fun i s h => (by cases h), hn⟩
theorem ArrAt.look1 (h : ArrAt w A M block quota ms) (s : ByteArray) (hs : s.size ≤ 1048576) {m : VM} (hm : getM ms (strB s) = some m) :
    (Instr.lookup 78 (.map (some M)) (.string s) false).run Tryd.prog w = .ok (.pointer (some ⟨m.V, 0, none⟩)) w := by
  obtain ⟨n, hn⟩ := h.mp
  have := hn.look1 (x := strB s) (show (strB s).length ≤ maxLen from Nat.le_trans hs (by decide)) (t := 78) (e := 91) Tryd.underlying78 (zeroPtr w)
  rw [kStr_val] at this
  rw [this]
  unfold MpF
  rw [hm]
  rfl
end
end Go.Proofs.YthhpcilinkebeaaDoor
