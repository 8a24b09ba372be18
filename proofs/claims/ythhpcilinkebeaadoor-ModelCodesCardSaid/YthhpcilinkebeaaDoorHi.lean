/- The abstract array: may there be a new volume? -/
import Derived.Test.YthhpcilinkebeaaDoorHh
namespace Go.Proofs.YthhpcilinkebeaaDoor
open Go.RowKit Go.Maps
set_option maxHeartbeats 4000000
set_option maxRecDepth 100000

def avM (block quota : Nat) (ms : List VM) : AV := ⟨block, quota, ms.map fun m => (m.name, m.vv)⟩
theorem zeroPtr (w : World) : (zeroValue 91).run Tryd.prog w = .ok (.pointer none) w := by kernel_rfl
section
variable {w : World} {A M block quota : Nat} {ms : List VM}
theorem ArrAt.look (h : ArrAt w A M block quota ms) (s : ByteArray) (hs : s.size ≤ 1048576) :
    (Instr.lookup 78 (.map (some M)) (.string s) true).run Tryd.prog w = .ok (.tuple #[((getM ms (strB s)).map VM.ptr).getD (.pointer none), .bool (getM ms (strB s)).isSome]) w := by
  obtain ⟨n, hn⟩ := h.mp
  have := hn.look (x := strB s) (show (strB s).length ≤ maxLen from Nat.le_trans hs (by decide)) (t := 78) (e := 91) Tryd.underlying78 (zeroPtr w)
  have e : kStr.val (strB s) = .string s := by show Value.string _ = _; rw [bts_str]
  rw [e] at this
  rw [this]
  unfold MpF
  cases getM ms (strB s) <;> rfl
theorem freshV_M (s : Bts) (x : Int) : freshV (avM block quota ms) s x = firstV [whenV (getM ms s).isSome 9, whenV (decide (1024 ≤ ms.length)) 2, whenV (decide ((quota : Int) - usedM ms < x)) 10] := by
  unfold freshV avM
  rw [getM_vv, usedM_vv]
  simp
theorem fresh_any (h : ArrAt w A M block quota ms) (s : ByteArray) (x : Int) (hs : s.size ≤ 1048576) :
    Calls Tryd.prog 52 #[.pointer (some ⟨A, 0, none⟩), .string s, .int .i64 x] w fun e w' => e = .returned (.int .i64 (freshV (avM block quota ms) (strB s) x : Nat)) ∧ Below w.heap.size w w' := by
  rw [freshV_M]
  have c2 := h.blk.cell 2
  have hlk := h.look s hs
  generalize (getM ms (strB s)).isSome = has at *
  generalize ((getM ms (strB s)).map VM.ptr).getD (.pointer none) = p at *
  go_enter Tryd.func52, Tryd.ntmps52
  go_upto_region 2 with fail
  refine regFs2 h ?_
  intro w2 _ _ _ _ _ _ _ _ _ _ _ _ _ _ _ _ _ _ _ _ _ hb
  go_wp2_with fail
  go_ret
  exact ⟨rfl, hb⟩
end
end Go.Proofs.YthhpcilinkebeaaDoor
