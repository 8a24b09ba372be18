/- The abstract array: operations told apart; their fields. -/
import Derived.Test.YthhpcilinkebeaaDoorHc
namespace Go.Proofs.YthhpcilinkebeaaDoor
open Go.RowKit Go.Maps
set_option maxHeartbeats 4000000
set_option maxRecDepth 100000

/-- the type by which an operation is told apart -/
def typT (k : Int) : Option TypeId :=
  if k = 1 then some 83 else if k = 2 then some 84 else if k = 3 then some 85 else if k = 4 then some 86 else if k = 5 then some 87
  else if k = 6 then some 88 else if k = 7 then some 89 else if k = 8 then some 90 else if k = 9 then some 128 else none
def OM.typed (o : OM) : Value := match typT o.kind with | some t => .iface t o.val | none => .nilIface
theorem kinds (k : Int) : k = 1 ∨ k = 2 ∨ k = 3 ∨ k = 4 ∨ k = 5 ∨ k = 6 ∨ k = 7 ∨ k = 8 ∨ k = 9 ∨ (k ≠ 1 ∧ k ≠ 2 ∧ k ≠ 3 ∧ k ≠ 4 ∧ k ≠ 5 ∧ k ≠ 6 ∧ k ≠ 7 ∧ k ≠ 8 ∧ k ≠ 9) := by omega
theorem typed_any (o : OM) (w : World) : Calls Tryd.prog 39 #[o.val] w fun x w' => x = .returned o.typed ∧ Below w.heap.size w w' := by
  have hb := (Below.refl w.heap.size w).alloc (Nat.le_refl _) (.cells o.cells.toArray 33)
  have hB := Blk.new w 33 o.cells.toArray
  obtain ⟨k, nm, ds, at_, n, A, l, c⟩ := o
  simp only [OM.val, OM.cells] at *
  have c0 := hB.cell 0
  have c1 := hB.cell 1
  have c2 := hB.cell 2
  have c3 := hB.cell 3
  have c4 := hB.cell 4
  have c5 := hB.cell 5
  rcases kinds k with rfl | rfl | rfl | rfl | rfl | rfl | rfl | rfl | rfl | ⟨h1, h2, h3, h4, h5, h6, h7, h8, h9⟩
  case inr.inr.inr.inr.inr.inr.inr.inr.inr =>
    have e1 : (k == 1) = false := by simp [h1]
    have e2 : (k == 2) = false := by simp [h2]
    have e3 : (k == 3) = false := by simp [h3]
    have e4 : (k == 4) = false := by simp [h4]
    have e5 : (k == 5) = false := by simp [h5]
    have e6 : (k == 6) = false := by simp [h6]
    have e7 : (k == 7) = false := by simp [h7]
    have e8 : (k == 8) = false := by simp [h8]
    have e9 : (k == 9) = false := by simp [h9]
    have HT : Hid (OM.typed ⟨k, nm, ds, at_, n, A, l, c⟩ = .nilIface) := Lib.hid (by simp [OM.typed, typT, h1, h2, h3, h4, h5, h6, h7, h8, h9])
    clear h1 h2 h3 h4 h5 h6 h7 h8 h9
    generalize OM.typed ⟨k, nm, ds, at_, n, A, l, c⟩ = R at *
    go_enter Tryd.func39, Tryd.ntmps39
    go_wp2_with fail
    go_ret
    exact ⟨by rw [HT.out]; rfl, hb⟩
  all_goals
    go_enter Tryd.func39, Tryd.ntmps39
    go_wp2_with fail
    go_ret
    exact ⟨rfl, hb⟩

def OM.fit (o : OM) (t at_ n data : Bool) : Bool := (t || decide (o.dst.toList = [])) && (at_ || (o.at_ == 0)) && (n || (o.n == 0)) && (data || ((o.l.length : Int) == 0))
theorem only_any (o : OM) (g : Nat) (t a b d : Bool) (w : World) (hB : Blk w g 33 o.cells.toArray) :
    Calls Tryd.prog 58 #[.bool t, .bool a, .bool b, .bool d, .pointer (some ⟨g, 0, none⟩)] w fun x w' => x = .returned (.bool (o.fit t a b d)) ∧ w' = w := by
  obtain ⟨k, nm, ds, at_, n, A, l, c⟩ := o
  simp only [OM.cells] at hB
  have c2 := hB.cell 2
  have c3 := hB.cell 3
  have c4 := hB.cell 4
  have c5 := hB.cell 5
  have HF : Hid (OM.fit ⟨k, nm, ds, at_, n, A, l, c⟩ t a b d = ((t || decide (ds.toList = [])) && (a || (at_ == 0)) && (b || (n == 0)) && (d || ((l.length : Int) == 0)))) := Lib.hid rfl
  generalize OM.fit ⟨k, nm, ds, at_, n, A, l, c⟩ t a b d = R at *
  go_enter Tryd.func58, Tryd.ntmps58
  go_wp2_with fail
  all_goals (clear hB c2 c3 c4 c5; go_ret; refine ⟨?_, rfl⟩; rw [HF.out]; clear HF; simp_all)
end Go.Proofs.YthhpcilinkebeaaDoor
