/- The abstract array: each operation. -/
import Derived.Test.YthhpcilinkebeaaDoorHs
import Derived.Test.YthhpcilinkebeaaDoorHu
namespace Go.Proofs.YthhpcilinkebeaaDoor
open Go.RowKit Go.Maps
set_option maxHeartbeats 4000000
set_option maxRecDepth 100000

def zAns : Array Value := #[.int .i64 0, .slice none 0 0, .slice none 0 0]
theorem stAns : StT Tryd.prog 36 3 := ⟨⟨_, Tryd.underlying36⟩, by kernel_rfl⟩
section
variable {w w' : World} {A M block quota : Nat} {ms : List VM}
theorem ArrAt.keepT (h : ArrAt w A M block quota ms) {S : Nat → Prop} (hc : Chg S w w') (hS : ∀ k, S k → ∃ t, Has w k t ∧ t ≠ 80 ∧ t ≠ 95 ∧ t ≠ 5) : ArrAt w' A M block quota ms := by
  obtain ⟨n0, hm0⟩ := h.mp
  have hpg : ∀ k, S k → ¬ Has w k 5 := fun k hk hh => by obtain ⟨t, ht, _, _, h3⟩ := hS k hk; exact h3 (Classical.byContradiction fun e => ht.ne hh e rfl)
  refine ⟨h.blk.keep hc fun hs => ?_, ⟨n0, hm0.keepC hc fun hs => ?_⟩, fun x hx => ?_, h.sorted, h.vs, h.bs, h.bm, h.b1, h.b2, h.q, h.few, h.used⟩
  · obtain ⟨t, ht, h1, _, _⟩ := hS _ hs; exact h1 (Classical.byContradiction fun e => ht.ne h.blk.has e rfl)
  · obtain ⟨t, ht, _⟩ := hS _ hs; exact ht.notMp hm0.isMp
  · obtain ⟨n1, hb1⟩ := (h.vol x hx).mp
    refine (h.vol x hx).keep hc (fun hs => ?_) (fun hs => ?_) hpg
    · obtain ⟨t, ht, _, h2, _⟩ := hS _ hs; exact h2 (Classical.byContradiction fun e => ht.ne (h.vol x hx).blk.has e rfl)
    · obtain ⟨t, ht, _⟩ := hS _ hs; exact ht.notMp hb1.isMp
def setA (w : World) (R : Nat) (a b c : Value) : World := ((w.setCell ⟨R, 0, none⟩ a).setCell ⟨R, 1, none⟩ b).setCell ⟨R, 2, none⟩ c
theorem chg_setA (w : World) (R : Nat) (a b c : Value) : Chg (fun k => k = R) w (setA w R a b c) := (((Chg.refl (fun k => k = R) w).set (g := R) rfl 0 a).set (g := R) rfl 1 b).set (g := R) rfl 2 c
theorem Blk.setA {R : Nat} {x y z : Value} (h : Blk w R 36 #[x, y, z]) (a b c : Value) : Blk (setA w R a b c) R 36 #[a, b, c] := ((h.set 0 a).set 1 b).set 2 c
/-- the answer's block is filled -/
theorem ArrAt.answer (h : ArrAt w' A M block quota ms) {S : Nat → Prop} {R : Nat} {cs0 : Array Value} (hc : Chg S w w') (hR : Blk w' R 36 cs0) (hnew : w.heap.size ≤ R) (a b c : Value) :
    ArrAt (setA w' R a b c) A M block quota ms ∧ Chg S w (setA w' R a b c) := by
  have hr := chg_setA w' R a b c
  exact ⟨h.keepT hr fun k e => ⟨36, e ▸ hR.has, by decide, by decide, by decide⟩, hc.trans' hr fun k hk e => by omega⟩
/-- how each operation ends -/
theorem ans_end {fn : Func} (hfn : fn.results = #[.cell 4 36]) {tmps : Array Value} {R : Nat} {a b c : Value} {post : Ending → World → Prop} {W : World} (hp : tmps.getD 4 undef = .pointer (some ⟨R, 0, none⟩)) (hB : Blk W R 36 #[a, b, c])
    (h : post (.returned (.agg #[a, b, c])) W) : bodyPost Tryd.prog fn post .ret ⟨tmps, []⟩ W :=
  bodyPost_ret (results_cell_row hfn _ _ R 36 #[a, b, c] (0, 0) _ hp hB Tryd.underlying36 rfl (by kernel_rfl)) rfl h
/-- an array is turned: its volumes then -/
structure Turn (w w' : World) (A M block quota : Nat) (ms : List VM) (vols : List (Bts × VV)) (ms' : List VM) : Prop where
  arr : ArrAt w' A M block quota ms'
  vol : ms'.map (fun m => (m.name, m.vv)) = vols
  chg : Chg (Foot M ms) w w'
  foot : ∀ k, Foot M ms' k → Foot M ms k ∨ w.heap.size ≤ k
abbrev volsM (ms : List VM) : List (Bts × VV) := ms.map fun m => (m.name, m.vv)
def TurnP (w w' : World) (A M block quota : Nat) (ms : List VM) (vols : List (Bts × VV)) : Prop := ∃ ms', Turn w w' A M block quota ms vols ms'
end
end Go.Proofs.YthhpcilinkebeaaDoor
