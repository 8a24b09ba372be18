/- The log's device: writes taken back, a cut. -/
import Derived.Test.YtadgaphgomagkaaVe
namespace Go.Proofs.Ytadgaphgomagkaa
open Go.RowKit
set_option maxHeartbeats 2000000
set_option maxRecDepth 100000

theorem undo_any (w : World) (B D P G : Nat) (bs : List UInt8) (us : List Un) (uA : Option Addr) (uc : Nat) (h : NvAt w B D P G bs us uA uc) (hbl : bs.length ≤ 67108864) (u : Un) (hu : u.ok w D G) (hlt : u.at_ + u.i < bs.length) :
    Calls Try.prog 54 #[.pointer (some ⟨u.W, 0, none⟩), .pointer (some ⟨u.C, 0, none⟩), .pointer (some ⟨u.T, 0, none⟩), .pointer (some ⟨u.I, 0, none⟩)] w fun e w' => e = .returned (.tuple #[]) ∧ NvAt w' B D P G (bs.set (u.at_ + u.i) u.was) us uA uc ∧ Chg (fun k => k = G) w w' := by
  obtain ⟨W, C, T, I, a, i, was⟩ := u
  obtain ⟨u1, u2, u3, u4, u5⟩ := hu
  simp only at u1 u2 u3 u4 u5 hlt ⊢
  have hw : IntKind.i64.wrap ((a : Int) + (i : Int)) = ((a + i : Nat) : Int) := by
    rw [IntWalk.i64_in _ (by omega)]; omega
  generalize a + i = p at *
  have c1 := h.drew.c1
  have d1 : w.drew.cell? ⟨W, 0, none⟩ = some (byt was) := u1.drew.cell 0
  have d2 : w.drew.cell? ⟨C, 0, none⟩ = some (.pointer (some ⟨D, 0, none⟩)) := u2.drew.cell 0
  have d3 : w.drew.cell? ⟨T, 0, none⟩ = some (.int .i64 (a : Nat)) := u3.drew.cell 0
  have d4 : w.drew.cell? ⟨I, 0, none⟩ = some (.int .i64 (i : Nat)) := u4.drew.cell 0
  have cg := h.drew.cb p hlt
  have fg : w.drew.frozen? ⟨G, p, none⟩ = false := h.drew.bys.frozen p
  have r1 : (p : Int) < (bs.length : Int) := by omega
  have hpk := h.drew.poke p was
  have hch : Chg (fun k => k = G) w (w.setCell ⟨G, p, none⟩ (byt was)).drew := (Chg.set (S := fun k => k = G) (Chg.refl _ _) rfl _ _).drew
  unfold byt at d1 cg hpk hch
  go_enter Try.func54, Try.ntmps54
  go_region_law (fail)
  all_goals
    go_end0
    exact ⟨rfl, hpk, hch⟩

end Go.Proofs.Ytadgaphgomagkaa
