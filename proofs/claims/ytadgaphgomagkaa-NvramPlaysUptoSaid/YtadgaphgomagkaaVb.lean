/- Power: made, on or off, written; a device hung on. -/
import Derived.Test.YtadgaphgomagkaaVa
namespace Go.Proofs.Ytadgaphgomagkaa
open Go.RowKit
set_option maxHeartbeats 2000000
set_option maxRecDepth 100000

/-- a power in memory; what hangs on it is not looked at -/
structure PwAt (w : World) (P : Nat) (off : Bool) (armed : Nat) (picks : Value) (writes : Nat) (devs : Value) : Prop where
  blk : Blk w P 98 #[.bool off, .int .i64 (armed : Nat), picks, .int .i64 (writes : Nat), devs]
theorem newPower_any (w : World) : Calls Try.prog 16 #[] w fun e w' => e = .returned (.pointer (some ⟨w.heap.size, 0, none⟩)) ∧ PwAt w' w.heap.size false 0 (.slice none 0 0) 0 (.slice none 0 0) ∧ Below w.heap.size w w' := by
  go_enter Try.func16, Try.ntmps16
  go_wp2
  go_ret
  exact ⟨rfl, ⟨Blk.new w 98 _⟩, (Below.refl _ _).alloc (Nat.le_refl _) _⟩

theorem off_any (w : World) (P : Nat) (off : Bool) (armed writes : Nat) (picks devs : Value) (h : PwAt w P off armed picks writes devs) :
    Calls Try.prog 29 #[.pointer (some ⟨P, 0, none⟩)] w fun e w' => e = .returned (.bool off) ∧ w = w' := by
  have c0 : w.cell? ⟨P, 0, none⟩ = some (.bool off) := h.blk.cell 0
  go_enter Try.func29, Try.ntmps29
  go_wp2
  go_ret
  exact ⟨rfl, rfl⟩
theorem on_any (w : World) (P : Nat) (off : Bool) (armed writes : Nat) (picks devs : Value) (h : PwAt w P off armed picks writes devs) :
    Calls Try.prog 28 #[.pointer (some ⟨P, 0, none⟩)] w fun e w' => e = .returned (.tuple #[]) ∧ PwAt w' P false armed picks writes devs ∧ Chg (fun k => k = P) w w' := by
  have c0 : w.cell? ⟨P, 0, none⟩ = some (.bool off) := h.blk.cell 0
  have f0 : w.frozen? ⟨P, 0, none⟩ = false := h.blk.frozen 0
  go_enter Try.func28, Try.ntmps28
  go_wp2
  go_end0
  exact ⟨rfl, ⟨by simpa using h.blk.set 0 (.bool false)⟩, Chg.set (S := fun k => k = P) (Chg.refl _ _) rfl 0 _⟩

theorem write_off (w : World) (P : Nat) (armed writes : Nat) (picks devs : Value) (h : PwAt w P true armed picks writes devs) :
    Calls Try.prog 53 #[.pointer (some ⟨P, 0, none⟩)] w fun e w' => e = .returned (.bool false) ∧ w = w' := by
  have c0 : w.cell? ⟨P, 0, none⟩ = some (.bool true) := h.blk.cell 0
  go_enter Try.func53, Try.ntmps53
  go_wp2
  go_ret
  exact ⟨rfl, rfl⟩
theorem write_ok (w : World) (P : Nat) (armed writes : Nat) (picks devs : Value) (h : PwAt w P false armed picks writes devs) (ha : armed ≠ 1) (ha2 : armed ≤ 9223372036854775807) (hw : writes ≤ 4611686018427387904) :
    Calls Try.prog 53 #[.pointer (some ⟨P, 0, none⟩)] w fun e w' => e = .returned (.bool true) ∧ PwAt w' P false (armed - 1) picks (writes + 1) devs ∧ Chg (fun k => k = P) w w' := by
  have c0 : w.cell? ⟨P, 0, none⟩ = some (.bool false) := h.blk.cell 0
  have c1 : w.cell? ⟨P, 1, none⟩ = some (.int .i64 (armed : Nat)) := h.blk.cell 1
  have c3 : w.cell? ⟨P, 3, none⟩ = some (.int .i64 (writes : Nat)) := h.blk.cell 3
  have f1 : w.frozen? ⟨P, 1, none⟩ = false := h.blk.frozen 1
  have f3 : w.frozen? ⟨P, 3, none⟩ = false := h.blk.frozen 3
  have k1 : ((armed : Int) == 1) = false := by simp; omega
  have hblk := h.blk
  go_enter Try.func53, Try.ntmps53
  go_wp2
  · go_ret
    have e : ((armed - 1 : Nat) : Int) = 0 := by omega
    refine ⟨rfl, ⟨?_⟩, Chg.set (S := fun k => k = P) (Chg.set (S := fun k => k = P) (Chg.refl _ _) rfl 1 _) rfl 3 _⟩
    rw [e]
    simpa using (hblk.set 1 (.int .i64 0)).set 3 (.int .i64 ((writes : Int) + 1))
  · go_ret
    have e : ((armed - 1 : Nat) : Int) = (armed : Int) - 1 := by omega
    refine ⟨rfl, ⟨?_⟩, Chg.set (S := fun k => k = P) (Chg.set (S := fun k => k = P) (Chg.refl _ _) rfl 1 _) rfl 3 _⟩
    rw [e]
    simpa using (hblk.set 1 (.int .i64 ((armed : Int) - 1))).set 3 (.int .i64 ((writes : Int) + 1))

theorem slPg : SlT Try.prog 99 35 (.slice none 0 0) 1 24 := ⟨Try.underlying99, by kernel_rfl, rfl, by decide⟩
def devV (D : Nat) : Value := .iface 25 (.pointer (some ⟨D, 0, none⟩))
theorem slDv : SlT Try.prog 96 146 .nilIface 1 16 := ⟨Try.underlying96, by kernel_rfl, rfl, by decide⟩
/-- the first device hangs itself on -/
theorem attach_any (w : World) (P D : Nat) (off : Bool) (armed writes : Nat) (picks : Value) (h : PwAt w P off armed picks writes (.slice none 0 0)) :
    Calls Try.prog 50 #[.pointer (some ⟨P, 0, none⟩), devV D] w fun e w' => e = .returned (.tuple #[]) ∧ ∃ A c, PwAt w' P off armed picks writes (.slice A 1 c) ∧ w'.ownsRow w.heap.size 146 1 (.slice A 1 c) 1 [devV D] ∧ Chg (fun k => k = P) w w' := by
  have c4 : w.cell? ⟨P, 4, none⟩ = some (.slice none 0 0) := h.blk.cell 4
  have hPlt := h.blk.lt
  have hblk := fun w1 (hc : Chg (fun k => ∃ ad : Addr, (none : Option Addr) = some ad ∧ k = ad.block) (w.alloc (.cells #[devV D] 146)) w1) => (h.blk.alloc (.cells #[devV D] 146)).keep hc (by rintro ⟨ad, e, _⟩; cases e)
  have hrd : Rd (w.alloc (.cells #[devV D] 146)) (some ⟨w.heap.size, 0, none⟩) [devV D] := Rd.one w _ _
  have hap : Ap (w.alloc (.cells #[devV D] 146)) w.heap.size 146 1 (.slice none 0 0) 0 [] := .inl (World.ownsRow_nil _ _ _ _)
  unfold devV at hrd hblk hap ⊢
  go_enter Try.func50, Try.ntmps50
  go_wp2_with (at_builtin; refine wpList_apz rfl _ _ rfl slDv w.heap.size none 0 0 [] rfl hap (some ⟨w.heap.size, 0, none⟩) _ rfl hrd rfl (by unfold maxLen; omega) (by omega) (by simp) ?_; intro A4 c4 w4 ho4 hc4 hA4; have zk := hblk w4 hc4; have y4 : w4.cell? ⟨P, 4, none⟩ = some (.slice none 0 0) := zk.cell 4; have f4 : w4.frozen? ⟨P, 4, none⟩ = false := zk.frozen 4)
  go_end0
  have hcP : Chg (fun k => k = P) w4 (w4.setCell ⟨P, 4, none⟩ (.slice A4 1 c4)) := Chg.set (S := fun k => k = P) (Chg.refl _ _) rfl _ _
  refine ⟨rfl, A4, c4, ⟨?_⟩, ?_, ((Chg.alloc (Chg.refl _ _) _).trans (hc4.mono fun k _ hk => by obtain ⟨ad, e, _⟩ := hk; cases e)).trans hcP⟩
  · simpa using zk.set 4 (.slice A4 1 c4)
  · refine own_keepC (by simpa using ho4) hcP fun k hk e => ?_
    subst e
    have := (ho4.lt k (by simpa using hk)).1
    omega
end Go.Proofs.Ytadgaphgomagkaa
