/- The log's device with its power: what is written, persisted, refused. -/
import Derived.Test.YtadgaphgomagkaaRa
namespace Go.Proofs.Ytadgaphgomagkaa
open Go.RowKit
set_option maxHeartbeats 2000000
set_option maxRecDepth 100000

/-- what a write on the power may be: refused, cut, or done -/
def DownE (off : Bool) (armed : Nat) : Bool := off || armed == 1
section
variable {w w1 : World} {B D P G m : Nat} {off : Bool} {armed : Nat} {picks : List Int} {kept : List UInt8} {L : List (Nat × UInt8)}
theorem p_off (h : NvP w B D P G kept L off armed picks m) : Calls Try.prog 29 #[.pointer (some ⟨P, 0, none⟩)] w fun e w' => e = .returned (.bool off) ∧ w = w' := by
  obtain ⟨us, uA, uc, h1, h2, h3, h4, h5⟩ := h
  obtain ⟨pA, pc, dA, dc, hp1, _⟩ := h3.at_
  exact off_any w P off armed m _ _ hp1
theorem p_on (h : NvP w B D P G kept L off armed picks m) : Calls Try.prog 28 #[.pointer (some ⟨P, 0, none⟩)] w fun e w' => e = .returned (.tuple #[]) ∧ NvP w' B D P G kept L false armed picks m ∧ ChgN B G w w' := by
  obtain ⟨us, uA, uc, h1, h2, h3, h4, h5⟩ := h
  obtain ⟨pA, pc, dA, dc, hp1, _⟩ := h3.at_
  refine (on_any w P off armed m _ _ hp1).mono ?_
  rintro e w' ⟨rfl, k1, k2⟩
  have hN : ChgN B G w w' := ChgN.of k2 fun k _ hk => by rw [show k = P from hk]; exact ⟨h3.low, .inr ⟨_, .inl rfl, hp1.blk.has⟩⟩
  exact ⟨rfl, ⟨us, uA, uc, h1.keepP hp1.blk.has k2, h2, h3.afterN hp1 h1.bys.has hN k1, Nat.le_trans h4 k2.size, h5⟩, hN⟩
theorem p_pending (h : NvP w B D P G kept L off armed picks m) :
    Calls Try.prog 23 #[.pointer (some ⟨D, 0, none⟩)] w fun e w' => e = .returned (.int .i64 (L.length : Nat)) ∧ w = w' := by
  obtain ⟨us, uA, uc, h1, h2, h3, h4, h5⟩ := h
  rw [← h2.len]
  exact pending_any w B D P G _ us uA uc h1
theorem p_persist (h : NvP w B D P G kept L false armed picks m) (ha : armed ≠ 1) (ha2 : armed ≤ 9223372036854775807) (hm : m ≤ 4611686018427387904) :
    Calls Try.prog 21 #[.pointer (some ⟨D, 0, none⟩)] w fun e w' => e = .returned (.int .i64 0) ∧ NvP w' B D P G (app kept L) [] false (armed - 1) picks (m + 1) ∧ ChgN B G w w' := by
  obtain ⟨us, uA, uc, h1, h2, h3, h4, h5⟩ := h
  obtain ⟨pA, pc, dA, dc, hp1, _⟩ := h3.at_
  refine (persist_ok w B D P G _ us uA uc h1 armed m _ _ hp1 ha ha2 hm h3.low).mono ?_
  rintro e w' ⟨rfl, k1, k2, k3⟩
  exact ⟨rfl, ⟨[], none, 0, k1, link_nil _, h3.afterN hp1 h1.bys.has k3 k2, Nat.le_trans h4 k3.size, by rw [app_length]; exact h5⟩, k3⟩
theorem p_persist_off (h : NvP w B D P G kept L true armed picks m) :
    Calls Try.prog 21 #[.pointer (some ⟨D, 0, none⟩)] w fun e w' => e = .returned (.int .i64 8) ∧ w = w' := by
  have hof := p_off h
  obtain ⟨us, uA, uc, h1, h2, h3, h4, h5⟩ := h
  have c0 := h1.c0
  go_enter Try.func21, Try.ntmps21
  go_wp2_with (go_at_call 29; refine hof.mono ?_; rintro e w1 ⟨rfl, rfl⟩)
  go_ret
  exact ⟨rfl, rfl⟩
theorem p_persist_down (h : NvP w B D P G kept L false 1 picks m) (hL : L.length ≤ 2000000) :
    Calls Try.prog 21 #[.pointer (some ⟨D, 0, none⟩)] w fun e w' => e = .returned (.int .i64 8) ∧ NvP w' B D P G (app kept (L.take (keptW picks L.length))) [] true 0 picks m ∧ ChgN B G w w' := by
  have hof := p_off h
  have hdn := p_down h hL
  obtain ⟨us, uA, uc, h1, h2, h3, h4, h5⟩ := h
  have c0 := h1.c0
  go_enter Try.func21, Try.ntmps21
  go_wp2_with (first
    | (go_at_call 29; refine hof.mono ?_; rintro e w1 ⟨rfl, rfl⟩)
    | (go_at_call 53; refine hdn.mono ?_; rintro e w1 ⟨rfl, hd1, hc1⟩))
  go_ret
  exact ⟨rfl, hd1, hc1⟩
theorem p_read (h : NvP w B D P G kept L false armed picks m) (a n : Nat) (ht : a + n ≤ kept.length) :
    Calls Try.prog 25 #[.pointer (some ⟨D, 0, none⟩), .int .i64 (a : Nat), .int .i64 (n : Nat)] w fun e w' => ∃ A' c', e = .returned (.tuple #[.slice A' n c', .int .i64 0]) ∧ w'.ownsRow w.heap.size 5 1 (.slice A' n c') n (byts (((app kept L).drop a).take n)) ∧ Below w.heap.size w w' := by
  obtain ⟨us, uA, uc, h1, h2, h3, h4, h5⟩ := h
  obtain ⟨pA, pc, dA, dc, hp1, _⟩ := h3.at_
  exact read_ok w B D P G _ us uA uc h1 (by rw [app_length]; exact h5) armed m _ _ hp1 a n (by rw [app_length]; exact ht)
theorem p_read_off (h : NvP w B D P G kept L true armed picks m) (a n : Int) :
    Calls Try.prog 25 #[.pointer (some ⟨D, 0, none⟩), .int .i64 a, .int .i64 n] w fun e w' => e = .returned (.tuple #[.slice none 0 0, .int .i64 8]) ∧ w = w' := by
  have hof := p_off h
  obtain ⟨us, uA, uc, h1, h2, h3, h4, h5⟩ := h
  have c0 := h1.c0
  go_enter Try.func25, Try.ntmps25
  go_wp2_with (go_at_call 29; refine hof.mono ?_; rintro e w1 ⟨rfl, rfl⟩)
  go_ret2
  exact ⟨rfl, rfl⟩
end
end Go.Proofs.Ytadgaphgomagkaa
