/- The log's device: its small functions. -/
import Derived.Test.YtadgaphgomagkaaVd
import Derived.Deep.RegionLaw
import Derived.Deep.RegionWith
namespace Go.Proofs.Ytadgaphgomagkaa
open Go.RowKit
set_option maxHeartbeats 2000000
set_option maxRecDepth 100000

theorem within_any (w : World) (B D P G : Nat) (bs : List UInt8) (us : List Un) (uA : Option Addr) (uc : Nat) (h : NvAt w B D P G bs us uA uc) (hbl : bs.length ≤ 67108864) (a m : Int) (hm : 0 ≤ m) :
    Calls Try.prog 52 #[.pointer (some ⟨D, 0, none⟩), .int .i64 a, .int .i64 m] w fun e w' => e = .returned (.bool (fitsB bs.length a m)) ∧ w = w' := by
  have c1 := h.c1
  unfold fitsB
  by_cases h1 : 0 ≤ a
  · by_cases h2 : a ≤ (bs.length : Int)
    · have h4 : wrap64 ((bs.length : Int) - a) = (bs.length : Int) - a := IntWalk.wrap64_in _ (by omega)
      go_enter Try.func52, Try.ntmps52
      go_wp2
      go_ret
      exact ⟨by simp [h1, h2, hm], rfl⟩
    · go_enter Try.func52, Try.ntmps52
      go_wp2
      go_ret
      exact ⟨by simp; omega, rfl⟩
  · go_enter Try.func52, Try.ntmps52
    go_wp2
    go_ret
    exact ⟨by simp; omega, rfl⟩
theorem pending_any (w : World) (B D P G : Nat) (bs : List UInt8) (us : List Un) (uA : Option Addr) (uc : Nat) (h : NvAt w B D P G bs us uA uc) :
    Calls Try.prog 23 #[.pointer (some ⟨D, 0, none⟩)] w fun e w' => e = .returned (.int .i64 (us.length : Nat)) ∧ w = w' := by
  have c2 := h.c2
  go_enter Try.func23, Try.ntmps23
  go_wp2
  go_ret
  exact ⟨rfl, rfl⟩
theorem size_any (w : World) (B D P G : Nat) (bs : List UInt8) (us : List Un) (uA : Option Addr) (uc : Nat) (h : NvAt w B D P G bs us uA uc) :
    Calls Try.prog 49 #[.pointer (some ⟨D, 0, none⟩)] w fun e w' => e = .returned (.int .i64 (bs.length : Nat)) ∧ w = w' := by
  have c2 := h.c1
  go_enter Try.func49, Try.ntmps49
  go_wp2
  go_ret
  exact ⟨rfl, rfl⟩
/-- a power's turn leaves a device -/
theorem NvAt.keepP {w w1 : World} {B D P G Q : Nat} {bs : List UInt8} {us : List Un} {uA : Option Addr} {uc : Nat} (h : NvAt w B D P G bs us uA uc) (hQ : Has w Q 98) (hc : Chg (fun k => k = Q) w w1) : NvAt w1 B D P G bs us uA uc :=
  h.keep hc fun k hk => ⟨98, by rw [show k = Q from hk]; exact hQ, by decide, by decide, by decide, by decide, by decide⟩
theorem PwAt.below {w w1 : World} {P : Nat} {off : Bool} {armed writes : Nat} {picks devs : Value} (h : PwAt w P off armed picks writes devs) (hb : Below w.heap.size w w1) : PwAt w1 P off armed picks writes devs := ⟨h.blk.below' hb⟩

theorem persist_ok (w : World) (B D P G : Nat) (bs : List UInt8) (us : List Un) (uA : Option Addr) (uc : Nat) (h : NvAt w B D P G bs us uA uc) (armed writes : Nat) (picks devs : Value) (hp : PwAt w P false armed picks writes devs) (ha : armed ≠ 1) (ha2 : armed ≤ 9223372036854775807) (hw : writes ≤ 4611686018427387904) (hBP : B ≤ P) :
    Calls Try.prog 21 #[.pointer (some ⟨D, 0, none⟩)] w fun e w' => e = .returned (.int .i64 0) ∧ NvAt w' B D P G bs [] none 0 ∧ PwAt w' P false (armed - 1) picks (writes + 1) devs ∧ ChgN B G w w' := by
  have c0 := h.c0
  have hof := off_any w P false armed writes picks devs hp
  have hwr := write_ok w P armed writes picks devs hp ha ha2 hw
  go_enter Try.func21, Try.ntmps21
  go_wp2_with (first
    | (go_at_call 29; refine hof.mono ?_; rintro e w1 ⟨rfl, rfl⟩)
    | (go_at_call 53; refine hwr.mono ?_; rintro e w1 ⟨rfl, hp1, hc1⟩; have h1 := h.keepP hp.blk.has hc1; have f1 := h1.dev.frozen 2; have c2 := h1.c2))
  go_ret
  have hcD : Chg (fun k => k = D) w1 (w1.setCell ⟨D, 2, none⟩ (.slice none 0 0)) := Chg.set (S := fun k => k = D) (Chg.refl _ _) rfl _ _
  refine ⟨rfl, h1.wipe, ⟨hp1.blk.keep hcD (hp1.blk.has.ne h1.dev.has (by decide))⟩, ChgN.trans (ChgN.of hc1 fun k _ hk => ?_) (ChgN.of hcD fun k _ hk => ?_)⟩
  · rw [show k = P from hk]; exact ⟨hBP, .inr ⟨_, .inl rfl, hp.blk.has⟩⟩
  · rw [show k = D from hk]; exact ⟨h1.low.1, .inr ⟨_, .inr (.inl rfl), h1.dev.has⟩⟩
theorem read_ok (w : World) (B D P G : Nat) (bs : List UInt8) (us : List Un) (uA : Option Addr) (uc : Nat) (h : NvAt w B D P G bs us uA uc) (hbl : bs.length ≤ 67108864) (armed writes : Nat) (picks devs : Value) (hp : PwAt w P false armed picks writes devs) (a n : Nat) (ht : a + n ≤ bs.length) :
    Calls Try.prog 25 #[.pointer (some ⟨D, 0, none⟩), .int .i64 (a : Nat), .int .i64 (n : Nat)] w fun e w' => ∃ A' c', e = .returned (.tuple #[.slice A' n c', .int .i64 0]) ∧ w'.ownsRow w.heap.size 5 1 (.slice A' n c') n (byts ((bs.drop a).take n)) ∧ Below w.heap.size w w' := by
  have c0 := h.c0
  have c1 := h.c1
  have hof := off_any w P false armed writes picks devs hp
  have hwi := within_any w B D P G bs us uA uc h hbl (a : Nat) (n : Nat) (by omega)
  have hfb : fitsB bs.length (a : Nat) (n : Nat) = true := by unfold fitsB; simp; omega
  rw [hfb] at hwi
  have h1 : Rd w (some ⟨G, 0, none⟩) (byts bs) := by
    have := Rd.of_block (g := G) h.bys
    simpa using this
  have hlen : ((bs.drop a).take n).length = n := by rw [List.length_take, List.length_drop]; omega
  have hcl := fun (A : Option Addr) (c : Nat) (hr : Rd w A (byts ((bs.drop a).take n))) => clone_any A c ((bs.drop a).take n) w hr (by rw [hlen]; omega)
  rw [hlen] at hcl
  have hr0 : Rd w (if bs.length = a then some ⟨G, 0, none⟩ else (some (⟨G, 0, none⟩ : Addr)).map (·.add a)) (byts ((bs.drop a).take n)) := by
    have := (h1.drop a bs.length (by simp [byts])).take n
    simpa [byts, List.map_drop, List.map_take] using this
  by_cases hab : bs.length = a
  · rw [if_pos hab] at hr0
    have hn0 : n = 0 := by omega
    subst hn0
    go_enter Try.func25, Try.ntmps25
    go_wp2_with (first
      | (go_at_call 29; refine hof.mono ?_; rintro e w1 ⟨rfl, rfl⟩)
      | (go_at_call 52; refine hwi.mono ?_; rintro e w1 ⟨rfl, rfl⟩)
      | (go_at_call 55; refine (hcl _ _ hr0).mono ?_; rintro e w1 ⟨A2, c2, rfl, ho2, hb2⟩))
    go_ret2
    exact ⟨A2, c2, rfl, ho2, hb2⟩
  · rw [if_neg hab] at hr0
    simp only [Option.map_some] at hr0
    have ea : (⟨G, 0, none⟩ : Addr).add a = ⟨G, a, none⟩ := by simp [Addr.add]; exact fun h => h.symm
    rw [ea] at hr0
    go_enter Try.func25, Try.ntmps25
    go_wp2_with (first
      | (go_at_call 29; refine hof.mono ?_; rintro e w1 ⟨rfl, rfl⟩)
      | (go_at_call 52; refine hwi.mono ?_; rintro e w1 ⟨rfl, rfl⟩)
      | (go_at_call 55; refine (hcl _ _ hr0).mono ?_; rintro e w1 ⟨A2, c2, rfl, ho2, hb2⟩))
    go_ret2
    exact ⟨A2, c2, rfl, ho2, hb2⟩
end Go.Proofs.Ytadgaphgomagkaa
