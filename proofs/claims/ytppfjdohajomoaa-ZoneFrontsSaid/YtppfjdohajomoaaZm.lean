/- Drives on a power: what is refused. -/
import Derived.Test.YtppfjdohajomoaaZl
namespace Go.Proofs.Ytppfjdohajomoaa
open Go.RowKit
set_option maxHeartbeats 4000000
set_option maxRecDepth 100000

section
variable {w : World} {B D Z P pages size : Nat} {lost : Bool} {zs : List ZS} {off : Bool} {armed writes : Nat} {picks devs : Value}
theorem append_zone (h : DrAt w B D Z P pages size lost zs) (hp : PwAt w P off armed picks writes devs) (n : Int) (hE : zoneE off lost n zs.length ≠ 0) (x : Value) :
    Calls Try.prog 42 #[.pointer (some ⟨D, 0, none⟩), .int .i64 n, x] w fun e w' => e = .returned (.int .i64 (zoneE off lost n zs.length : Nat)) ∧ w = w' := by
  have hzn := zone_any w B D Z P pages size lost zs off armed writes picks devs n h hp
  generalize zoneE off lost n zs.length = E at *
  have k1 : ((E : Int) != 0) = true := by simp; omega
  go_enter Try.func42, Try.ntmps42
  go_wp2_with (go_at_call 79; refine hzn.mono ?_; rintro e w1 ⟨he, _, rfl⟩; obtain rfl := he hE)
  go_ret
  exact ⟨rfl, rfl⟩
theorem append_len (h : DrAt w B D Z P pages size lost zs) (hp : PwAt w P off armed picks writes devs) (n : Int) (hE : zoneE off lost n zs.length = 0) (A : Option Addr) (m c : Nat) (hm : m ≠ size) :
    Calls Try.prog 42 #[.pointer (some ⟨D, 0, none⟩), .int .i64 n, .slice A m c] w fun e w' => e = .returned (.int .i64 1) ∧ w = w' := by
  have hzn := zone_any w B D Z P pages size lost zs off armed writes picks devs n h hp
  generalize zoneE off lost n zs.length = E at *
  subst hE
  have k1 : ((m : Int) != (size : Int)) = true := by simp; omega
  have c3 := h.c3
  go_enter Try.func42, Try.ntmps42
  go_wp2_with (go_at_call 79; refine hzn.mono ?_; rintro e w1 ⟨_, he, rfl⟩; obtain rfl := he rfl)
  go_ret
  exact ⟨rfl, rfl⟩
theorem append_full (h : DrAt w B D Z P pages size lost zs) (hp : PwAt w P off armed picks writes devs) (n : Nat) (hn : n < zs.length) (hE : zoneE off lost (n : Nat) zs.length = 0) (A : Option Addr) (m c : Nat) (hm : m = size) (hfull : zs[n].pg.length = pages) :
    Calls Try.prog 42 #[.pointer (some ⟨D, 0, none⟩), .int .i64 (n : Nat), .slice A m c] w fun e w' => e = .returned (.int .i64 5) ∧ ∃ k, w' = w.drewN k := by
  have hzn := zone_any w B D Z P pages size lost zs off armed writes picks devs (n : Nat) h hp
  generalize zoneE off lost (n : Nat) zs.length = E at *
  subst hE
  have k1 : ((m : Int) != (size : Int)) = false := by simp; omega
  have k2 : ((zs[n].pg.length : Int) == (pages : Int)) = true := by simp; omega
  have c2 := h.c2
  have c3 := h.c3
  have z0 := h.z0 n hn
  clear hm hfull
  generalize zs[n] = z at *
  go_enter Try.func42, Try.ntmps42
  go_upto_region 6 with (first
    | (go_at_call 79; refine hzn.mono ?_; rintro e w1 ⟨_, he, rfl⟩; obtain rfl := he rfl))
  go_quiet (fail)
  go_wp2
  go_ret
  exact ⟨rfl, _, rfl⟩
theorem append_down (h : DrAt w B D Z P pages size lost zs) (hp : PwAt w P off armed picks writes devs) (n : Nat) (hn : n < zs.length) (hE : zoneE off lost (n : Nat) zs.length = 0) (A : Option Addr) (m c : Nat) (hm : m = size) (hfull : zs[n].pg.length ≠ pages)
    {Q : World → Prop} (hq : ∀ k, Calls Try.prog 80 #[.pointer (some ⟨P, 0, none⟩)] (w.drewN k) fun e w' => e = .returned (.bool false) ∧ Q w') :
    Calls Try.prog 42 #[.pointer (some ⟨D, 0, none⟩), .int .i64 (n : Nat), .slice A m c] w fun e w' => e = .returned (.int .i64 8) ∧ Q w' := by
  have hzn := zone_any w B D Z P pages size lost zs off armed writes picks devs (n : Nat) h hp
  generalize zoneE off lost (n : Nat) zs.length = E at *
  subst hE
  have k1 : ((m : Int) != (size : Int)) = false := by simp; omega
  have k2 : ((zs[n].pg.length : Int) == (pages : Int)) = false := by simp; omega
  have c0 := h.c0
  have c2 := h.c2
  have c3 := h.c3
  have z0 := h.z0 n hn
  clear hm hfull
  generalize zs[n] = z at *
  go_enter Try.func42, Try.ntmps42
  go_upto_region 6 with (first
    | (go_at_call 79; refine hzn.mono ?_; rintro e w1 ⟨_, he, rfl⟩; obtain rfl := he rfl))
  go_quiet (fail)
  go_wp2_with (go_at_call 80; refine (hq _).mono ?_; rintro e w2 ⟨rfl, hQ⟩)
  go_ret
  exact ⟨rfl, hQ⟩
theorem flush_no (h : DrAt w B D Z P pages size lost zs) (hp : PwAt w P off armed picks writes devs) (hE : readyE off lost ≠ 0) :
    Calls Try.prog 46 #[.pointer (some ⟨D, 0, none⟩)] w fun e w' => e = .returned (.int .i64 (readyE off lost : Nat)) ∧ w = w' := by
  have hr := ready_any w B D Z P pages size lost zs off armed writes picks devs h hp
  generalize readyE off lost = E at *
  have k1 : ((E : Int) != 0) = true := by simp; omega
  go_enter Try.func46, Try.ntmps46
  go_wp2_with (go_at_call 82; refine hr.mono ?_; rintro e w1 ⟨rfl, rfl⟩)
  go_ret
  exact ⟨rfl, rfl⟩
theorem flush_down (h : DrAt w B D Z P pages size lost zs) (hp : PwAt w P off armed picks writes devs) (hE : readyE off lost = 0)
    {Q : World → Prop} (hq : Calls Try.prog 80 #[.pointer (some ⟨P, 0, none⟩)] w fun e w' => e = .returned (.bool false) ∧ Q w') :
    Calls Try.prog 46 #[.pointer (some ⟨D, 0, none⟩)] w fun e w' => e = .returned (.int .i64 8) ∧ Q w' := by
  have hr := ready_any w B D Z P pages size lost zs off armed writes picks devs h hp
  generalize readyE off lost = E at *
  subst hE
  have c0 := h.c0
  go_enter Try.func46, Try.ntmps46
  go_wp2_with (first
    | (go_at_call 82; refine hr.mono ?_; rintro e w1 ⟨rfl, rfl⟩)
    | (go_at_call 80; refine hq.mono ?_; rintro e w2 ⟨rfl, hQ⟩))
  go_ret
  exact ⟨rfl, hQ⟩
theorem pointer_no (h : DrAt w B D Z P pages size lost zs) (hp : PwAt w P off armed picks writes devs) (n : Int) (hE : zoneE off lost n zs.length ≠ 0) :
    Calls Try.prog 48 #[.pointer (some ⟨D, 0, none⟩), .int .i64 n] w fun e w' => e = .returned (.tuple #[.int .i64 0, .int .i64 (zoneE off lost n zs.length : Nat)]) ∧ w = w' := by
  have hzn := zone_any w B D Z P pages size lost zs off armed writes picks devs n h hp
  generalize zoneE off lost n zs.length = E at *
  have k1 : ((E : Int) != 0) = true := by simp; omega
  go_enter Try.func48, Try.ntmps48
  go_wp2_with (go_at_call 79; refine hzn.mono ?_; rintro e w1 ⟨he, _, rfl⟩; obtain rfl := he hE)
  go_ret2
  exact ⟨rfl, rfl⟩
end
end Go.Proofs.Ytppfjdohajomoaa
