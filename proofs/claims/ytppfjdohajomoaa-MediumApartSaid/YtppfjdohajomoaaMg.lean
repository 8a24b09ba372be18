/- The law's known answers about mediums. -/
import Derived.Test.YtppfjdohajomoaaMp
import Derived.Deep.DeepCutAuto
namespace Go.Proofs.Ytppfjdohajomoaa
open Go.RowKit
set_option maxHeartbeats 2000000
set_option maxRecDepth 100000

theorem chain_row {T M depth next n id : Nat} {b : Int} {f : Nat → Option Med} {w : World} (L : List (Nat × Int)) (hL : chainP f depth id b = L) (hne : 0 < L.length) (h : TabAt w T M depth next n f) (hf : WFm f) (hd0 : 1 ≤ depth) (hd : depth ≤ 64) (hid : id < 18446744073709551616) (hb0 : -9223372036854775808 ≤ b) (hb1 : b ≤ 9223372036854775807) :
    Calls Try.prog 21 #[.pointer (some ⟨T, 0, none⟩), .int .u64 (id : Nat), .int .i64 b] w fun e w' => ∃ g c', e = .returned (.slice (some ⟨g, 0, none⟩) L.length c') ∧ L.length ≤ c' ∧
      w'.ownsRow w.heap.size 35 2 (.slice (some ⟨g, 0, none⟩) L.length c') L.length (plcs L) ∧ Below w.heap.size w w' := by
  subst hL
  refine (chain_any T M depth next n id b f w h hf hd0 hd hid hb0 hb1).mono ?_
  rintro e w' ⟨A', c', rfl, ho, hb⟩
  obtain ⟨g, cap, hv, _⟩ := ho.form hne
  injection hv with e1 _ e2
  subst e1 e2
  exact ⟨g, _, rfl, (own_cap ho).1, ho, hb⟩

def kf1 : Nat → Option Med := upd (fun _ => none) 1 (some ⟨1, 0, 0, 10, false⟩)
def kf2 : Nat → Option Med := upd kf1 1 ((kf1 1).map fixM)
def kf3 : Nat → Option Med := upd kf2 2 (some ⟨2, 1, 4, 5, false⟩)
def kf4 : Nat → Option Med := upd kf3 3 (some ⟨3, 1, 4, 9, false⟩)
theorem kwf1 : WFm kf1 := WFm.none_.put _ _ (by decide)
theorem kwf2 : WFm kf2 := kwf1.fix _
theorem kwf3 : WFm kf3 := kwf2.put _ _ (by decide)
theorem kwf4 : WFm kf4 := kwf3.put _ _ (by decide)
theorem kc2 : chainP kf4 4 2 3 = [(2, 3), (1, 7)] := by decide +kernel
theorem kc3 : chainP kf4 4 3 6 = [(3, 6)] := by decide +kernel
theorem kd2 : deepP kf4 4 2 = 2 := by decide +kernel
theorem ke1 : makeE (fun _ => none) 4 10 0 0 = 0 := by decide +kernel
theorem ke2 : makeE kf2 4 5 1 4 = 0 := by decide +kernel
theorem ke3 : makeE kf3 4 9 1 4 = 0 := by decide +kernel

theorem medKnown_any (w : World) : Calls Try.prog 15 #[] w fun e w' => e = .returned (.bool true) ∧ Below w.heap.size w w' := by
  have hk1 := fun (W : World) (T M : Nat) (h : TabAt W T M 4 1 0 (fun _ => none)) => (make_any T M 4 1 0 0 10 0 (fun _ => none) W h WFm.none_ (by omega) (by omega) (by omega) (by omega)).mono fun e w' hp => hp.2 ke1
  have hk2 := fun (W : World) (T M : Nat) (h : TabAt W T M 4 2 1 kf1) => fix_any T M 4 2 1 1 kf1 W h (by omega) (by omega)
  have hk3 := fun (W : World) (T M : Nat) (h : TabAt W T M 4 2 2 kf2) => (make_any T M 4 2 2 1 5 4 kf2 W h kwf2 (by omega) (by omega) (by omega) (by omega)).mono fun e w' hp => hp.2 ke2
  have hk4 := fun (W : World) (T M : Nat) (h : TabAt W T M 4 3 3 kf3) => (make_any T M 4 3 3 1 9 4 kf3 W h kwf3 (by omega) (by omega) (by omega) (by omega)).mono fun e w' hp => hp.2 ke3
  have hk5 := fun (W : World) (T M : Nat) (h : TabAt W T M 4 4 4 kf4) => chain_row [(2, 3), (1, 7)] kc2 (by decide) h kwf4 (by omega) (by omega) (by omega) (by omega) (by omega)
  have hk6 := fun (W : World) (T M : Nat) (h : TabAt W T M 4 4 4 kf4) => chain_row [(3, 6)] kc3 (by decide) h kwf4 (by omega) (by omega) (by omega) (by omega) (by omega)
  have hk7 := fun (W : World) (T M : Nat) (h : TabAt W T M 4 4 4 kf4) => deep_any T M 4 4 4 2 kf4 W h kwf4 (by omega) (by omega)
  simp only [kd2] at hk7
  go_enter Try.func15, Try.ntmps15
  go_upto_region 10 with (first
    | (go_at_call 16; refine (medNew_any 4 _ (by omega) (by omega)).mono ?_; rintro e w1 ⟨T, M, rfl, h1, hT, hM, hb1⟩)
    | (go_at_call 21; have _h := hb6; refine (hk6 _ _ _ (h5.below hb6)).mono ?_; rintro e w7 ⟨g7, c7, rfl, hc7, ho7, hb7⟩)
    | (go_at_call 21; refine (hk5 _ _ _ h5).mono ?_; rintro e w6 ⟨g6, c6, rfl, hc6, ho6, hb6⟩)
    | (go_at_call 17; have _h := h4; refine (hk4 _ _ _ h4).mono ?_; rintro e w5 ⟨rfl, h5, ht5⟩)
    | (go_at_call 17; have _h := h3; refine (hk3 _ _ _ h3).mono ?_; rintro e w4 ⟨rfl, h4, ht4⟩)
    | (go_at_call 18; refine (hk2 _ _ _ h2).mono ?_; rintro e w3 ⟨rfl, h3, ht3⟩)
    | (go_at_call 17; refine (hk1 _ _ _ h1).mono ?_; rintro e w2 ⟨rfl, h2, ht2⟩))
  have h7 := (h5.below hb6).below hb7
  have o7 := own_below ho6 hb7
  have e2 : w7.cell? ⟨g6, 2, none⟩ = some (.int .u64 1) := by rw [o7.cellAt 2 (by decide)]; rfl
  have e3 : w7.cell? ⟨g6, 3, none⟩ = some (.int .i64 7) := by rw [o7.cellAt 3 (by decide)]; rfl
  have hbx : Below w.heap.size w w5 := (((ht2.toBelow hb1 hT hM hb1.size).trans (ht3.toBelow (Below.refl _ _) hT hM (Nat.le_trans hb1.size ht2.size))).trans (ht4.toBelow (Below.refl _ _) hT hM (Nat.le_trans hb1.size (Nat.le_trans ht2.size ht3.size)))).trans (ht5.toBelow (Below.refl _ _) hT hM (Nat.le_trans hb1.size (Nat.le_trans ht2.size (Nat.le_trans ht3.size ht4.size))))
  have hby : Below w.heap.size w w7 := hbx.trans ((hb6.trans (hb7.mono hb6.size)).mono hbx.size)
  clear hk1 hk2 hk3 hk4 hk5 hk6 ht2 ht3 ht4 ht5 h1 h2 h3 h4 h5 o7 ho6 ho7
  go_wp2_with (go_at_call 19; refine (hk7 _ _ _ h7).mono ?_; rintro e w8 ⟨rfl, hb8⟩)
  go_ret
  exact ⟨rfl, hby.trans (hb8.mono hby.size)⟩
end Go.Proofs.Ytppfjdohajomoaa
