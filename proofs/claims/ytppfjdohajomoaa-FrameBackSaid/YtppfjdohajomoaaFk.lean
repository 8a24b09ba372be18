/- The reference's records are written. -/
import Derived.Test.YtppfjdohajomoaaFj
namespace Go.Proofs.Ytppfjdohajomoaa
open Go.RowKit
set_option maxHeartbeats 1000000
set_option maxRecDepth 100000

theorem refRecord_any (A : Option Addr) (c seq : Nat) (x : List UInt8) (w : World) (hr : Rd w A (byts x)) (hx : x.length ≤ 70368744177664) :
    Calls Try.prog 34 #[.int .u64 seq, .slice A x.length c] w fun e w' => ∃ A' c' out, e = .returned (.slice A' out.length c') ∧ out = recB seq x ∧
      w'.ownsRow w.heap.size 5 1 (.slice A' out.length c') out.length (byts out) ∧ Below w.heap.size w w' := by
  have hlow := Low_any none 0 seq 8 w.heap.size [] 0 w (World.ownsRow_nil _ _ _ _) (Nat.le_refl _) (by omega) (by omega)
  simp only [Nat.zero_add, List.nil_append] at hlow
  have hS8 : (lowB seq 8).length = 8 := lowB_length _ _
  generalize hS : lowB seq 8 = S at *
  have HS := Lib.hid hS
  have HS8 := Lib.hid hS8
  have hN10 : (numB x.length).length ≤ 10 := (numF_length 9 x.length).1
  have hnum := fun (W : World) => refNumber_any none 0 x.length 0 W.heap.size [] W (World.ownsRow_nil _ _ _ _) (Nat.le_refl _) (by omega) (by omega)
  simp only [List.nil_append, Nat.zero_add] at hnum
  generalize hN : numB x.length = N at *
  have HN := Lib.hid hN
  have hC := crcB_lt (S ++ x)
  have hCR := crc_eq (S ++ x)
  generalize hCC : crcB (S ++ x) = C at *
  have HCC := Lib.hid hCC
  have HCR := Lib.hid hCR
  clear hS hS8 hN hCR hCC
  go_enter Try.func34, Try.ntmps34
  go_wp2_with (first
    | (go_at_call 74; refine hlow.mono ?_; rintro e w1 ⟨A1, c1, rfl, ho1, hg1⟩
       have hb1 := hg1.fresh
       have hrx1 := hr.below hb1)
    | (at_builtin; refine wpList_app _ rfl (.tmp 8) (.tmp 9) rfl slB w.heap.size (.slice A1 8 c1) 8 (byts S) rfl ho1 A x.length c (byts x) rfl (by rw [byts_length, Nat.mul_one]) hrx1 (byts_one _) (by unfold maxLen; omega) (by omega) (by have := hb1.size; omega) ?_
       intro A2 c2 w2 ho2 hg2
       have hb2 := hb1.trans (hg2.under ho1 (Nat.le_refl _) hb1.size)
       have hrX2 := Rd.of_own ho2)
    | (go_at_call 30; refine (hnum _).mono ?_; rintro e w3 ⟨A3, c3, rfl, ho3, hg3⟩
       have hb3 := hg3.fresh
       have hrX3 := hrX2.below hb3
       rw [← byts_append] at hrX3
       have hsum := refSum_any A2 c2 (S ++ x) w3 hrX3 (by rw [List.length_append, HS8.out]; omega)
       rw [← HCR.out, List.length_append, HS8.out] at hsum
       have hl4 := four_any A3 c3 C N.length w2.heap.size (byts N) w3 ho3 hb3.size (by omega) hC)
    | (go_at_call 25; refine hsum.mono ?_; rintro e w4 ⟨rfl, rfl⟩)
    | (go_at_call 75; refine hl4.mono ?_; rintro e w5 ⟨A5, c5, rfl, ho5, hg5⟩
       have hb5 := hb3.trans (hg5.under ho3 (Nat.le_refl _) hb3.size)
       have hrX5 := hrX2.below hb5)
    | (at_builtin; refine wpList_app _ rfl (.tmp 18) (.tmp 19) rfl slB w2.heap.size (.slice A5 (N.length + 4) c5) (N.length + 4) (byts N ++ byts (lowB C 4)) rfl ho5 A2 (8 + x.length) c2 (byts S ++ byts x) rfl (by rw [List.length_append, byts_length, byts_length, HS8.out, Nat.mul_one]) hrX5 (by rw [← byts_append]; exact byts_one _) (by unfold maxLen; omega) (by omega) (by have := hb5.size; omega) ?_
       intro A6 c6 w6 ho6 hg6
       have hb6 := hb5.trans (hg6.under ho5 (Nat.le_refl _) hb5.size)))
  go_ret
  have hlen : (recB seq x).length = N.length + 4 + (8 + x.length) := by simp [recB, lowB_length, HN.out]; omega
  refine ⟨A6, c6, recB seq x, by rw [hlen]; rfl, rfl, ?_, hb2.trans (hb6.mono hb2.size)⟩
  rw [hlen]
  have hcells : byts (recB seq x) = byts N ++ byts (lowB C 4) ++ (byts S ++ byts x) := by
    simp only [recB, byts_append, HN.out, HS.out, HCC.out, List.append_assoc]
  rw [hcells]
  exact own_mono ho6 hb2.size
end Go.Proofs.Ytppfjdohajomoaa
