/- Records are written. -/
import Derived.Test.YtppfjdohajomoaaFi
namespace Go.Proofs.Ytppfjdohajomoaa
open Go.RowKit
set_option maxHeartbeats 1000000
set_option maxRecDepth 100000

theorem slBB : SlT Try.prog 37 38 (.slice none 0 0) 1 24 := ⟨Try.underlying37, by kernel_rfl, rfl, by decide⟩

/-- a record -/
def recB (seq : Nat) (x : List UInt8) : List UInt8 := numB x.length ++ (lowB (crcB (lowB seq 8 ++ x)) 4 ++ (lowB seq 8 ++ x))

theorem record_any (A : Option Addr) (c seq : Nat) (x : List UInt8) (w : World) (hr : Rd w A (byts x)) (hx : x.length ≤ 70368744177664) (hxc : x.length ≤ c) (hs : seq < 18446744073709551616) :
    Calls Try.prog 33 #[.int .u64 seq, .slice A x.length c] w fun e w' => ∃ A' c' out, e = .returned (.slice A' out.length c') ∧ out = recB seq x ∧
      w'.ownsRow w.heap.size 5 1 (.slice A' out.length c') out.length (byts out) ∧ Below w.heap.size w w' := by
  have hlow := low_any none 0 seq 8 w.heap.size [] 0 w (World.ownsRow_nil _ _ _ _) (Nat.le_refl _) hs (by omega)
  simp only [Nat.zero_add, List.nil_append] at hlow
  have hS8 : (lowB seq 8).length = 8 := lowB_length _ _
  generalize hS : lowB seq 8 = S at *
  have HS := Lib.hid hS
  have HS8 := Lib.hid hS8
  have hN10 : (numB x.length).length ≤ 10 := (numF_length 9 x.length).1
  have hnum := fun (W : World) => number_any none 0 x.length [] W Rd.none_ (by simp) (by simp) (by omega)
  simp only [List.nil_append] at hnum
  generalize hN : numB x.length = N at *
  have HN := Lib.hid hN
  clear hS hS8 hN
  go_enter Try.func33, Try.ntmps33
  go_wp2_with (go_at_call 70; refine hlow.mono ?_; rintro e w1 ⟨A1, c1, rfl, ho1, hg1⟩)
  clear hlow
  have hrS : Rd w1 A1 (byts S) := Rd.of_own ho1
  have hb1 := hg1.fresh
  obtain ⟨hn1, hm1, hbl1⟩ := own_cap ho1
  go_wp2_with (go_at_call 28; refine (hnum _).mono ?_; rintro e w2 ⟨A2, c2, rfl, ho2, hb2⟩)
  clear hnum
  have hrS2 := hrS.below hb2
  have hrx2 := (hr.below hb1).below (w := w1) (hb2)
  have hsum := sum_any (some ⟨w2.heap.size, 0, none⟩) 2 [⟨A1, c1, S⟩, ⟨A, c, x⟩] (w2.alloc (.cells #[.slice A1 8 c1, .slice A x.length c] 38))
    (by have := Rd.many w2 [.slice A1 8 c1, .slice A x.length c] 38; simpa [Sb.val, HS8.out] using this) (by simp)
    (by
      intro s hs
      simp only [List.mem_cons, List.not_mem_nil, or_false] at hs
      rcases hs with rfl | rfl
      · exact ⟨hrS2.alloc _, by rw [HS8.out]; exact hn1, by rw [HS8.out]; omega⟩
      · exact ⟨hrx2.alloc _, hxc, by show x.length ≤ _; omega⟩)
  have hfl : flat [⟨A1, c1, S⟩, ⟨A, c, x⟩] = S ++ x := by simp [flat]
  rw [hfl] at hsum
  have hC := crcB_lt (S ++ x)
  generalize hCC : crcB (S ++ x) = C at *
  have HCC := Lib.hid hCC
  clear hfl hCC
  go_wp2_with (go_at_call 24; refine hsum.mono ?_; rintro e w3 ⟨rfl, hb3⟩)
  clear hsum
  have ho3 := own_below (ho2.alloc _) hb3
  have hb23 : Below w1.heap.size w1 w3 := (hb2.alloc hb2.size _).trans (hb3.mono (by have := hb2.size; simp; omega))
  have hl4 := low_any A2 c2 C 4 w1.heap.size (byts N) N.length w3 ho3 hb23.size (by omega) (by omega)
  have hrx1 := hr.below hb1
  go_wp2_with (first
    | (go_at_call 70; refine hl4.mono ?_; rintro e w4 ⟨A4, c4, rfl, ho4, hg4⟩
       have hb14 := hb23.trans (hg4.under ho3 (Nat.le_refl _) hb23.size)
       have hrS4 := hrS.below hb14
       have hrx4 := hrx1.below hb14)
    | (at_builtin; refine wpList_app _ rfl (.tmp 19) (.tmp 20) rfl slB w1.heap.size (.slice A4 (N.length + 4) c4) (N.length + 4) (byts N ++ byts (lowB C 4)) rfl ho4 A1 8 c1 (byts S) rfl (by rw [byts_length, HS8.out]) hrS4 (byts_one _) (by unfold maxLen; omega) (by omega) (by have := hb14.size; omega) ?_
       intro A5 c5 w5 ho5 hg5
       have hb15 := hb14.trans (hg5.under ho4 (Nat.le_refl _) hb14.size)
       have hrx5 := hrx1.below hb15)
    | (at_builtin; refine wpList_app _ rfl (.tmp 21) (.tmp 22) rfl slB w1.heap.size (.slice A5 (N.length + 4 + 8) c5) (N.length + 4 + 8) (byts N ++ byts (lowB C 4) ++ byts S) rfl ho5 A x.length c (byts x) rfl (by rw [byts_length, Nat.mul_one]) hrx5 (byts_one _) (by unfold maxLen; omega) (by omega) (by have := hb15.size; omega) ?_
       intro A6 c6 w6 ho6 hg6
       have hb16 := hb15.trans (hg6.under ho5 (Nat.le_refl _) hb15.size)))
  go_ret
  have hlen : (recB seq x).length = N.length + 4 + 8 + x.length := by simp [recB, lowB_length, HN.out]; omega
  refine ⟨A6, c6, recB seq x, by rw [hlen]; rfl, rfl, ?_, hb1.trans (hb16.mono hb1.size)⟩
  rw [hlen]
  have hcells : byts (recB seq x) = byts N ++ byts (lowB C 4) ++ byts S ++ byts x := by
    simp only [recB, byts_append, HN.out, HS.out, HCC.out, List.append_assoc]
  rw [hcells]
  exact own_mono ho6 hb1.size
end Go.Proofs.Ytppfjdohajomoaa
