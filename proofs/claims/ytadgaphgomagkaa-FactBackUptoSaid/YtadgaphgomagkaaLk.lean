/- The reference: do bytes fit their sum; a block's facts. -/
import Derived.Test.YtadgaphgomagkaaLf
namespace Go.Proofs.Ytadgaphgomagkaa
open Go.RowKit
set_option maxHeartbeats 8000000
set_option maxRecDepth 100000

theorem refFits_any (A : Option Addr) (c : Nat) (l : List UInt8) (w : World) (hr : Rd w A (byts l)) (hc : l.length ≤ c) (hl : l.length ≤ 140737488351232) :
    Calls Try.prog 74 #[.slice A l.length c] w fun e w' => e = .returned (.bool (fitsB l)) ∧ Below w.heap.size w w' := by
  have HF : Hid (fitsB l = (decide (4 ≤ l.length) && decide (leN (l.take 4) = crcB (l.drop 4)))) := Lib.hid rfl
  generalize fitsB l = R at *
  by_cases h4 : 4 ≤ l.length
  · have hdl : (l.drop 4).length = l.length - 4 := by rw [List.length_drop]
    have hd := Rd.drop hr 4 c (by rw [byts_length]; exact hc)
    rw [show (byts l).drop 4 = byts (l.drop 4) by simp [byts]] at hd
    have hs := fun B d W h => refSum_any B d (l.drop 4) W h (by omega)
    rw [← crc_eq, hdl] at hs
    have h4q := fun W h => readFour_any A c l W h h4
    have HF2 := Lib.hid (show R = decide (leN (l.take 4) = crcB (l.drop 4)) by rw [HF.out]; simp [h4])
    have k1 : (4 : Int) ≤ (l.length : Int) := by omega
    have e4 : (A.map (·.add 4)) = Option.map (fun x : Addr => (⟨x.block, x.off + 4, none⟩ : Addr)) A := by cases A <;> simp [Addr.add]
    clear HF
    generalize leN (l.take 4) = x at *
    generalize crcB (l.drop 4) = y at *
    have hs0 : c = 4 → Calls Try.prog 71 #[.slice A 0 0] w fun e w' => e = .returned (.int .u32 (y : Nat)) ∧ w = w' := fun h => by
      rw [if_pos h] at hd
      have := hs A 0 w hd
      rw [show l.length - 4 = 0 by omega] at this
      exact this
    have hs1 : ¬ c = 4 → Calls Try.prog 71 #[.slice (Option.map (fun x : Addr => (⟨x.block, x.off + 4, none⟩ : Addr)) A) (l.length - 4) (c - 4)] w fun e w' => e = .returned (.int .u32 (y : Nat)) ∧ w = w' := fun h => by
      rw [if_neg h, e4] at hd
      exact hs _ (c - 4) w hd
    have hxy : ((y : Int) == (x : Int)) = decide (x = y) := by
      by_cases h : x = y
      · subst h; simp
      · rw [decide_eq_false h]; simp; omega
    have HXY := Lib.hid hxy
    by_cases hc4 : c = 4
    · replace hs0 := hs0 hc4
      have hl4 : l.length = 4 := by omega
      rw [hl4] at k1 ⊢
      rw [hl4] at h4q
      subst hc4
      clear hs hs1 hd hdl h4 hxy e4
      go_enter Try.func74, Try.ntmps74
      go_wp2_with fail
      refine hs0.mono ?_
      rintro e w1 ⟨rfl, rfl⟩
      go_wp2_with fail
      refine (h4q _ hr).mono ?_
      rintro e w1 ⟨rfl, q, rfl⟩
      go_wp2_with fail
      go_ret
      rw [HF2.out, ← HXY.out]
      exact ⟨rfl, ⟨rfl, rfl, rfl, Nat.le_refl _, fun _ _ => rfl⟩⟩
    · replace hs1 := hs1 hc4
      clear hs hs0 hd hdl hxy e4
      go_enter Try.func74, Try.ntmps74
      go_wp2_with fail
      refine hs1.mono ?_
      rintro e w1 ⟨rfl, rfl⟩
      go_wp2_with fail
      refine (h4q _ hr).mono ?_
      rintro e w1 ⟨rfl, q, rfl⟩
      go_wp2_with fail
      go_ret
      rw [HF2.out, ← HXY.out]
      exact ⟨rfl, ⟨rfl, rfl, rfl, Nat.le_refl _, fun _ _ => rfl⟩⟩
  · have HR := Lib.hid (show R = false by rw [HF.out]; simp [h4])
    have d4 : ¬ (4 : Int) ≤ (l.length : Int) := by omega
    clear HF h4 hl
    go_enter Try.func74, Try.ntmps74
    go_wp2_with fail
    go_ret
    rw [HR.out]
    exact ⟨rfl, Below.refl _ _⟩
section
variable {P : Program} {ρ : Operand → Value} {d : Option Tmp} {ty : TypeId} {pos : String} {af : Array Edge} {g : Option (Nat × Bool)} {w : World}
theorem run_buildSlice0_op {t e : TypeId} (hu : P.underlying t = some (.slice e)) (hie : (P.info? e).map (·.size) = some 1) :
    (execOp ρ ⟨d, .buildSlice t 0 #[], ty, pos, af, g⟩).run P w = .ok (.value (.slice (some ⟨w.heap.size, 0, none⟩) 0 0)) (w.alloc (.cells #[] e)) := by
  obtain ⟨ie, h1, _⟩ := Option.map_eq_some_iff.1 hie
  have h : (Instr.buildSlice t 0 #[]).run P w = .ok (.slice (some ⟨w.heap.size, 0, none⟩) 0 0) (w.alloc (.cells #[] e)) := by
    simp [Instr.buildSlice, run_underlying hu, sizeOf, typeInfo, h1, Instr.fill, newRow]
    have e0 : Array.range 0 = #[] := by simp
    rw [e0]
    simp
  simp only [execOp]
  simp [h]
end
end Go.Proofs.Ytadgaphgomagkaa
