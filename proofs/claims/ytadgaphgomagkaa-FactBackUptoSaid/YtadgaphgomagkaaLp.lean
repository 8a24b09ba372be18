/- The reference's Open, plain; a word for the foot's sum. -/
import Derived.Test.YtadgaphgomagkaaLn
namespace Go.Proofs.Ytadgaphgomagkaa
open Go.RowKit
set_option maxHeartbeats 8000000
set_option maxRecDepth 100000

section
variable {P : Program} {ρ : Operand → Value} {d : Option Tmp} {ty : TypeId} {pos : String} {af : Array Edge} {g : Option (Nat × Bool)} {w : World}
theorem run_neq_u32 {t r : TypeId} {x y : Operand} {a b : Nat} (hx : ρ x = .int .u32 (a : Nat)) (hy : ρ y = .int .u32 (b : Nat)) : (execOp ρ ⟨d, .binOp .neq t x y r, ty, pos, af, g⟩).run P w = .ok (.value (.bool (decide (a ≠ b)))) w := by
  simp only [execOp, hx, hy]
  simp [eqGuard, go_sem]
  by_cases h : a = b
  · subst h; simp
  · simp [h]
    omega
end
def longB (X : List (List UInt8 × List UInt8)) : Bool := X.all fun p => decide (5 ≤ p.2.length)
theorem longB_iff (X : List (List UInt8 × List UInt8)) : longB X = true ↔ longP X := by simp [longB, longP]
def refOpenP (b : List UInt8) : Nat × List FV :=
  if b.length < 12 then (21, [])
  else if leN (((ftB b).drop 8).take 4) ≠ crcB ((ftB b).take 8) then (23, [])
  else if b.length - 12 < ftN b then (21, [])
  else if fitsB ((b.drop (b.length - 12 - ftN b)).take (ftN b)) = false then (23, [])
  else match parP ((b.drop (b.length - 12 - ftN b + 4)).take (ftN b - 4)) (b.take (b.length - 12 - ftN b)) with
    | none => (24, [])
    | some ps => if longB ps = true then endP (blkP ps []) (ftC b) else (24, [])
theorem blkP_long : ∀ (ps : List (List UInt8 × List UInt8)) (acc : List FV), (blkP ps acc).1 = 0 → longB ps = true
  | [], _, _ => rfl
  | p :: r, acc, h => by
    unfold blkP at h
    split at h
    · cases h
    · rename_i h1
      split at h
      · cases h
      · rename_i h2
        have ih := blkP_long r _ h
        simp only [longB, List.all_cons, Bool.and_eq_true, decide_eq_true_eq] at ih ⊢
        refine ⟨?_, ih⟩
        simp only [Bool.not_eq_false, fitsB, Bool.and_eq_true, decide_eq_true_eq] at h1
        rcases Nat.lt_or_ge p.2.length 5 with h5 | h5
        · exfalso
          have hd : p.2.drop 4 = [] := List.drop_eq_nil_of_le (by omega)
          rw [hd] at h2
          simp [facP, facN] at h2
        · exact h5
/-- what the program opens, the reference opens -/
theorem refOpenP_ok (b : List UInt8) (h : (openP b).1 = 0) : (refOpenP b).1 = 0 := by
  unfold openP at h
  unfold refOpenP
  split
  · rename_i h1; rw [if_pos h1] at h; cases h
  · rename_i h1
    rw [if_neg h1] at h
    split
    · rename_i h2; rw [if_pos h2] at h; cases h
    · rename_i h2
      rw [if_neg h2] at h
      split
      · rename_i h3; rw [if_pos h3] at h; cases h
      · rename_i h3
        rw [if_neg h3] at h
        split
        · rename_i h4; rw [if_pos h4] at h; cases h
        · rename_i h4
          rw [if_neg h4] at h
          split
          · rename_i h5; rw [h5] at h; cases h
          · rename_i ps h5
            rw [h5] at h
            simp only at h
            have hl : longB ps = true := by
              refine blkP_long ps [] ?_
              unfold endP at h
              split at h
              · rename_i h6; exact absurd h h6
              · rename_i h6; exact Decidable.not_not.1 h6
            rw [if_pos hl]
            exact h
end Go.Proofs.Ytadgaphgomagkaa
