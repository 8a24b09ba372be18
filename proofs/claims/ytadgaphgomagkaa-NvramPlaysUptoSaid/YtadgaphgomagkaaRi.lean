/- Both devices and the power: the reference's bytes beside others; bytes as a string. -/
import Derived.Test.YtadgaphgomagkaaRh
namespace Go.Proofs.Ytadgaphgomagkaa
open Go.RowKit
set_option maxHeartbeats 1000000
set_option maxRecDepth 100000

theorem tp_all2 {w0 w : World} {B D P R G s i z : Nat} {kept bl : List UInt8} {L : List (Nat × UInt8)} {off : Bool} {armed : Nat} {picks : List Int} {A8 : Option Addr} (h : TwoP w0 w B D P R G kept L off armed picks s i) (hi : i ≤ 400) (hz : kept.length = z) (h8 : Rd w A8 (byts bl)) :
    Calls Try.prog 30 #[.pointer (some ⟨R, 0, none⟩)] w fun e w' => ∃ A' c', e = .returned (.slice A' z c') ∧ z ≤ c' ∧ Rd w' A' (byts (app kept L)) ∧ Rd w' A8 (byts bl) ∧ Below w.heap.size w w' := by
  subst hz
  refine (tp_all h hi).mono ?_
  rintro e w' ⟨A', c', rfl, ho, hb⟩
  exact ⟨A', c', rfl, (own_cap ho).1, Rd.of_own ho, h8.below hb, hb⟩
theorem conv_len {bl : List UInt8} {z : Nat} (hz : bl.length = z) (W : World) (A' : Option Addr) (c' : Nat) (hW : Rd W A' (byts bl)) : (convert 35 9 (.slice A' z c')).run Try.prog W = .ok (.string ⟨bl.toArray⟩) W := by
  subst hz
  exact conv_bytes W A' c' bl hW
theorem run_slice_op {ρ : Operand → Value} {d : Option Tmp} {ty : TypeId} {pos : String} {af : Array Edge} {g : Option (Nat × Bool)} {x lo hi : Operand} {A : Option Addr} {z c b n : Nat} (W : World) (hx : ρ x = .slice A z c) (hlo : ρ lo = .int .i64 (b : Nat)) (hhi : ρ hi = .int .i64 ((b + n : Nat) : Nat)) (hc : b + n ≤ c) :
    (execOp ρ ⟨d, .slice 35 x (some lo) (some hi) none, ty, pos, af, g⟩).run Try.prog W = .ok (.value (.slice (if c = b then A else A.map (·.add b)) n (c - b))) W := by
  have h1 : (0 : Int) ≤ (b : Int) := by omega
  have h2 : (b : Int) ≤ ((b + n : Nat) : Int) := by omega
  have h3 : ((b + n : Nat) : Int) ≤ (c : Int) := by omega
  simp only [execOp, hx, hlo, hhi, Option.map_some, Option.map_none]
  simp [go_sem]
  rw [if_pos (by omega), if_pos (by omega)]
  congr 3
  omega
theorem part_rd {W : World} {A : Option Addr} {bl : List UInt8} {z b n c : Nat} (h : Rd W A (byts bl)) (hbl : bl.length = z) (hz : z ≤ c) : Rd W (if c = b then A else A.map (·.add b)) (byts ((bl.drop b).take n)) := by
  have := (h.drop b c (by rw [byts_length]; omega)).take n
  simpa [byts, List.map_drop, List.map_take] using this
end Go.Proofs.Ytadgaphgomagkaa
