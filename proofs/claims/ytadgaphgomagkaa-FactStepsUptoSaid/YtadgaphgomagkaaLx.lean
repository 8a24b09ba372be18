/- A table's stretch of keys: words. -/
import Derived.Test.YtadgaphgomagkaaLv
namespace Go.Proofs.Ytadgaphgomagkaa
open Go.RowKit
set_option maxHeartbeats 4000000
set_option maxRecDepth 100000

theorem bsF_le (p : Nat → Bool) : ∀ (n i j : Nat), i ≤ j → i ≤ bsF p n i j ∧ bsF p n i j ≤ j
  | 0, i, j, h => by simp [bsF]; exact h
  | n + 1, i, j, h => by
    unfold bsF
    split
    · split
      · have := bsF_le p n ((i + j) / 2 + 1) j (by omega); omega
      · have := bsF_le p n i ((i + j) / 2) (by omega); omega
    · omega
theorem plF_le (l : List FM) (key : ByteArray) : plF l key ≤ l.length := (bsF_le _ _ 0 _ (Nat.zero_le _)).2
def rngF (l : List FM) (lo hi : ByteArray) : List FM := (l.drop (plF l lo)).take (max (plF l lo) (plF l hi) - plF l lo)
section
variable {P : Program} {ρ : Operand → Value} {d : Option Tmp} {ty : TypeId} {pos : String} {af : Array Edge} {g : Option (Nat × Bool)} {w : World}
theorem run_max_nat_op {t t' : TypeId} {x y : Operand} {a b : Nat} (hx : ρ x = .int .i64 (a : Nat)) (hy : ρ y = .int .i64 (b : Nat)) :
    (execOp ρ ⟨d, .call { callee := .builtin .max, args := #[x, y], argTypes := #[t, t'] }, ty, pos, af, g⟩).run P w = .ok (.value (.int .i64 ((max a b : Nat) : Nat))) w := by
  have h := run_max_int2 (P := P) w #[t, t'] ty .i64 .i64 (a : Int) (b : Int)
  have e : (if (b : Int) > (a : Int) then (b : Int) else (a : Int)) = ((max a b : Nat) : Int) := by split <;> omega
  rw [e] at h
  unfold execOp
  simp only [resolve, invoke, builtin, Sem.run_bind, Sem.run_pure, Result.andThen_ok, List.map_toArray, List.map_cons, List.map_nil, hx, hy, h]
end
def dropA3 (A : Option Addr) (c p : Nat) : Option Addr := if c = p then A else A.map (·.add (p * 3))
theorem sliced3 (A : Option Addr) (l h c : Nat) : sliced A l h c 3 = .slice (dropA3 A c l) (h - l) (c - l) := rfl
theorem fcells_drop (l : List FM) (k : Nat) : fcells (l.drop k) = (fcells l).drop (k * 3) := by
  induction l generalizing k with
  | nil => simp [fcells]
  | cons f r ih =>
    cases k with
    | zero => simp
    | succ k =>
      have e : fcells (f :: r) = f.cells ++ fcells r := rfl
      rw [List.drop_succ_cons, ih, e, show (k + 1) * 3 = 3 + k * 3 by omega, ← List.drop_drop]
      rfl
theorem fcells_take (l : List FM) (k : Nat) : fcells (l.take k) = (fcells l).take (k * 3) := by
  induction l generalizing k with
  | nil => simp [fcells]
  | cons f r ih =>
    cases k with
    | zero => simp [fcells]
    | succ k =>
      have e : fcells (f :: r) = f.cells ++ fcells r := rfl
      have e2 : fcells (f :: r.take k) = f.cells ++ fcells (r.take k) := rfl
      have hl : f.cells.length = 3 := rfl
      rw [List.take_succ_cons, e2, ih, e, List.take_append, List.take_of_length_le (l := f.cells) (by omega), hl, show (k + 1) * 3 - 3 = k * 3 by omega]
theorem Rd.drop3 {w : World} {A : Option Addr} {l : List FM} {c p : Nat} (h : Rd w A (fcells l)) (hc : l.length ≤ c) : Rd w (dropA3 A c p) (fcells (l.drop p)) := by
  have := h.drop (p * 3) (c * 3) (by rw [fcells_length]; omega)
  rw [fcells_drop]
  unfold dropA3
  by_cases h0 : c = p
  · rw [if_pos (by omega)] at this
    rw [if_pos h0]
    exact this
  · rw [if_neg (by omega)] at this
    rw [if_neg h0]
    exact this
theorem dropA3_blk {A : Option Addr} {c p : Nat} : ∀ ad, dropA3 A c p = some ad → ∃ a, A = some a ∧ ad.block = a.block := by
  intro ad e
  unfold dropA3 at e
  split at e
  · exact ⟨ad, e, rfl⟩
  · cases A with
    | none => simp at e
    | some a =>
      simp only [Option.map_some, Option.some.injEq] at e
      subst e
      exact ⟨a, rfl, add_block _ _⟩
end Go.Proofs.Ytadgaphgomagkaa
