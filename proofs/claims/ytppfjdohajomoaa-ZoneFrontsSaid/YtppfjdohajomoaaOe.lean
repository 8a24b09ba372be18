/- Openers: a row of ints as an argument. -/
import Derived.Test.YtppfjdohajomoaaOc
import Derived.Test.YtppfjdohajomoaaZg
namespace Go.Proofs.Ytppfjdohajomoaa
open Go.ChangeShapes Go.WideShapes Go.ChangeAt Go.RowKit Go.Deep Go.Joins
set_option maxRecDepth 100000

theorem Try.cellsI : Try.prog.cellsOf 3 = 1 := by kernel_rfl
theorem Try.bytesI : Try.prog.bytesOf 3 = 8 := by kernel_rfl
section
variable {H : Type} {enc : TypeId × Value → H} {W W' : World}
theorem open_intRow {sp : Nat → Bool} {held : Bool} {fuel : Nat} {v : Value} {d : DataW H} {ps : List MemPlace} (h : DataW.trod enc Try.prog W 0 sp held fuel 66 [v] = some (d, ps)) (hw : ∀ n ∈ d.weights Try.prog 66, n ≤ reachBytes) :
    ∃ A, ∃ (l : List Int), ∃ c, v = .slice A l.length c ∧ Rd W A (ints l) ∧ (∀ x ∈ l, -9223372036854775808 ≤ x ∧ x ≤ 9223372036854775807) ∧ l.length ≤ c ∧ l.length ≤ 140737488351232 := by
  rcases open_ints Try.underlying66 Try.underlying3 Try.cellsI h with ⟨hv, _⟩ | ⟨a, len, cap, zs, hv, _, hlc, _, hz, hd, hc, hwf⟩
  · simp only [List.cons.injEq, and_true] at hv
    exact ⟨none, [], 0, by simpa using hv, Rd.none_, by simp, Nat.le_refl _, by simp⟩
  · simp only [List.cons.injEq, and_true] at hv
    have hle : len ≤ zs.length := by rw [hz]; split <;> omega
    have hl' : (zs.take len).length = len := by rw [List.length_take]; omega
    refine ⟨some a, zs.take len, cap, by rw [hl']; exact hv, fun hn => ⟨a, rfl, ?_, fun j u hu => ?_⟩, fun x hx => wf_i64 (hwf x (List.mem_of_mem_take hx)), by omega, ?_⟩
    · have h0 : 0 < zs.length := by
        rcases Nat.eq_zero_or_pos zs.length with e | e
        · exfalso; apply hn; rw [List.eq_nil_of_length_eq_zero e]; simp [ints]
        · exact e
      have := cell_block (hc 0 h0)
      rwa [add_block] at this
    · rw [ints, List.getElem?_map] at hu
      obtain ⟨z, hz1, rfl⟩ := Option.map_eq_some_iff.1 hu
      rw [List.getElem?_take] at hz1
      split at hz1
      · have hj : j < zs.length := (List.getElem?_eq_some_iff.1 hz1).1
        rw [hc j hj, List.getD, hz1]
        rfl
      · cases hz1
    · have hd' : d = .slice (lits .i64 (zs.take len)) (lits .i64 (zs.drop len)) := by injection hd
      have := hw (8 * ((lits .i64 (zs.take len) (H := H)).length + (lits .i64 (zs.drop len) (H := H)).length)) (by
        rw [hd', DataW.weights, Try.underlying66]
        simp [Try.bytesI, Nat.mul_comm])
      simp only [lits, List.length_map, List.length_take, List.length_drop, reachBytes] at this
      omega
theorem open_intRowA {sp : Nat → Bool} {held : Bool} {r : Reach} {b0 : Nat} {v : Value} {d : DataW H} {p : List MemPlace} (hv : Value.okWide Try.prog W r b0 66 v) (h : DataW.Trod enc Try.prog W 0 sp held 66 v d p) (hw : ∀ n ∈ d.weights Try.prog 66, n ≤ reachBytes) :
    ∃ A, ∃ (l : List Int), ∃ c, v = .slice A l.length c ∧ Rd W A (ints l) ∧ (∀ x ∈ l, -9223372036854775808 ≤ x ∧ x ≤ 9223372036854775807) ∧ l.length ≤ c ∧ l.length ≤ 140737488351232 := by
  obtain ⟨a0, l0, c0, rfl⟩ := okWide_slice Try.underlying66 hv
  obtain ⟨fuel, h1⟩ := h
  exact open_intRow h1 hw
end
end Go.Proofs.Ytppfjdohajomoaa
