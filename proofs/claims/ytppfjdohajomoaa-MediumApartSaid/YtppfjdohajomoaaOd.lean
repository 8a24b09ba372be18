/- Openers: a slice of acts on mediums. -/
import Derived.Test.YtppfjdohajomoaaOc
import Derived.Test.YtppfjdohajomoaaMs
namespace Go.Proofs.Ytppfjdohajomoaa
open Go.ChangeShapes Go.WideShapes Go.ChangeAt Go.RowKit Go.Deep
set_option maxRecDepth 100000

theorem Try.actFields : ∃ f0 f1 f2 f3 f4 : Field, Try.prog.underlying 56 = some (.struct #[f0, f1, f2, f3, f4]) ∧ (f0.type, f0.offset) = (3, 0) ∧ (f1.type, f1.offset) = (27, 1) ∧ (f2.type, f2.offset) = (3, 2) ∧ (f3.type, f3.offset) = (3, 3) ∧ (f4.type, f4.offset) = (4, 4) :=
  ⟨_, _, _, _, _, Try.underlying56, rfl, rfl, rfl, rfl, rfl⟩
theorem Try.cellsAct : Try.prog.cellsOf 56 = 5 := by kernel_rfl
theorem Try.cellsInt : Try.prog.cellsOf 3 = 1 := by kernel_rfl
theorem Try.cellsU64 : Try.prog.cellsOf 27 = 1 := by kernel_rfl
theorem Try.cellsBool : Try.prog.cellsOf 4 = 1 := by kernel_rfl

section
variable {H : Type} {enc : TypeId × Value → H} {W : World}

theorem open_act {base : Nat} {sp : Nat → Bool} {held : Bool} {fuel : Nat} {cs : List Value} {x : DataW H × List MemPlace} (h : DataW.trod enc Try.prog W base sp held fuel 56 cs = some x) : ∃ m : MAct, cs = m.cells ∧ m.a < 18446744073709551616 := by
  obtain ⟨f0, f1, f2, f3, f4, hu, t0, t1, t2, t3, t4⟩ := Try.actFields
  simp only [Prod.mk.injEq] at t0 t1 t2 t3 t4
  obtain ⟨xs, n, _, _, hl, hxl, hf⟩ := DataW.trod_struct hu h
  rw [Try.cellsAct] at hl
  match cs, hl with
  | [c0, c1, c2, c3, c4], _ =>
    match xs, hxl with
    | [y0, y1, y2, y3, y4], _ =>
      have g0 := hf 0 f0 rfl
      have g1 := hf 1 f1 rfl
      have g2 := hf 2 f2 rfl
      have g3 := hf 3 f3 rfl
      have g4 := hf 4 f4 rfl
      rw [t0.1, t0.2, Try.cellsInt] at g0
      rw [t1.1, t1.2, Try.cellsU64] at g1
      rw [t2.1, t2.2, Try.cellsInt] at g2
      rw [t3.1, t3.2, Try.cellsInt] at g3
      rw [t4.1, t4.2, Try.cellsBool] at g4
      simp only [List.drop_zero, List.drop_succ_cons, List.take_succ_cons, List.take_zero, List.getElem?_cons_zero, List.getElem?_cons_succ] at g0 g1 g2 g3 g4
      obtain ⟨z0, e0, _, _⟩ := DataW.trod_int Try.underlying3 g0
      obtain ⟨z1, e1, _, w1⟩ := DataW.trod_int Try.underlying27 g1
      obtain ⟨z2, e2, _, _⟩ := DataW.trod_int Try.underlying3 g2
      obtain ⟨z3, e3, _, _⟩ := DataW.trod_int Try.underlying3 g3
      obtain ⟨z4, e4, _⟩ := DataW.trod_bool Try.underlying4 g4
      simp only [List.cons.injEq, and_true] at e0 e1 e2 e3 e4
      obtain ⟨a, rfl, ha⟩ := wf_u64 w1
      subst e0 e1 e2 e3 e4
      exact ⟨⟨z0, a, z2, z3, z4⟩, rfl, ha⟩

theorem open_acts {sp : Nat → Bool} {held : Bool} {fuel : Nat} {v : Value} {d : DataW H} {ps : List MemPlace} (h : DataW.trod enc Try.prog W 0 sp held fuel 53 [v] = some (d, ps)) :
    ∃ A l c, v = .slice A l.length c ∧ Rd W A (acs l) ∧ ∀ x ∈ l, x.a < 18446744073709551616 := by
  rcases open_slice Try.underlying53 h with ⟨hv, _⟩ | ⟨a, len, cap, m, n, D, Pl, hv, _, hlc, _, hm, _, hx⟩
  · simp only [List.cons.injEq, and_true] at hv
    exact ⟨none, [], 0, by simpa using hv, Rd.none_, by simp⟩
  · simp only [List.cons.injEq, and_true] at hv
    have hle : len ≤ m := by rw [hm]; split <;> omega
    rw [Try.cellsAct] at hx
    have hall : ∀ i, i < len → ∃ x : MAct, (∀ j, j < 5 → W.cell? (a.add (i * 5 + j)) = x.cells[j]?) ∧ x.a < 18446744073709551616 := fun i hi => by
      obtain ⟨cs', hc, ht⟩ := hx i (by omega)
      obtain ⟨_, _, hat⟩ := World.cells?_some hc
      obtain ⟨x, rfl, hxa⟩ := open_act ht
      exact ⟨x, fun j hj => by rw [← add_add']; exact hat j hj, hxa⟩
    haveI : Inhabited MAct := ⟨⟨0, 0, 0, 0, false⟩⟩
    obtain ⟨S, hS⟩ := choose_lt hall
    have hlen : ((List.range len).map S).length = len := by simp
    refine ⟨some a, (List.range len).map S, cap, by rw [hlen]; exact hv, fun hn => ⟨a, rfl, ?_, fun j u hu => ?_⟩, ?_⟩
    · have h0 : 0 < len := by
        rcases Nat.eq_zero_or_pos len with e | e
        · exfalso; apply hn; subst e; simp [acs]
        · exact e
      have h1 := (hS 0 h0).1 0 (by omega)
      have := cell_block (h1.trans rfl)
      rwa [add_block] at this
    · have hj : j < len * 5 := by
        have := (List.getElem?_eq_some_iff.1 hu).1
        rwa [acs_length, hlen] at this
      have e : j = j / 5 * 5 + j % 5 := by omega
      rw [e] at hu ⊢
      rw [acs_get _ (j / 5) (by rw [hlen]; omega) _ (by omega)] at hu
      rw [(hS (j / 5) (by omega)).1 (j % 5) (by omega), ← hu]
      simp
    · intro x hx'
      obtain ⟨i, hi, rfl⟩ := List.mem_map.1 hx'
      exact (hS i (List.mem_range.1 hi)).2
theorem open_actsA {sp : Nat → Bool} {held : Bool} {r : Reach} {b0 : Nat} {v : Value} {d : DataW H} {p : List MemPlace} (hv : Value.okWide Try.prog W r b0 53 v) (h : DataW.Trod enc Try.prog W 0 sp held 53 v d p) :
    ∃ A l c, v = .slice A l.length c ∧ Rd W A (acs l) ∧ ∀ x ∈ l, x.a < 18446744073709551616 := by
  obtain ⟨a0, l0, c0, rfl⟩ := okWide_slice Try.underlying53 hv
  obtain ⟨fuel, h1⟩ := h
  exact open_acts h1
end
end Go.Proofs.Ytppfjdohajomoaa
