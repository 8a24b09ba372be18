/- Openers: a fact by value; lists of facts. -/
import Derived.Test.YtadgaphgomagkaaOh
import Derived.Test.YtadgaphgomagkaaQk
namespace Go.Proofs.Ytadgaphgomagkaa
open Go.ChangeShapes Go.WideShapes Go.ChangeAt Go.RowKit Go.Deep
set_option maxRecDepth 100000

theorem Try.cellsFacts : Try.prog.cellsOf 56 = 1 := by kernel_rfl
section
variable {H : Type} {enc : TypeId × Value → H} {W : World}
theorem open_factA {sp : Nat → Bool} {held : Bool} {r : Reach} {b0 : Nat} {v : Value} {d : DataW H} {p : List MemPlace} (hv : Value.okWide Try.prog W r b0 71 v) (h : DataW.Trod enc Try.prog W 0 sp held 71 v d p) (hw : Rows.uptoBulk d ≤ 1048576) :
    ∃ m : FM, v = m.val ∧ m.ok W := by
  obtain ⟨f0, f1, f2, hu, _, _, _⟩ := Try.factFields
  obtain ⟨cs, rfl, _⟩ := okWide_struct hu hv
  obtain ⟨fuel, h⟩ := h
  obtain ⟨m, e, hm⟩ := open_fact h (by simpa using hw)
  have e2 : cs.toList = m.cells := e
  refine ⟨m, ?_, hm⟩
  show Value.agg cs = Value.agg m.cells.toArray
  rw [← e2]
theorem open_facts_len {sp : Nat → Bool} {held : Bool} {fuel : Nat} {v : Value} {d : DataW H} {ps : List MemPlace} (h : DataW.trod enc Try.prog W 0 sp held fuel 56 [v] = some (d, ps)) (hw : Rows.uptoBulk d ≤ 1048576) :
    ∃ m : LM, v = m.val ∧ m.ok W ∧ m.L.length ≤ Rows.uptoBulk d := by
  obtain ⟨A, l, c, rfl, h1, h2, _, _⟩ := open_facts h hw
  refine ⟨⟨A, c, l⟩, rfl, ⟨h1, h2⟩, ?_⟩
  rcases open_slice Try.underlying56 h with ⟨hv, _⟩ | ⟨a, len, cap, m, n, D, Pl, hv, _, hlc, _, hm, hd, hx⟩
  · simp only [List.cons.injEq, and_true, Value.slice.injEq] at hv
    simp only
    omega
  · simp only [List.cons.injEq, and_true, Value.slice.injEq] at hv
    have hd' : d = .slice ((List.range len).map D) ((List.range (m - len)).map fun j => D (len + j)) := by injection hd
    rw [hd']
    simp only [Rows.uptoBulk]
    have hlb := bulk_len ((List.range len).map D)
    simp only [List.length_map, List.length_range] at hlb
    omega
theorem cat_bulk (S : Nat → LM) (D : Nat → DataW H) : ∀ is : List Nat, (∀ i ∈ is, (S i).L.length ≤ Rows.uptoBulk (D i)) → (catF (is.map S)).length ≤ Rows.uptoBulkAll (is.map D)
  | [], _ => by simp [catF]
  | i :: r, h => by
    have h1 := h i (by simp)
    have h2 := cat_bulk S D r fun j hj => h j (by simp [hj])
    have e : catF ((i :: r).map S) = (S i).L ++ catF (r.map S) := by simp [catF]
    rw [e, List.length_append]
    simp only [List.map_cons, Rows.uptoBulkAll]
    omega
theorem open_lists {sp : Nat → Bool} {held : Bool} {r : Reach} {b0 : Nat} {v : Value} {d : DataW H} {p : List MemPlace} (hv : Value.okWide Try.prog W r b0 85 v) (h : DataW.Trod enc Try.prog W 0 sp held 85 v d p) (hw : Rows.uptoBulk d ≤ 1048576) :
    ∃ A c, ∃ ll : List LM, v = .slice A ll.length c ∧ Rd W A (ll.map LM.val) ∧ (∀ m ∈ ll, m.ok W) ∧ ll.length ≤ 1048576 ∧ (catF ll).length ≤ 1048576 := by
  obtain ⟨a0, l0, c0, rfl⟩ := okWide_slice Try.underlying85 hv
  obtain ⟨fuel, h⟩ := h
  have h : DataW.trod enc Try.prog W 0 sp held fuel 85 [Value.slice a0 l0 c0] = some (d, p) := h
  rcases open_slice Try.underlying85 h with ⟨hv, _⟩ | ⟨a, len, cap, m, n, D, Pl, hv, _, hlc, _, hm, hd, hx⟩
  · simp only [List.cons.injEq, and_true] at hv
    exact ⟨none, 0, [], by simpa using hv, Rd.none_, by simp, by simp, by simp [catF]⟩
  · simp only [List.cons.injEq, and_true] at hv
    have hle : len ≤ m := by rw [hm]; split <;> omega
    rw [Try.cellsFacts] at hx
    have hd' : d = .slice ((List.range len).map D) ((List.range (m - len)).map fun j => D (len + j)) := by injection hd
    rw [hd'] at hw
    simp only [Rows.uptoBulk] at hw
    have hlb := bulk_len ((List.range len).map D)
    simp only [List.length_map, List.length_range] at hlb
    have hall : ∀ i, i < len → ∃ x : LM, W.cell? (a.add i) = some x.val ∧ x.ok W ∧ x.L.length ≤ Rows.uptoBulk (D i) := fun i hi => by
      obtain ⟨cs', hc, ht⟩ := hx i (by omega)
      obtain ⟨hl, _, hat⟩ := World.cells?_some hc
      have hbi := bulk_part (H := H) (d := D i) (l := (List.range len).map D) (List.mem_map.2 ⟨i, List.mem_range.2 hi, rfl⟩)
      have h2 := hat 0 (by omega)
      rw [add_add', Nat.mul_one, Nat.add_zero] at h2
      match cs', hl, ht, h2 with
      | [u], _, ht, h2 =>
        obtain ⟨x, rfl, h3, h4⟩ := open_facts_len ht (by omega)
        exact ⟨x, h2, h3, h4⟩
    haveI : Inhabited LM := ⟨⟨none, 0, []⟩⟩
    obtain ⟨S, hS⟩ := choose_lt hall
    have hlen : ((List.range len).map S).length = len := by simp
    have hcb := cat_bulk S D (List.range len) fun i hi => (hS i (List.mem_range.1 hi)).2.2
    refine ⟨some a, cap, (List.range len).map S, by rw [hlen]; exact hv, fun hn => ⟨a, rfl, ?_, fun j u hu => ?_⟩, fun m hm => ?_, by omega, by omega⟩
    · have h0 : 0 < len := by
        rcases Nat.eq_zero_or_pos len with e | e
        · exfalso; apply hn; subst e; simp
        · exact e
      have := cell_block (hS 0 h0).1
      rwa [add_block] at this
    · have hj : j < len := by
        have := (List.getElem?_eq_some_iff.1 hu).1
        simpa using this
      rw [(hS j hj).1, ← hu]
      simp [hj]
    · obtain ⟨i, hi, rfl⟩ := List.mem_map.1 hm
      exact (hS i (List.mem_range.1 hi)).2.1
end
end Go.Proofs.Ytadgaphgomagkaa
