/- Openers: a slice of acts on the log's device, where what is read is of bulk at most 1048576. -/
import Derived.Test.YtadgaphgomagkaaOg
import Derived.Test.YtadgaphgomagkaaVl
namespace Go.Proofs.Ytadgaphgomagkaa
open Go.ChangeShapes Go.WideShapes Go.ChangeAt Go.RowKit Go.Deep
set_option maxRecDepth 100000

theorem bulk_one {H : Type} (d : DataW H) : 1 ≤ Rows.uptoBulk d := by
  cases d with
  | lit l => cases l <;> simp [Rows.uptoBulk]
  | nil => simp [Rows.uptoBulk]
  | ptr d => simp [Rows.uptoBulk]
  | slice elems spare => simp [Rows.uptoBulk]
  | agg parts => simp [Rows.uptoBulk]
  | iface t d => simp [Rows.uptoBulk]
  | map entries => simp [Rows.uptoBulk]
  | held h => simp [Rows.uptoBulk]
theorem bulk_part {H : Type} {d : DataW H} {l : List (DataW H)} (h : d ∈ l) : Rows.uptoBulk d ≤ Rows.uptoBulkAll l := by
  induction l with
  | nil => cases h
  | cons x r ih =>
    simp only [Rows.uptoBulkAll]
    cases List.mem_cons.1 h with
    | inl e => subst e; omega
    | inr e => have := ih e; omega
theorem bulk_len {H : Type} (l : List (DataW H)) : l.length ≤ Rows.uptoBulkAll l := by
  induction l with
  | nil => simp [Rows.uptoBulkAll]
  | cons x r ih => have := bulk_one x; simp only [Rows.uptoBulkAll, List.length_cons]; omega
theorem bulk_bound {H : Type} {l : List (DataW H)} (hk : Rows.uptoSmall H l = true) : Rows.uptoBulkAll l ≤ 1048576 := of_decide_eq_true hk

theorem Try.cellsInt : Try.prog.cellsOf 3 = 1 := by kernel_rfl
theorem Try.cellsRowI : Try.prog.cellsOf 36 = 1 := by kernel_rfl
theorem Try.cellsAct : Try.prog.cellsOf 38 = 5 := by kernel_rfl
theorem Try.actFields : ∃ f0 f1 f2 f3 f4 : Field, Try.prog.underlying 38 = some (.struct #[f0, f1, f2, f3, f4]) ∧ (f0.type, f0.offset) = (3, 0) ∧ (f1.type, f1.offset) = (3, 1) ∧ (f2.type, f2.offset) = (3, 2) ∧ (f3.type, f3.offset) = (35, 3) ∧ (f4.type, f4.offset) = (36, 4) :=
  ⟨_, _, _, _, _, Try.underlying38, rfl, rfl, rfl, rfl, rfl⟩
section
variable {H : Type} {enc : TypeId × Value → H} {W : World}
theorem open_rowB {sp : Nat → Bool} {held : Bool} {fuel : Nat} {v : Value} {d : DataW H} {ps : List MemPlace} (h : DataW.trod enc Try.prog W 0 sp held fuel 35 [v] = some (d, ps)) (hw : Rows.uptoBulk d ≤ 1048576) :
    ∃ A l c, v = .slice A l.length c ∧ Rd W A (byts l) ∧ l.length ≤ c ∧ l.length ≤ 1048576 := by
  rcases open_ints Try.underlying35 Try.underlying5 Try.cells8 h with ⟨hv, _⟩ | ⟨a, len, cap, zs, hv, _, hlc, _, hz, hd, hc, hwf⟩
  · simp only [List.cons.injEq, and_true] at hv
    exact ⟨none, [], 0, by simpa using hv, Rd.none_, Nat.le_refl _, by simp⟩
  · simp only [List.cons.injEq, and_true] at hv
    have hle : len ≤ zs.length := by rw [hz]; split <;> omega
    obtain ⟨l, hl, hb⟩ := bytes_of_ints (zs.take len) fun n hn => hwf n (List.mem_of_mem_take hn)
    have hl' : l.length = len := by rw [hl, List.length_take]; omega
    refine ⟨some a, l, cap, by rw [hl']; exact hv, fun hn => ⟨a, rfl, ?_, fun j u hu => ?_⟩, by omega, ?_⟩
    · have h0 : 0 < zs.length := by
        rcases Nat.eq_zero_or_pos zs.length with e | e
        · exfalso; apply hn; rw [← hb, List.eq_nil_of_length_eq_zero e]; simp
        · exact e
      have := cell_block (hc 0 h0)
      rwa [add_block] at this
    · rw [← hb, List.getElem?_map] at hu
      obtain ⟨z, hz1, rfl⟩ := Option.map_eq_some_iff.1 hu
      rw [List.getElem?_take] at hz1
      split at hz1
      · have hj : j < zs.length := (List.getElem?_eq_some_iff.1 hz1).1
        rw [hc j hj, List.getD, hz1]
        rfl
      · cases hz1
    · have hd' : d = .slice (lits .u8 (zs.take len)) (lits .u8 (zs.drop len)) := by injection hd
      rw [hd'] at hw
      simp only [Rows.uptoBulk] at hw
      have := bulk_len (lits .u8 (zs.take len) (H := H))
      have hL : (lits .u8 (zs.take len) (H := H)).length = len := by unfold lits; rw [List.length_map, List.length_take]; omega
      omega
theorem open_rowI {sp : Nat → Bool} {held : Bool} {fuel : Nat} {v : Value} {d : DataW H} {ps : List MemPlace} (h : DataW.trod enc Try.prog W 0 sp held fuel 36 [v] = some (d, ps)) (hw : Rows.uptoBulk d ≤ 1048576) :
    ∃ A, ∃ (l : List Int), ∃ c, v = .slice A l.length c ∧ Rd W A (ints l) ∧ (∀ x ∈ l, -9223372036854775808 ≤ x ∧ x ≤ 9223372036854775807) ∧ l.length ≤ c ∧ l.length ≤ 1048576 := by
  rcases open_ints Try.underlying36 Try.underlying3 Try.cellsInt h with ⟨hv, _⟩ | ⟨a, len, cap, zs, hv, _, hlc, _, hz, hd, hc, hwf⟩
  · simp only [List.cons.injEq, and_true] at hv
    exact ⟨none, [], 0, by simpa using hv, Rd.none_, by simp, Nat.le_refl _, by simp⟩
  · simp only [List.cons.injEq, and_true] at hv
    have hle : len ≤ zs.length := by rw [hz]; split <;> omega
    have hl' : (zs.take len).length = len := by rw [List.length_take]; omega
    refine ⟨some a, zs.take len, cap, by rw [hl']; exact hv, fun hn => ⟨a, rfl, ?_, fun j u hu => ?_⟩, fun x hx => wf_i64 (hwf x (List.mem_of_mem_take hx)), by omega, ?_⟩
    · have h0 : 0 < zs.length := by
        rcases Nat.eq_zero_or_pos zs.length with e | e
        · exfalso; apply hn; rw [List.eq_nil_of_length_eq_zero e]; simp [ints]
        · exact e
      have := cell_block (hc 0 h0)
      rwa [add_block] at this
    · rw [ints, List.getElem?_map] at hu
      obtain ⟨z, hz1, rfl⟩ := Option.map_eq_some_iff.1 hu
      rw [List.getElem?_take] at hz1
      split at hz1
      · have hj : j < zs.length := (List.getElem?_eq_some_iff.1 hz1).1
        rw [hc j hj, List.getD, hz1]
        rfl
      · cases hz1
    · have hd' : d = .slice (lits .i64 (zs.take len)) (lits .i64 (zs.drop len)) := by injection hd
      rw [hd'] at hw
      simp only [Rows.uptoBulk] at hw
      have := bulk_len (lits .i64 (zs.take len) (H := H))
      have hL : (lits .i64 (zs.take len) (H := H)).length = len := by unfold lits; rw [List.length_map, List.length_take]; omega
      omega
theorem open_nact {sp : Nat → Bool} {held : Bool} {fuel : Nat} {cs : List Value} {x : DataW H × List MemPlace} (h : DataW.trod enc Try.prog W 0 sp held fuel 38 cs = some x) (hw : Rows.uptoBulk x.1 ≤ 1048576) : ∃ m : NAct, cs = m.cells ∧ m.ok W ∧ m.p.length ≤ 1048576 ∧ m.l.length ≤ 1048576 := by
  obtain ⟨f0, f1, f2, f3, f4, hu, t0, t1, t2, t3, t4⟩ := Try.actFields
  simp only [Prod.mk.injEq] at t0 t1 t2 t3 t4
  obtain ⟨xs, n, _, hx, hl, hxl, hf⟩ := DataW.trod_struct hu h
  rw [Try.cellsAct] at hl
  match cs, hl with
  | [c0, c1, c2, c3, c4], _ =>
    match xs, hxl with
    | [y0, y1, y2, y3, y4], _ =>
      have g0 := hf 0 f0 rfl
      have g1 := hf 1 f1 rfl
      have g2 := hf 2 f2 rfl
      have g3 := hf 3 f3 rfl
      have g4 := hf 4 f4 rfl
      rw [t0.1, t0.2, Try.cellsInt] at g0
      rw [t1.1, t1.2, Try.cellsInt] at g1
      rw [t2.1, t2.2, Try.cellsInt] at g2
      rw [t3.1, t3.2, Try.cellsRow] at g3
      rw [t4.1, t4.2, Try.cellsRowI] at g4
      simp only [List.drop_zero, List.drop_succ_cons, List.take_succ_cons, List.take_zero, List.getElem?_cons_zero, List.getElem?_cons_succ] at g0 g1 g2 g3 g4
      subst hx
      simp only [Rows.uptoBulk] at hw
      have b3 : Rows.uptoBulk y3.1 ≤ 1048576 := by
        have := bulk_part (H := H) (d := y3.1) (l := [y0, y1, y2, y3, y4].map (·.1)) (by simp)
        omega
      have b4 : Rows.uptoBulk y4.1 ≤ 1048576 := by
        have := bulk_part (H := H) (d := y4.1) (l := [y0, y1, y2, y3, y4].map (·.1)) (by simp)
        omega
      obtain ⟨z0, e0, _, _⟩ := DataW.trod_int Try.underlying3 g0
      obtain ⟨z1, e1, _, w1⟩ := DataW.trod_int Try.underlying3 g1
      obtain ⟨z2, e2, _, w2⟩ := DataW.trod_int Try.underlying3 g2
      obtain ⟨A, l, c, rfl, r1, r2, r3⟩ := open_rowB g3 b3
      obtain ⟨pA, p, pc, rfl, q1, q2, q3, q4⟩ := open_rowI g4 b4
      simp only [List.cons.injEq, and_true] at e0 e1 e2
      subst e0 e1 e2
      exact ⟨⟨z0, z1, z2, A, c, l, pA, pc, p⟩, rfl, ⟨r1, r2, by simp only; omega, q1, q3, by simp only; omega, q2, wf_i64 w1, wf_i64 w2⟩, q4, r3⟩
theorem open_nacts {sp : Nat → Bool} {held : Bool} {fuel : Nat} {v : Value} {d : DataW H} {ps : List MemPlace} (h : DataW.trod enc Try.prog W 0 sp held fuel 22 [v] = some (d, ps)) (hw : Rows.uptoBulk d ≤ 1048576) :
    ∃ A l c, v = .slice A l.length c ∧ Rd W A (acells l) ∧ (∀ x ∈ l, x.ok W ∧ x.p.length ≤ 1048576 ∧ x.l.length ≤ 1048576) ∧ l.length ≤ 1048576 := by
  rcases open_slice Try.underlying22 h with ⟨hv, _⟩ | ⟨a, len, cap, m, n, D, Pl, hv, _, hlc, _, hm, hd, hx⟩
  · simp only [List.cons.injEq, and_true] at hv
    exact ⟨none, [], 0, by simpa using hv, Rd.none_, by simp, by simp⟩
  · simp only [List.cons.injEq, and_true] at hv
    have hle : len ≤ m := by rw [hm]; split <;> omega
    rw [Try.cellsAct] at hx
    have hd' : d = .slice ((List.range len).map D) ((List.range (m - len)).map fun j => D (len + j)) := by injection hd
    rw [hd'] at hw
    simp only [Rows.uptoBulk] at hw
    have hlb := bulk_len ((List.range len).map D)
    simp only [List.length_map, List.length_range] at hlb
    have hall : ∀ i, i < len → ∃ x : NAct, (∀ j, j < 5 → W.cell? (a.add (i * 5 + j)) = x.cells[j]?) ∧ x.ok W ∧ x.p.length ≤ 1048576 ∧ x.l.length ≤ 1048576 := fun i hi => by
      obtain ⟨cs', hc, ht⟩ := hx i (by omega)
      obtain ⟨_, _, hat⟩ := World.cells?_some hc
      have hbi := bulk_part (H := H) (d := D i) (l := (List.range len).map D) (List.mem_map.2 ⟨i, List.mem_range.2 hi, rfl⟩)
      obtain ⟨x, rfl, hxa⟩ := open_nact ht (by simp only; omega)
      exact ⟨x, fun j hj => by rw [← add_add']; exact hat j hj, hxa⟩
    haveI : Inhabited NAct := ⟨⟨0, 0, 0, none, 0, [], none, 0, []⟩⟩
    obtain ⟨S, hS⟩ := choose_lt hall
    have hlen : ((List.range len).map S).length = len := by simp
    refine ⟨some a, (List.range len).map S, cap, by rw [hlen]; exact hv, fun hn => ⟨a, rfl, ?_, fun j u hu => ?_⟩, ?_, by rw [hlen]; omega⟩
    · have h0 : 0 < len := by
        rcases Nat.eq_zero_or_pos len with e | e
        · exfalso; apply hn; subst e; simp [acells]
        · exact e
      have h1 := (hS 0 h0).1 0 (by omega)
      have := cell_block (h1.trans rfl)
      rwa [add_block] at this
    · have hj : j < len * 5 := by
        have := (List.getElem?_eq_some_iff.1 hu).1
        rwa [acells_length, hlen] at this
      have e : j = j / 5 * 5 + j % 5 := by omega
      rw [e] at hu ⊢
      rw [acells_get _ (j / 5) _ (by rw [hlen]; omega) (by omega)] at hu
      rw [(hS (j / 5) (by omega)).1 (j % 5) (by omega), ← hu]
      simp
    · intro x hx'
      obtain ⟨i, hi, rfl⟩ := List.mem_map.1 hx'
      exact (hS i (List.mem_range.1 hi)).2
theorem open_nactsA {sp : Nat → Bool} {held : Bool} {r : Reach} {b0 : Nat} {v : Value} {d : DataW H} {p : List MemPlace} (hv : Value.okWide Try.prog W r b0 22 v) (h : DataW.Trod enc Try.prog W 0 sp held 22 v d p) (hw : Rows.uptoBulk d ≤ 1048576) :
    ∃ A l c, v = .slice A l.length c ∧ Rd W A (acells l) ∧ (∀ x ∈ l, x.ok W) ∧ l.length ≤ 1048576 := by
  obtain ⟨a0, l0, c0, rfl⟩ := okWide_slice Try.underlying22 hv
  obtain ⟨fuel, h1⟩ := h
  obtain ⟨A, l, c, e, r, k, n⟩ := open_nacts h1 hw
  exact ⟨A, l, c, e, r, fun x hx => (k x hx).1, n⟩
theorem open_nactsB {sp : Nat → Bool} {held : Bool} {r : Reach} {b0 : Nat} {v : Value} {d : DataW H} {p : List MemPlace} (hv : Value.okWide Try.prog W r b0 22 v) (h : DataW.Trod enc Try.prog W 0 sp held 22 v d p) (hw : Rows.uptoBulk d ≤ 1048576) :
    ∃ A l c, v = .slice A l.length c ∧ Rd W A (acells l) ∧ (∀ x ∈ l, x.ok W ∧ x.p.length ≤ 1048576 ∧ x.l.length ≤ 1048576) ∧ l.length ≤ 1048576 := by
  obtain ⟨a0, l0, c0, rfl⟩ := okWide_slice Try.underlying22 hv
  obtain ⟨fuel, h1⟩ := h
  exact open_nacts h1 hw
end
end Go.Proofs.Ytadgaphgomagkaa
