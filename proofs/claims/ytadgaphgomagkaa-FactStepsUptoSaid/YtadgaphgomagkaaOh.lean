/- Openers: slices of facts, where what is read is of bulk at most 1048576. -/
import Derived.Test.YtadgaphgomagkaaOa
import Derived.Test.YtadgaphgomagkaaKa
namespace Go.Proofs.Ytadgaphgomagkaa
open Go.ChangeShapes Go.WideShapes Go.ChangeAt Go.RowKit Go.Deep
set_option maxRecDepth 100000

theorem bulk_one {H : Type} (d : DataW H) : 1 ≤ Rows.uptoBulk d := by
  cases d with
  | lit l => cases l <;> simp [Rows.uptoBulk]
  | nil => simp [Rows.uptoBulk]
  | ptr d => simp [Rows.uptoBulk]
  | slice elems spare => simp [Rows.uptoBulk]
  | agg parts => simp [Rows.uptoBulk]
  | iface t d => simp [Rows.uptoBulk]
  | map entries => simp [Rows.uptoBulk]
  | held h => simp [Rows.uptoBulk]
theorem bulk_part {H : Type} {d : DataW H} {l : List (DataW H)} (h : d ∈ l) : Rows.uptoBulk d ≤ Rows.uptoBulkAll l := by
  induction l with
  | nil => cases h
  | cons x r ih =>
    simp only [Rows.uptoBulkAll]
    cases List.mem_cons.1 h with
    | inl e => subst e; omega
    | inr e => have := ih e; omega
theorem bulk_len {H : Type} (l : List (DataW H)) : l.length ≤ Rows.uptoBulkAll l := by
  induction l with
  | nil => simp [Rows.uptoBulkAll]
  | cons x r ih => have := bulk_one x; simp only [Rows.uptoBulkAll, List.length_cons]; omega
theorem bulk_bound {H : Type} {l : List (DataW H)} (hk : Rows.uptoSmall H l = true) : Rows.uptoBulkAll l ≤ 1048576 := of_decide_eq_true hk

theorem Try.cellsStr : Try.prog.cellsOf 9 = 1 := by kernel_rfl
theorem Try.cellsU64 : Try.prog.cellsOf 69 = 1 := by kernel_rfl
theorem Try.cellsFact : Try.prog.cellsOf 71 = 3 := by kernel_rfl
theorem Try.factFields : ∃ f0 f1 f2 : Field, Try.prog.underlying 71 = some (.struct #[f0, f1, f2]) ∧ (f0.type, f0.offset) = (9, 0) ∧ (f1.type, f1.offset) = (69, 1) ∧ (f2.type, f2.offset) = (35, 2) :=
  ⟨_, _, _, Try.underlying71, rfl, rfl, rfl⟩
section
variable {H : Type} {enc : TypeId × Value → H} {W : World}
theorem open_rowB {sp : Nat → Bool} {held : Bool} {fuel : Nat} {v : Value} {d : DataW H} {ps : List MemPlace} (h : DataW.trod enc Try.prog W 0 sp held fuel 35 [v] = some (d, ps)) (hw : Rows.uptoBulk d ≤ 1048576) :
    ∃ A l c, v = .slice A l.length c ∧ Rd W A (byts l) ∧ l.length ≤ c ∧ l.length ≤ 1048576 := by
  rcases open_ints Try.underlying35 Try.underlying5 Try.cells8 h with ⟨hv, _⟩ | ⟨a, len, cap, zs, hv, _, hlc, _, hz, hd, hc, hwf⟩
  · simp only [List.cons.injEq, and_true] at hv
    exact ⟨none, [], 0, by simpa using hv, Rd.none_, Nat.le_refl _, by simp⟩
  · simp only [List.cons.injEq, and_true] at hv
    have hle : len ≤ zs.length := by rw [hz]; split <;> omega
    obtain ⟨l, hl, hb⟩ := bytes_of_ints (zs.take len) fun n hn => hwf n (List.mem_of_mem_take hn)
    have hl' : l.length = len := by rw [hl, List.length_take]; omega
    refine ⟨some a, l, cap, by rw [hl']; exact hv, fun hn => ⟨a, rfl, ?_, fun j u hu => ?_⟩, by omega, ?_⟩
    · have h0 : 0 < zs.length := by
        rcases Nat.eq_zero_or_pos zs.length with e | e
        · exfalso; apply hn; rw [← hb, List.eq_nil_of_length_eq_zero e]; simp
        · exact e
      have := cell_block (hc 0 h0)
      rwa [add_block] at this
    · rw [← hb, List.getElem?_map] at hu
      obtain ⟨z, hz1, rfl⟩ := Option.map_eq_some_iff.1 hu
      rw [List.getElem?_take] at hz1
      split at hz1
      · have hj : j < zs.length := (List.getElem?_eq_some_iff.1 hz1).1
        rw [hc j hj, List.getD, hz1]
        rfl
      · cases hz1
    · have hd' : d = .slice (lits .u8 (zs.take len)) (lits .u8 (zs.drop len)) := by injection hd
      rw [hd'] at hw
      simp only [Rows.uptoBulk] at hw
      have := bulk_len (lits .u8 (zs.take len) (H := H))
      have hL : (lits .u8 (zs.take len) (H := H)).length = len := by unfold lits; rw [List.length_map, List.length_take]; omega
      omega
theorem open_fact {sp : Nat → Bool} {held : Bool} {fuel : Nat} {cs : List Value} {x : DataW H × List MemPlace} (h : DataW.trod enc Try.prog W 0 sp held fuel 71 cs = some x) (hw : Rows.uptoBulk x.1 ≤ 1048576) : ∃ m : FM, cs = m.cells ∧ m.ok W := by
  obtain ⟨f0, f1, f2, hu, t0, t1, t2⟩ := Try.factFields
  simp only [Prod.mk.injEq] at t0 t1 t2
  obtain ⟨xs, n, _, hx, hl, hxl, hf⟩ := DataW.trod_struct hu h
  rw [Try.cellsFact] at hl
  match cs, hl with
  | [c0, c1, c2], _ =>
    match xs, hxl with
    | [y0, y1, y2], _ =>
      have g0 := hf 0 f0 rfl
      have g1 := hf 1 f1 rfl
      have g2 := hf 2 f2 rfl
      rw [t0.1, t0.2, Try.cellsStr] at g0
      rw [t1.1, t1.2, Try.cellsU64] at g1
      rw [t2.1, t2.2, Try.cellsRow] at g2
      simp only [List.drop_zero, List.drop_succ_cons, List.take_succ_cons, List.take_zero, List.getElem?_cons_zero, List.getElem?_cons_succ] at g0 g1 g2
      subst hx
      simp only [Rows.uptoBulk] at hw
      have b0 : Rows.uptoBulk y0.1 ≤ 1048576 := by
        have := bulk_part (H := H) (d := y0.1) (l := [y0, y1, y2].map (·.1)) (by simp)
        omega
      have b2 : Rows.uptoBulk y2.1 ≤ 1048576 := by
        have := bulk_part (H := H) (d := y2.1) (l := [y0, y1, y2].map (·.1)) (by simp)
        omega
      obtain ⟨z0, e0, d0, _⟩ := DataW.trod_string Try.underlying9 g0
      obtain ⟨z1, e1, _, w1⟩ := DataW.trod_int Try.underlying69 g1
      obtain ⟨A, l, c, rfl, r1, r2, r3⟩ := open_rowB g2 b2
      simp only [List.cons.injEq, and_true] at e0 e1
      subst e0 e1
      obtain ⟨n1, rfl, hn1⟩ := wf_u64 w1
      refine ⟨⟨z0, n1, A, c, l⟩, rfl, ⟨r1, r2, r3, hn1, ?_⟩⟩
      rw [d0] at b0
      simp only [Rows.uptoBulk] at b0
      have : z0.data.toList.length = z0.size := rfl
      simp only
      omega
theorem open_facts {sp : Nat → Bool} {held : Bool} {fuel : Nat} {v : Value} {d : DataW H} {ps : List MemPlace} (h : DataW.trod enc Try.prog W 0 sp held fuel 56 [v] = some (d, ps)) (hw : Rows.uptoBulk d ≤ 1048576) :
    ∃ A l c, v = .slice A l.length c ∧ Rd W A (fcells l) ∧ (∀ x ∈ l, x.ok W) ∧ l.length ≤ 1048576 ∧ l.length ≤ c := by
  rcases open_slice Try.underlying56 h with ⟨hv, _⟩ | ⟨a, len, cap, m, n, D, Pl, hv, _, hlc, _, hm, hd, hx⟩
  · simp only [List.cons.injEq, and_true] at hv
    exact ⟨none, [], 0, by simpa using hv, Rd.none_, by simp, by simp, by simp⟩
  · simp only [List.cons.injEq, and_true] at hv
    have hle : len ≤ m := by rw [hm]; split <;> omega
    rw [Try.cellsFact] at hx
    have hd' : d = .slice ((List.range len).map D) ((List.range (m - len)).map fun j => D (len + j)) := by injection hd
    rw [hd'] at hw
    simp only [Rows.uptoBulk] at hw
    have hlb := bulk_len ((List.range len).map D)
    simp only [List.length_map, List.length_range] at hlb
    have hall : ∀ i, i < len → ∃ x : FM, (∀ j, j < 3 → W.cell? (a.add (i * 3 + j)) = x.cells[j]?) ∧ x.ok W := fun i hi => by
      obtain ⟨cs', hc, ht⟩ := hx i (by omega)
      obtain ⟨_, _, hat⟩ := World.cells?_some hc
      have hbi := bulk_part (H := H) (d := D i) (l := (List.range len).map D) (List.mem_map.2 ⟨i, List.mem_range.2 hi, rfl⟩)
      obtain ⟨x, rfl, hxa⟩ := open_fact ht (by simp only; omega)
      exact ⟨x, fun j hj => by rw [← add_add']; exact hat j hj, hxa⟩
    haveI : Inhabited FM := ⟨⟨⟨#[]⟩, 0, none, 0, []⟩⟩
    obtain ⟨S, hS⟩ := choose_lt hall
    have hlen : ((List.range len).map S).length = len := by simp
    refine ⟨some a, (List.range len).map S, cap, by rw [hlen]; exact hv, fun hn => ⟨a, rfl, ?_, fun j u hu => ?_⟩, ?_, by rw [hlen]; omega, by rw [hlen]; exact hlc⟩
    · have h0 : 0 < len := by
        rcases Nat.eq_zero_or_pos len with e | e
        · exfalso; apply hn; subst e; simp [fcells]
        · exact e
      have h1 := (hS 0 h0).1 0 (by omega)
      have := cell_block (h1.trans rfl)
      rwa [add_block] at this
    · have hj : j < len * 3 := by
        have := (List.getElem?_eq_some_iff.1 hu).1
        rwa [fcells_length, hlen] at this
      have e : j = j / 3 * 3 + j % 3 := by omega
      rw [e] at hu ⊢
      rw [fcells_get _ (j / 3) _ (by rw [hlen]; omega) (by omega)] at hu
      rw [(hS (j / 3) (by omega)).1 (j % 3) (by omega), ← hu]
      simp
    · intro x hx'
      obtain ⟨i, hi, rfl⟩ := List.mem_map.1 hx'
      exact (hS i (List.mem_range.1 hi)).2
theorem open_factsB {sp : Nat → Bool} {held : Bool} {r : Reach} {b0 : Nat} {v : Value} {d : DataW H} {p : List MemPlace} (hv : Value.okWide Try.prog W r b0 56 v) (h : DataW.Trod enc Try.prog W 0 sp held 56 v d p) (hw : Rows.uptoBulk d ≤ 1048576) :
    ∃ A l c, v = .slice A l.length c ∧ Rd W A (fcells l) ∧ (∀ x ∈ l, x.ok W) ∧ l.length ≤ 1048576 ∧ l.length ≤ c := by
  obtain ⟨a0, l0, c0, rfl⟩ := okWide_slice Try.underlying56 hv
  obtain ⟨fuel, h1⟩ := h
  exact open_facts h1 hw
end
end Go.Proofs.Ytadgaphgomagkaa
