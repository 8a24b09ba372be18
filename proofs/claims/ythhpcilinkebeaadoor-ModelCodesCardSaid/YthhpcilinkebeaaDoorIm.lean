/- Openers: slices of operations, where what is read is of bulk at most 1048576. -/
import Derived.Test.YthhpcilinkebeaaDoorOg
import Derived.Test.YthhpcilinkebeaaDoorIk
namespace Go.Proofs.YthhpcilinkebeaaDoor
open Go.ChangeShapes Go.WideShapes Go.ChangeAt Go.RowKit Go.Deep
set_option maxRecDepth 100000

theorem bulk_one {H : Type} (d : DataW H) : 1 ≤ Rows.uptoBulk d := by
  cases d with
  | lit l => cases l <;> simp [Rows.uptoBulk]
  | nil => simp [Rows.uptoBulk]
  | ptr d => simp [Rows.uptoBulk]
  | slice elems spare => simp [Rows.uptoBulk]
  | agg parts => simp [Rows.uptoBulk]
  | iface t d => simp [Rows.uptoBulk]
  | map entries => simp [Rows.uptoBulk]
  | held h => simp [Rows.uptoBulk]
theorem bulk_part {H : Type} {d : DataW H} {l : List (DataW H)} (h : d ∈ l) : Rows.uptoBulk d ≤ Rows.uptoBulkAll l := by
  induction l with
  | nil => cases h
  | cons x r ih =>
    simp only [Rows.uptoBulkAll]
    cases List.mem_cons.1 h with
    | inl e => subst e; omega
    | inr e => have := ih e; omega
theorem bulk_len {H : Type} (l : List (DataW H)) : l.length ≤ Rows.uptoBulkAll l := by
  induction l with
  | nil => simp [Rows.uptoBulkAll]
  | cons x r ih => have := bulk_one x; simp only [Rows.uptoBulkAll, List.length_cons]; omega
theorem bulk_bound {H : Type} {l : List (DataW H)} (hk : Rows.uptoSmall H l = true) : Rows.uptoBulkAll l ≤ 1048576 := of_decide_eq_true hk

theorem Tryd.cellsStr : Tryd.prog.cellsOf 9 = 1 := by kernel_rfl
theorem Tryd.cellsInt : Tryd.prog.cellsOf 3 = 1 := by kernel_rfl
theorem Tryd.cellsOp : Tryd.prog.cellsOf 33 = 6 := by kernel_rfl
theorem Tryd.opFields : ∃ f0 f1 f2 f3 f4 f5 : Field, Tryd.prog.underlying 33 = some (.struct #[f0, f1, f2, f3, f4, f5]) ∧ (f0.type, f0.offset) = (3, 0) ∧ (f1.type, f1.offset) = (9, 1) ∧ (f2.type, f2.offset) = (9, 2) ∧ (f3.type, f3.offset) = (3, 3) ∧ (f4.type, f4.offset) = (3, 4) ∧ (f5.type, f5.offset) = (31, 5) :=
  ⟨_, _, _, _, _, _, Tryd.underlying33, rfl, rfl, rfl, rfl, rfl, rfl⟩
/-- an operation that is an argument -/
def OM.arg (o : OM) (w : World) : Prop := (o.name.size ≤ 281474976710656 ∧ o.dst.size ≤ 281474976710656 ∧ o.l.length ≤ 140737488351232) ∧ Rd w o.A (byts o.l) ∧ o.l.length ≤ o.c ∧ I64 o.kind ∧ I64 o.at_ ∧ I64 o.n
section
variable {H : Type} {enc : TypeId × Value → H} {W : World}
theorem open_rowB {sp : Nat → Bool} {held : Bool} {fuel : Nat} {v : Value} {d : DataW H} {ps : List MemPlace} (h : DataW.trod enc Tryd.prog W 0 sp held fuel 31 [v] = some (d, ps)) (hw : Rows.uptoBulk d ≤ 1048576) :
    ∃ A l c, v = .slice A l.length c ∧ Rd W A (byts l) ∧ l.length ≤ c ∧ l.length ≤ 1048576 := by
  rcases open_ints Tryd.underlying31 Tryd.underlying5 Tryd.cells8 h with ⟨hv, _⟩ | ⟨a, len, cap, zs, hv, _, hlc, _, hz, hd, hc, hwf⟩
  · simp only [List.cons.injEq, and_true] at hv
    exact ⟨none, [], 0, by simpa using hv, Rd.none_, Nat.le_refl _, by simp⟩
  · simp only [List.cons.injEq, and_true] at hv
    have hle : len ≤ zs.length := by rw [hz]; split <;> omega
    obtain ⟨l, hl, hb⟩ := bytes_of_ints (zs.take len) fun n hn => hwf n (List.mem_of_mem_take hn)
    have hl' : l.length = len := by rw [hl, List.length_take]; omega
    refine ⟨some a, l, cap, by rw [hl']; exact hv, fun hn => ⟨a, rfl, ?_, fun j u hu => ?_⟩, by omega, ?_⟩
    · have h0 : 0 < zs.length := by
        rcases Nat.eq_zero_or_pos zs.length with e | e
        · exfalso; apply hn; rw [← hb, List.eq_nil_of_length_eq_zero e]; simp
        · exact e
      have := cell_block (hc 0 h0)
      rwa [add_block] at this
    · rw [← hb, List.getElem?_map] at hu
      obtain ⟨z, hz1, rfl⟩ := Option.map_eq_some_iff.1 hu
      rw [List.getElem?_take] at hz1
      split at hz1
      · have hj : j < zs.length := (List.getElem?_eq_some_iff.1 hz1).1
        rw [hc j hj, List.getD, hz1]
        rfl
      · cases hz1
    · have hd' : d = .slice (lits .u8 (zs.take len)) (lits .u8 (zs.drop len)) := by injection hd
      rw [hd'] at hw
      simp only [Rows.uptoBulk] at hw
      have := bulk_len (lits .u8 (zs.take len) (H := H))
      have hL : (lits .u8 (zs.take len) (H := H)).length = len := by unfold lits; rw [List.length_map, List.length_take]; omega
      omega
theorem open_op {sp : Nat → Bool} {held : Bool} {fuel : Nat} {cs : List Value} {x : DataW H × List MemPlace} (h : DataW.trod enc Tryd.prog W 0 sp held fuel 33 cs = some x) (hw : Rows.uptoBulk x.1 ≤ 1048576) : ∃ m : OM, cs = m.cells ∧ m.arg W := by
  obtain ⟨f0, f1, f2, f3, f4, f5, hu, t0, t1, t2, t3, t4, t5⟩ := Tryd.opFields
  simp only [Prod.mk.injEq] at t0 t1 t2 t3 t4 t5
  obtain ⟨xs, n, _, hx, hl, hxl, hf⟩ := DataW.trod_struct hu h
  rw [Tryd.cellsOp] at hl
  match cs, hl with
  | [c0, c1, c2, c3, c4, c5], _ =>
    match xs, hxl with
    | [y0, y1, y2, y3, y4, y5], _ =>
      have g0 := hf 0 f0 rfl
      have g1 := hf 1 f1 rfl
      have g2 := hf 2 f2 rfl
      have g3 := hf 3 f3 rfl
      have g4 := hf 4 f4 rfl
      have g5 := hf 5 f5 rfl
      rw [t0.1, t0.2, Tryd.cellsInt] at g0
      rw [t1.1, t1.2, Tryd.cellsStr] at g1
      rw [t2.1, t2.2, Tryd.cellsStr] at g2
      rw [t3.1, t3.2, Tryd.cellsInt] at g3
      rw [t4.1, t4.2, Tryd.cellsInt] at g4
      rw [t5.1, t5.2, Tryd.cellsRow] at g5
      simp only [List.drop_zero, List.drop_succ_cons, List.take_succ_cons, List.take_zero, List.getElem?_cons_zero, List.getElem?_cons_succ] at g0 g1 g2 g3 g4 g5
      subst hx
      simp only [Rows.uptoBulk] at hw
      have bk : ∀ y ∈ [y0, y1, y2, y3, y4, y5], Rows.uptoBulk y.1 ≤ 1048576 := fun y hy => by
        have := bulk_part (H := H) (d := y.1) (l := [y0, y1, y2, y3, y4, y5].map (·.1)) (List.mem_map.2 ⟨y, hy, rfl⟩)
        omega
      obtain ⟨z0, e0, _, w0⟩ := DataW.trod_int Tryd.underlying3 g0
      obtain ⟨z1, e1, d1, _⟩ := DataW.trod_string Tryd.underlying9 g1
      obtain ⟨z2, e2, d2, _⟩ := DataW.trod_string Tryd.underlying9 g2
      obtain ⟨z3, e3, _, w3⟩ := DataW.trod_int Tryd.underlying3 g3
      obtain ⟨z4, e4, _, w4⟩ := DataW.trod_int Tryd.underlying3 g4
      obtain ⟨A, l, c, rfl, r1, r2, r3⟩ := open_rowB g5 (bk y5 (by simp))
      simp only [List.cons.injEq, and_true] at e0 e1 e2 e3 e4
      subst e0 e1 e2 e3 e4
      have b1 := bk y1 (by simp)
      have b2 := bk y2 (by simp)
      rw [d1] at b1
      rw [d2] at b2
      simp only [Rows.uptoBulk] at b1 b2
      have s1 : z1.data.toList.length = z1.size := rfl
      have s2 : z2.data.toList.length = z2.size := rfl
      exact ⟨⟨z0, z1, z2, z3, z4, A, l, c⟩, rfl, ⟨by simp only; omega, by simp only; omega, by simp only; omega⟩, r1, r2, wf_i64 w0, wf_i64 w3, wf_i64 w4⟩
theorem open_ops {sp : Nat → Bool} {held : Bool} {fuel : Nat} {v : Value} {d : DataW H} {ps : List MemPlace} (h : DataW.trod enc Tryd.prog W 0 sp held fuel 22 [v] = some (d, ps)) (hw : Rows.uptoBulk d ≤ 1048576) :
    ∃ A l c, v = .slice A l.length c ∧ Rd W A (ocells l) ∧ (∀ x ∈ l, x.arg W) ∧ l.length ≤ 1048576 ∧ l.length ≤ c := by
  rcases open_slice Tryd.underlying22 h with ⟨hv, _⟩ | ⟨a, len, cap, m, n, D, Pl, hv, _, hlc, _, hm, hd, hx⟩
  · simp only [List.cons.injEq, and_true] at hv
    exact ⟨none, [], 0, by simpa using hv, Rd.none_, by simp, by simp, by simp⟩
  · simp only [List.cons.injEq, and_true] at hv
    have hle : len ≤ m := by rw [hm]; split <;> omega
    rw [Tryd.cellsOp] at hx
    have hd' : d = .slice ((List.range len).map D) ((List.range (m - len)).map fun j => D (len + j)) := by injection hd
    rw [hd'] at hw
    simp only [Rows.uptoBulk] at hw
    have hlb := bulk_len ((List.range len).map D)
    simp only [List.length_map, List.length_range] at hlb
    have hall : ∀ i, i < len → ∃ x : OM, (∀ j, j < 6 → W.cell? (a.add (i * 6 + j)) = x.cells[j]?) ∧ x.arg W := fun i hi => by
      obtain ⟨cs', hc, ht⟩ := hx i (by omega)
      obtain ⟨_, _, hat⟩ := World.cells?_some hc
      have hbi := bulk_part (H := H) (d := D i) (l := (List.range len).map D) (List.mem_map.2 ⟨i, List.mem_range.2 hi, rfl⟩)
      obtain ⟨x, rfl, hxa⟩ := open_op ht (by simp only; omega)
      exact ⟨x, fun j hj => by rw [← add_add']; exact hat j hj, hxa⟩
    haveI : Inhabited OM := ⟨⟨0, ⟨#[]⟩, ⟨#[]⟩, 0, 0, none, [], 0⟩⟩
    obtain ⟨S, hS⟩ := choose_lt hall
    have hlen : ((List.range len).map S).length = len := by simp
    refine ⟨some a, (List.range len).map S, cap, by rw [hlen]; exact hv, fun hn => ⟨a, rfl, ?_, fun j u hu => ?_⟩, ?_, by rw [hlen]; omega, by rw [hlen]; exact hlc⟩
    · have h0 : 0 < len := by
        rcases Nat.eq_zero_or_pos len with e | e
        · exfalso; apply hn; subst e; simp [ocells]
        · exact e
      have h1 := (hS 0 h0).1 0 (by omega)
      have := cell_block (h1.trans rfl)
      rwa [add_block] at this
    · have hj : j < len * 6 := by
        have := (List.getElem?_eq_some_iff.1 hu).1
        rwa [ocells_length, hlen] at this
      have e : j = j / 6 * 6 + j % 6 := by omega
      rw [e] at hu ⊢
      rw [ocells_get _ (j / 6) _ (by rw [hlen]; omega) (by omega)] at hu
      rw [(hS (j / 6) (by omega)).1 (j % 6) (by omega), ← hu]
      simp
    · intro x hx'
      obtain ⟨i, hi, rfl⟩ := List.mem_map.1 hx'
      exact (hS i (List.mem_range.1 hi)).2
theorem open_opsB {sp : Nat → Bool} {held : Bool} {r : Reach} {b0 : Nat} {v : Value} {d : DataW H} {p : List MemPlace} (hv : Value.okWide Tryd.prog W r b0 22 v) (h : DataW.Trod enc Tryd.prog W 0 sp held 22 v d p) (hw : Rows.uptoBulk d ≤ 1048576) :
    ∃ A l c, v = .slice A l.length c ∧ Rd W A (ocells l) ∧ (∀ x ∈ l, x.arg W) ∧ l.length ≤ 1048576 ∧ l.length ≤ c := by
  obtain ⟨a0, l0, c0, rfl⟩ := okWide_slice Tryd.underlying22 hv
  obtain ⟨fuel, h1⟩ := h
  exact open_ops h1 hw
end
end Go.Proofs.YthhpcilinkebeaaDoor
