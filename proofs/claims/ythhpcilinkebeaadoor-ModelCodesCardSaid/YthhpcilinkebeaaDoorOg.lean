/- Openers (of a seat without the frame's texts): rows of bytes, rows of rows; numbers in their bounds; what a law leaves. -/
import Derived.Test.YthhpcilinkebeaaDoorWa
import Derived.Test.YthhpcilinkebeaaDoorVa
import Derived.Test.YthhpcilinkebeaaDoorRows
import Derived.ProofKit
import Derived.Deep.Slices
import Derived.SizedLaws
import Derived.Carry
namespace Go.Proofs.YthhpcilinkebeaaDoor
open Go.ChangeShapes Go.WideShapes Go.ChangeAt Go.RowKit Go.Deep
set_option maxRecDepth 100000

theorem Tryd.own : ownKnob Tryd.prog.godebug = none := by kernel_rfl
theorem Tryd.laidOut : laidOutB Tryd.prog = true := by kernel_rfl
theorem Tryd.bytes8 : Tryd.prog.bytesOf 5 = 1 := by kernel_rfl
theorem Tryd.bytesRow : Tryd.prog.bytesOf 31 = 24 := by kernel_rfl
theorem Tryd.cells8 : Tryd.prog.cellsOf 5 = 1 := by kernel_rfl
theorem Tryd.cellsRow : Tryd.prog.cellsOf 31 = 1 := by kernel_rfl

section
variable {H : Type} {enc : TypeId × Value → H} {W W' : World}

theorem cell_block {W : World} {p : Addr} {u : Value} (h : W.cell? p = some u) : p.block < W.heap.size := by
  rcases Nat.lt_or_ge p.block W.heap.size with hlt | hge
  · exact hlt
  · exfalso
    unfold World.cell? at h
    rw [Array.getElem?_eq_none hge] at h
    cases h

theorem bytes_of_ints (zs : List Int) (h : ∀ n ∈ zs, (Lit.int .u8 n).wf = true) : ∃ l : List UInt8, l.length = zs.length ∧ zs.map (Value.int .u8) = byts l := by
  refine ⟨zs.map fun z => UInt8.ofNat z.toNat, by simp, ?_⟩
  unfold byts
  rw [List.map_map]
  refine List.map_congr_left fun z hz => ?_
  have h01 : 0 ≤ z ∧ z < 256 := by
    have := h z hz
    simp [Lit.wf, IntKind.min, IntKind.max, IntKind.signed, IntKind.bits] at this
    omega
  show Value.int .u8 z = Value.int .u8 (((UInt8.ofNat z.toNat).toNat : Nat) : Int)
  rw [UInt8.toNat_ofNat', Nat.mod_eq_of_lt (by omega)]
  congr 1
  omega

theorem open_row {sp : Nat → Bool} {held : Bool} {fuel : Nat} {v : Value} {d : DataW H} {ps : List MemPlace} (h : DataW.trod enc Tryd.prog W 0 sp held fuel 31 [v] = some (d, ps)) (hw : ∀ n ∈ d.weights Tryd.prog 31, n ≤ reachBytes) :
    ∃ A l c, v = .slice A l.length c ∧ Rd W A (byts l) ∧ l.length ≤ c ∧ l.length ≤ 140737488351232 := by
  rcases open_ints Tryd.underlying31 Tryd.underlying5 Tryd.cells8 h with ⟨hv, _⟩ | ⟨a, len, cap, zs, hv, _, hlc, _, hz, hd, hc, hwf⟩
  · simp only [List.cons.injEq, and_true] at hv
    exact ⟨none, [], 0, by simpa using hv, Rd.none_, Nat.le_refl _, by simp⟩
  · simp only [List.cons.injEq, and_true] at hv
    have hle : len ≤ zs.length := by rw [hz]; split <;> omega
    obtain ⟨l, hl, hb⟩ := bytes_of_ints (zs.take len) fun n hn => hwf n (List.mem_of_mem_take hn)
    have hl' : l.length = len := by rw [hl, List.length_take]; omega
    refine ⟨some a, l, cap, by rw [hl']; exact hv, fun hn => ⟨a, rfl, ?_, fun j u hu => ?_⟩, by omega, ?_⟩
    · have h0 : 0 < zs.length := by
        rcases Nat.eq_zero_or_pos zs.length with e | e
        · exfalso; apply hn; rw [← hb, List.eq_nil_of_length_eq_zero e]; simp
        · exact e
      have := cell_block (hc 0 h0)
      rwa [add_block] at this
    · rw [← hb, List.getElem?_map] at hu
      obtain ⟨z, hz1, rfl⟩ := Option.map_eq_some_iff.1 hu
      rw [List.getElem?_take] at hz1
      split at hz1
      · have hj : j < zs.length := (List.getElem?_eq_some_iff.1 hz1).1
        rw [hc j hj, List.getD, hz1]
        rfl
      · cases hz1
    · have hd' : d = .slice (lits .u8 (zs.take len)) (lits .u8 (zs.drop len)) := by injection hd
      have := hw ((lits .u8 (zs.take len) (H := H)).length + (lits .u8 (zs.drop len) (H := H)).length) (by
        rw [hd', DataW.weights, Tryd.underlying31]
        simp [Tryd.bytes8])
      simp only [lits, List.length_map, List.length_take, List.length_drop, reachBytes] at this
      omega

theorem open_rows {held : Bool} {fuel : Nat} {v : Value} {d : DataW H} {ps : List MemPlace} (h : DataW.trod enc Tryd.prog W 0 (fun _ => true) held fuel 144 [v] = some (d, ps)) (hw : ∀ n ∈ d.weights Tryd.prog 144, n ≤ reachBytes) :
    ∃ A c, ∃ bs : List Sb, v = .slice A bs.length c ∧ Rd W A (bs.map Sb.val) ∧ bs.length ≤ 5864062014806 ∧ (∀ s ∈ bs, s.ok W) ∧ bs.length ≤ c := by
  rcases open_slice1 Tryd.underlying144 Tryd.cellsRow h with ⟨hv, _⟩ | ⟨a, len, cap, m, n, V, D, Pl, hv, _, hlc, _, hm, hd, hx⟩
  · simp only [List.cons.injEq, and_true] at hv
    exact ⟨none, 0, [], by simpa using hv, Rd.none_, by simp, by simp, by simp⟩
  · simp only [List.cons.injEq, and_true] at hv
    have hle : len ≤ m := by rw [hm]; split <;> omega
    have hd' : d = .slice ((List.range len).map D) ((List.range (m - len)).map fun j => D (len + j)) := by injection hd
    have hwe : ∀ i, i < len → ∀ k ∈ (D i).weights Tryd.prog 31, k ≤ reachBytes := fun i hi k hk => hw k (by
      rw [hd', DataW.weights, Tryd.underlying144]
      refine List.mem_cons_of_mem _ (List.mem_append_left _ ?_)
      have hall : ∀ (l : List (DataW H)) (x : DataW H), x ∈ l → ∀ k ∈ x.weights Tryd.prog 31, k ∈ DataW.weightsAll Tryd.prog 31 l := by
        intro l
        induction l with
        | nil => intro x hx; cases hx
        | cons y r ih =>
          intro x hx k hk
          rw [DataW.weightsAll, List.mem_append]
          rcases List.mem_cons.1 hx with rfl | hx
          · exact Or.inl hk
          · exact Or.inr (ih x hx k hk)
      exact hall _ _ (List.mem_map.2 ⟨i, List.mem_range.2 hi, rfl⟩) k hk)
    have hall : ∀ i, i < len → ∃ s : Sb, V i = s.val ∧ s.ok W := fun i hi => by
      obtain ⟨_, h2⟩ := hx i (by omega)
      obtain ⟨A, l, c, h3, h4, h5, h6⟩ := open_row h2 (hwe i hi)
      exact ⟨⟨A, c, l⟩, h3, h4, h5, h6⟩
    haveI : Inhabited Sb := ⟨⟨none, 0, []⟩⟩
    obtain ⟨S, hS⟩ := choose_lt hall
    refine ⟨some a, cap, (List.range len).map S, by simpa using hv, fun hn => ⟨a, rfl, ?_, fun j u hu => ?_⟩, ?_, ?_, by simpa using hlc⟩
    · have h0 : 0 < len := by
        rcases Nat.eq_zero_or_pos len with e | e
        · exfalso; apply hn; subst e; simp
        · exact e
      have := cell_block (hx 0 (by omega)).1
      rwa [add_block] at this
    · simp only [List.map_map, List.getElem?_map] at hu
      obtain ⟨i, hi, rfl⟩ := Option.map_eq_some_iff.1 hu
      obtain ⟨hlt, rfl⟩ := List.getElem?_eq_some_iff.1 hi
      simp only [List.length_range] at hlt
      simp only [List.getElem_range, Function.comp]
      rw [(hx j (by omega)).1, (hS j hlt).1]
    · have h24 := hw ((((List.range len).map D).length + (((List.range (m - len)).map fun j => D (len + j))).length) * 24) (by
        simp only [hd', DataW.weights, Tryd.underlying144, Tryd.bytesRow]
        exact List.mem_cons_self)
      simp only [List.length_map, List.length_range, reachBytes] at h24 ⊢
      omega
    · intro s hs
      obtain ⟨i, hi, rfl⟩ := List.mem_map.1 hs
      exact (hS i (List.mem_range.1 hi)).2

theorem belowAll {P : Program} (hl : laidOutB P = true) (hb : Below W.heap.size W W') : ∀ {ts : List TypeId} {vs : List Value} {ds : List (DataW H)} {ps : List MemPlace},
    (ts.all fun t => P.readableRec t && decide (t < P.types.size)) = true → DataW.TrodAll enc P W 0 (fun _ => true) true ts vs ds ps → (∀ x ∈ ps, x.block < W.heap.size) →
    DataW.TrodAll enc P W' 0 (fun b => decide (b < W.heap.size)) true ts vs ds ps := by
  intro ts
  induction ts with
  | nil =>
    intro vs ds ps _ h _
    obtain ⟨rfl, rfl, rfl⟩ := trodAll_nil h
    exact h
  | cons t ts ih =>
    intro vs ds ps ht h hlt
    obtain ⟨v, vs1, d, ds1, a, b, rfl, rfl, rfl, h1, h2⟩ := trodAll_cons h
    simp only [List.all_cons, Bool.and_eq_true, decide_eq_true_eq] at ht
    exact ⟨a, b, Below.trod hl ht.1.1 ht.1.2 h1 hb (fun x hx => hlt x (List.mem_append_left _ hx)), ih ht.2 h2 (fun x hx => hlt x (List.mem_append_right _ hx)), rfl⟩

theorem post_law {f : Func} {s : ChangeSpec} {args : Array Value} {ds gs : List (DataW H)} {before : List MemPlace}
    (hW : DataW.Whole enc Tryd.prog f.params.toList s.vars false W args.toList ds gs before) (hvars : s.vars = [])
    (hfn : (s.fn H (ds ++ gs)).results = [.lit (.bool true)] ∧ (s.fn H (ds ++ gs)).args = ds ∧ (s.fn H (ds ++ gs)).vars = []) (hres : f.resultTypes = #[4])
    (hts : (f.params.toList.all fun t => Tryd.prog.readableRec t && decide (t < Tryd.prog.types.size)) = true) (hb : Below W.heap.size W W') :
    s.post enc Tryd.prog f false true false false W args (.bool true) W' := by
  have hlt := fun x hx => hW.lt x hx
  have hW' := hW
  obtain ⟨p, q, hA, hV, rfl, hfz, hnd⟩ := hW
  rw [hvars] at hV
  obtain ⟨rfl, rfl⟩ := trodVars_none hV
  obtain ⟨f1, f2, f3⟩ := hfn
  refine ⟨ds, [], p ++ [], [], p, [], hW', ?_, ?_, ?_, hb.frame _, nofun⟩
  · rw [hres, f1]
    exact trodAll_mk1 (shut_bool Tryd.underlying4 true)
  · rw [f2]
    exact belowAll Tryd.laidOut hb hts hA (fun x hx => hlt x (by simpa using hx))
  · rw [hvars, f3]
    exact rfl
end
theorem wf_u64 {z : Int} (h : (Lit.int .u64 z).wf = true) : ∃ n : Nat, z = (n : Int) ∧ n < 18446744073709551616 := by
  have h01 : 0 ≤ z ∧ z < 18446744073709551616 := by
    simp [Lit.wf, IntKind.min, IntKind.max, IntKind.signed, IntKind.bits] at h
    omega
  exact ⟨z.toNat, by omega, by omega⟩
theorem wf_i64 {z : Int} (h : (Lit.int .i64 z).wf = true) : -9223372036854775808 ≤ z ∧ z ≤ 9223372036854775807 := by
  simp [Lit.wf, IntKind.min, IntKind.max, IntKind.signed, IntKind.bits] at h
  omega
section
variable {H : Type} {enc : TypeId × Value → H} {W W' : World}
theorem open_rowA {sp : Nat → Bool} {held : Bool} {r : Reach} {b0 : Nat} {v : Value} {d : DataW H} {p : List MemPlace} (hv : Value.okWide Tryd.prog W r b0 31 v) (h : DataW.Trod enc Tryd.prog W 0 sp held 31 v d p) (hw : ∀ n ∈ d.weights Tryd.prog 31, n ≤ reachBytes) :
    ∃ A l c, v = .slice A l.length c ∧ Rd W A (byts l) ∧ l.length ≤ c ∧ l.length ≤ 140737488351232 := by
  obtain ⟨a0, l0, c0, rfl⟩ := okWide_slice Tryd.underlying31 hv
  obtain ⟨fuel, h1⟩ := h
  exact open_row h1 hw
theorem open_rowsA {held : Bool} {r : Reach} {b0 : Nat} {v : Value} {d : DataW H} {p : List MemPlace} (hv : Value.okWide Tryd.prog W r b0 144 v) (h : DataW.Trod enc Tryd.prog W 0 (fun _ => true) held 144 v d p) (hw : ∀ n ∈ d.weights Tryd.prog 144, n ≤ reachBytes) :
    ∃ A c, ∃ bs : List Sb, v = .slice A bs.length c ∧ Rd W A (bs.map Sb.val) ∧ bs.length ≤ 5864062014806 ∧ (∀ s ∈ bs, s.ok W) ∧ bs.length ≤ c := by
  obtain ⟨a0, l0, c0, rfl⟩ := okWide_slice Tryd.underlying144 hv
  obtain ⟨fuel, h1⟩ := h
  exact open_rows h1 hw

variable {P : Program} {base : Nat} {spare : Nat → Bool} {held : Bool}
theorem trodAll_five {t0 t1 t2 t3 t4 : TypeId} {args : Array Value} {ds : List (DataW H)} {ps : List MemPlace} (h : DataW.TrodAll enc P W base spare held [t0, t1, t2, t3, t4] args.toList ds ps) :
    ∃ v0 v1 v2 v3 v4 d0 d1 d2 d3 d4 p0 p1 p2 p3 p4, args = #[v0, v1, v2, v3, v4] ∧ ds = [d0, d1, d2, d3, d4] ∧ DataW.Trod enc P W base spare held t0 v0 d0 p0 ∧ DataW.Trod enc P W base spare held t1 v1 d1 p1 ∧
      DataW.Trod enc P W base spare held t2 v2 d2 p2 ∧ DataW.Trod enc P W base spare held t3 v3 d3 p3 ∧ DataW.Trod enc P W base spare held t4 v4 d4 p4 := by
  obtain ⟨v0, vs0, d0, ds0, p0, q0, ha, rfl, rfl, h0, r0⟩ := trodAll_cons h
  obtain ⟨v1, vs1, d1, ds1, p1, q1, rfl, rfl, rfl, h1, r1⟩ := trodAll_cons r0
  obtain ⟨v2, vs2, d2, ds2, p2, q2, rfl, rfl, rfl, h2, r2⟩ := trodAll_cons r1
  obtain ⟨v3, vs3, d3, ds3, p3, q3, rfl, rfl, rfl, h3, r3⟩ := trodAll_cons r2
  obtain ⟨v4, vs4, d4, ds4, p4, q4, rfl, rfl, rfl, h4, r4⟩ := trodAll_cons r3
  obtain ⟨rfl, rfl, rfl⟩ := trodAll_nil r4
  exact ⟨v0, v1, v2, v3, v4, d0, d1, d2, d3, d4, p0, p1, p2, p3, p4, by cases args; simp_all, rfl, h0, h1, h2, h3, h4⟩
theorem sized_at {ts : List TypeId} {ds : List (DataW H)} (h : (DataW.weightsEach P ts ds).all (fun x => decide (x ≤ reachBytes)) = true) {j : Nat} {t : TypeId} {d : DataW H} (ht : ts[j]? = some t) (hd : ds[j]? = some d) : ∀ n ∈ d.weights P t, n ≤ reachBytes :=
  fun n hn => by simpa using List.all_eq_true.1 h n (DataW.weights_mem_each ht hd n hn)
end
end Go.Proofs.YthhpcilinkebeaaDoor
