/- ModelQuota: the plain law. -/
import Derived.Test.YthhpcilinkebeaaDoorIk
namespace Go.Proofs.YthhpcilinkebeaaDoor
set_option maxRecDepth 100000

abbrev SrtV (V : List (Bts × VV)) : Prop := (V.map (·.1)).Pairwise (· < ·)
theorem SrtV.cons {x : Bts × VV} {r : List (Bts × VV)} (h : SrtV (x :: r)) : (∀ y ∈ r, x.1 < y.1) ∧ SrtV r := by
  unfold SrtV at h
  rw [List.map_cons, List.pairwise_cons] at h
  exact ⟨fun y hy => h.1 _ (List.mem_map.2 ⟨y, hy, rfl⟩), h.2⟩
theorem MdS.srt {w0 w : World} {A M block quota : Nat} {vols : List (Bts × VV)} (h : MdS w0 w A M block quota vols) : SrtV vols := by
  obtain ⟨⟨ms, h1, rfl, h3⟩, h4, h5⟩ := h
  have := h1.sorted
  unfold SrtV volsM
  rw [List.map_map]
  exact this
theorem MdS.usedLe {w0 w : World} {A M block quota : Nat} {vols : List (Bts × VV)} (h : MdS w0 w A M block quota vols) : usedV vols ≤ quota := by
  obtain ⟨⟨ms, h1, rfl, h3⟩, h4, h5⟩ := h
  have := h1.used
  rw [← usedM_vv] at this
  exact this
theorem MdS.quotaLe {w0 w : World} {A M block quota : Nat} {vols : List (Bts × VV)} (h : MdS w0 w A M block quota vols) : quota ≤ 1073741824 := by
  obtain ⟨⟨ms, h1, rfl, h3⟩, h4, h5⟩ := h
  exact h1.q
theorem MdS.volsLe {w0 w : World} {A M block quota : Nat} {vols : List (Bts × VV)} (h : MdS w0 w A M block quota vols) : vols.length ≤ 1024 ∧ ∀ x ∈ vols, x.2.size ≤ 1048576 := by
  obtain ⟨⟨ms, h1, rfl, h3⟩, h4, h5⟩ := h
  refine ⟨?_, fun x hx => ?_⟩
  · have := h1.few
    simpa [volsM] using this
  · obtain ⟨m, hm, rfl⟩ := List.mem_map.1 hx
    exact (h1.vol m hm).few
theorem getV_none {V : List (Bts × VV)} {s : Bts} (h : ∀ x ∈ V, x.1 ≠ s) : getV V s = none := by
  induction V with
  | nil => rfl
  | cons x r ih =>
    obtain ⟨m, u⟩ := x
    rw [getV, if_neg (h (m, u) (by simp)), ih fun y hy => h y (by simp [hy])]
theorem getV_mem {V : List (Bts × VV)} {s : Bts} {v : VV} (h : getV V s = some v) : (s, v) ∈ V := by
  induction V with
  | nil => cases h
  | cons x r ih =>
    obtain ⟨m, u⟩ := x
    rw [getV] at h
    split at h
    · rename_i e; injection h with h; subst h e; simp
    · exact List.mem_cons_of_mem _ (ih h)
theorem putV_used {V : List (Bts × VV)} (n : Bts) (v : VV) (hs : SrtV V) : usedV (putV V n v) + (match getV V n with | some x => x.size | none => 0) = usedV V + v.size := by
  induction V with
  | nil => simp [putV, usedV, getV]
  | cons y r ih =>
    obtain ⟨h1, h2⟩ := hs.cons
    obtain ⟨m, u⟩ := y
    have ih := ih h2
    unfold usedV at *
    by_cases e : n = m
    · rw [putV, getV, if_pos e, if_pos e.symm]
      simp only [List.map_cons, List.sum_cons]
      omega
    · by_cases e3 : n < m
      · have hn : getV ((m, u) :: r) n = none := getV_none fun x hx e4 => by
          rcases List.mem_cons.1 hx with h | h
          · rw [h] at e4; exact e e4.symm
          · have := h1 x h; rw [e4] at this; exact lt_irr _ (List.lt_trans e3 this)
        rw [hn, putV, if_neg e, if_pos e3]
        simp only [List.map_cons, List.sum_cons]
        omega
      · rw [putV, if_neg e, if_neg e3, getV, if_neg (fun h : m = n => e h.symm)]
        simp only [List.map_cons, List.sum_cons]
        omega
/-- how many blocks an operation asks for -/
def needV (V : List (Bts × VV)) (o : OV) : Int :=
  if o.kind = 1 then o.n
  else if o.kind = 6 ∨ o.kind = 7 then (match getV V o.name with | some v => (v.size : Int) | none => 0)
  else if o.kind = 8 then (match getV V o.name with | some v => o.n - (v.size : Int) | none => 0)
  else 0
theorem firstV_ten {l : List Nat} (h : firstV l = 10) : 10 ∈ l := by
  induction l with
  | nil => cases h
  | cons x r ih =>
    rw [firstV] at h
    split at h
    · exact List.mem_cons_of_mem _ (ih h)
    · rw [h]; exact List.mem_cons_self ..
theorem wh10 {b : Bool} {e : Nat} (h : whenV b e = 10) : b = true ∧ e = 10 := by
  cases b
  · cases h
  · exact ⟨rfl, h⟩
theorem freshV_ten {av : AV} {s : Bts} {x : Int} (h : freshV av s x = 10) : (av.quota : Int) - usedV av.vols < x := by
  have := firstV_ten h
  simp only [List.mem_cons, List.not_mem_nil, or_false] at this
  rcases this with h | h | h
  · have := (wh10 h.symm).2; cases this
  · have := (wh10 h.symm).2; cases this
  · exact of_decide_eq_true (wh10 h.symm).1
theorem nameE_ten (s : Bts) : nameE s ≠ 10 := by
  unfold nameE nameB
  split
  · decide
  · split
    · decide
    · split <;> decide
theorem not10 {b : Bool} {e : Nat} (h : 10 = whenV b e) (he : e ≠ 10) : False := he (wh10 h.symm).2
theorem vsize (V : List (Bts × VV)) (s : Bts) : (((getV V s).getD nilV).size : Int) = (match getV V s with | some v => (v.size : Int) | none => 0) := by
  cases getV V s <;> rfl
theorem quota_ten {av : AV} {o : OV} (h : checkV nameE av o = 10) : (av.quota : Int) - usedV av.vols < needV av.vols o := by
  have hr : rightV o = true := by
    cases hr : rightV o with
    | true => rfl
    | false => unfold checkV at h; rw [if_pos hr] at h; cases h
  unfold checkV at h
  rw [if_neg (by rw [hr]; simp)] at h
  dsimp only at h
  unfold needV
  rcases right_kind hr with hk | hk | hk | hk | hk | hk | hk | hk | hk <;> rw [hk] at h ⊢
  · rw [if_pos rfl] at h ⊢
    have := firstV_ten h
    simp only [List.mem_cons, List.not_mem_nil, or_false] at this
    rcases this with h | h | h
    · exact absurd h.symm (nameE_ten _)
    · exact (not10 h (by decide)).elim
    · exact freshV_ten h.symm
  · rw [if_neg (by decide), if_pos rfl] at h
    exact (not10 h.symm (by decide)).elim
  · rw [if_neg (by decide), if_neg (by decide), if_pos rfl] at h
    have := firstV_ten h
    simp only [List.mem_cons, List.not_mem_nil, or_false] at this
    rcases this with h | h | h
    · exact (not10 h (by decide)).elim
    · unfold withinV at h; exact (not10 h (by decide)).elim
    · exact (not10 h (by decide)).elim
  · rw [if_neg (by decide), if_neg (by decide), if_neg (by decide), if_pos rfl] at h
    have := firstV_ten h
    simp only [List.mem_cons, List.not_mem_nil, or_false] at this
    rcases this with h | h | h | h | h
    · exact (not10 h (by decide)).elim
    · exact (not10 h (by decide)).elim
    · exact (not10 h (by decide)).elim
    · unfold withinV at h; exact (not10 h (by decide)).elim
    · exact (not10 h (by decide)).elim
  · rw [if_neg (by decide), if_neg (by decide), if_neg (by decide), if_neg (by decide), if_pos rfl] at h
    have := firstV_ten h
    simp only [List.mem_cons, List.not_mem_nil, or_false] at this
    rcases this with h | h | h
    · exact (not10 h (by decide)).elim
    · exact (not10 h (by decide)).elim
    · unfold withinV at h; exact (not10 h (by decide)).elim
  · rw [if_neg (by decide), if_neg (by decide), if_neg (by decide), if_neg (by decide), if_neg (by decide), if_pos rfl] at h
    rw [if_neg (by decide), if_pos (.inl rfl), ← vsize]
    have := firstV_ten h
    simp only [List.mem_cons, List.not_mem_nil, or_false] at this
    rcases this with h | h | h | h
    · exact (not10 h (by decide)).elim
    · exact (not10 h (by decide)).elim
    · exact absurd h.symm (nameE_ten _)
    · exact freshV_ten h.symm
  · rw [if_neg (by decide), if_neg (by decide), if_neg (by decide), if_neg (by decide), if_neg (by decide), if_neg (by decide), if_pos rfl] at h
    rw [if_neg (by decide), if_pos (.inr rfl), ← vsize]
    have := firstV_ten h
    simp only [List.mem_cons, List.not_mem_nil, or_false] at this
    rcases this with h | h | h | h
    · exact (not10 h (by decide)).elim
    · exact (not10 h (by decide)).elim
    · exact absurd h.symm (nameE_ten _)
    · exact freshV_ten h.symm
  · rw [if_neg (by decide), if_neg (by decide), if_neg (by decide), if_neg (by decide), if_neg (by decide), if_neg (by decide), if_neg (by decide), if_pos rfl] at h
    rw [if_neg (by decide), if_neg (by decide), if_pos rfl]
    cases hg : getV av.vols o.name with
    | none => rw [hg] at h; exact absurd h (by show ¬ (4 : Nat) = 10; decide)
    | some v =>
      rw [hg] at h
      have := firstV_ten h
      simp only [List.mem_cons, List.not_mem_nil, or_false] at this
      rcases this with h | h | h | h
      · exact (not10 h (by decide)).elim
      · exact (not10 h (by decide)).elim
      · exact (not10 h (by decide)).elim
      · exact of_decide_eq_true (wh10 h.symm).1
  · rw [if_neg (by decide), if_neg (by decide), if_neg (by decide), if_neg (by decide), if_neg (by decide), if_neg (by decide), if_neg (by decide), if_neg (by decide)] at h
    cases h
theorem isV {V : List (Bts × VV)} {s : Bts} (h : whenV (getV V s).isNone 4 = 0) : ∃ v, getV V s = some v := by
  have := wh0 h (by decide)
  cases hg : getV V s with
  | none => rw [hg] at this; cases this
  | some v => exact ⟨v, rfl⟩
theorem put_same {V : List (Bts × VV)} {s : Bts} {v v' : VV} (hs : SrtV V) (h : getV V s = some v) (hv : v'.size = v.size) : usedV (putV V s v') = usedV V := by
  have := putV_used s v' hs
  rw [h] at this
  simp only at this
  omega
theorem put_new {V : List (Bts × VV)} {s : Bts} {v : VV} (hs : SrtV V) (h : getV V s = none) : usedV (putV V s v) = usedV V + v.size := by
  have := putV_used s v hs
  rw [h] at this
  simpa using this
theorem quota_ok {av : AV} {o : OV} (hs : SrtV av.vols) (h : checkV nameE av o = 0) (h2 : o.kind ≠ 2) : (usedV (doV nameE av o).2.vols : Int) = usedV av.vols + needV av.vols o := by
  have hr := check_right h
  have nv : ∀ x, needV av.vols o = x → (usedV (doV nameE av o).2.vols : Int) = usedV av.vols + x → (usedV (doV nameE av o).2.vols : Int) = usedV av.vols + needV av.vols o := fun x e hh => by rw [e]; exact hh
  have n0 : o.kind ≠ 1 → o.kind ≠ 6 → o.kind ≠ 7 → o.kind ≠ 8 → needV av.vols o = 0 := fun a b c d => by
    unfold needV
    rw [if_neg a, if_neg (fun e => e.elim b c), if_neg d]
  have n67 : ∀ v, getV av.vols o.name = some v → o.kind = 6 ∨ o.kind = 7 → needV av.vols o = v.size := fun v hv e => by
    unfold needV
    rw [if_neg (by omega), if_pos e, hv]
  rw [doV_ok h] at nv ⊢
  unfold checkV at h
  rw [if_neg (by rw [hr]; simp)] at h
  dsimp only at h nv ⊢
  rcases right_kind hr with hk | hk | hk | hk | hk | hk | hk | hk | hk
  · refine nv o.n (by unfold needV; rw [hk, if_pos rfl]) ?_
    rw [ifs 1 hk _ rfl]
    rw [hk, if_pos rfl] at h
    have h0 := fv0 h
    have h3 := freshV0 (h0 (freshV av o.name o.n) (by simp))
    have h4 := wh0 (h0 (whenV (decide (o.n < 1 ∨ 1048576 < o.n)) 1) (by simp)) (by decide)
    rw [decide_eq_false_iff_not] at h4
    have e := put_new (v := ⟨o.n.toNat, false, fun _ => none⟩) hs h3
    show (usedV (putV av.vols o.name ⟨o.n.toNat, false, fun _ => none⟩) : Int) = _
    rw [e]
    simp only
    omega
  · exact absurd hk h2
  · refine nv 0 (n0 (by omega) (by omega) (by omega) (by omega)) ?_
    rw [ifs 3 hk _ rfl]
    show (usedV av.vols : Int) = _
    omega
  · refine nv 0 (n0 (by omega) (by omega) (by omega) (by omega)) ?_
    rw [ifs 4 hk _ rfl]
    rw [hk, if_neg (by decide), if_neg (by decide), if_neg (by decide), if_pos rfl] at h
    obtain ⟨v, hv⟩ := isV (fv0 h _ (List.mem_cons_self ..))
    rw [hv]
    have e := put_same (v' := { v with cells := layV av.block v.cells o.at_ o.data }) hs hv rfl
    show (usedV (putV av.vols o.name { v with cells := layV av.block v.cells o.at_ o.data }) : Int) = _
    rw [e]
    omega
  · refine nv 0 (n0 (by omega) (by omega) (by omega) (by omega)) ?_
    rw [ifs 5 hk _ rfl]
    rw [hk, if_neg (by decide), if_neg (by decide), if_neg (by decide), if_neg (by decide), if_pos rfl] at h
    obtain ⟨v, hv⟩ := isV (fv0 h _ (List.mem_cons_self ..))
    rw [hv]
    have e := put_same (v' := { v with cells := fun i => if o.at_ ≤ i ∧ i < o.at_ + o.n then none else v.cells i }) hs hv rfl
    show (usedV (putV av.vols o.name { v with cells := fun i => if o.at_ ≤ i ∧ i < o.at_ + o.n then none else v.cells i }) : Int) = _
    rw [e]
    omega
  · rw [ifs 6 hk _ rfl] at nv ⊢
    rw [hk, if_neg (by decide), if_neg (by decide), if_neg (by decide), if_neg (by decide), if_neg (by decide), if_pos rfl] at h
    have h0 := fv0 h
    obtain ⟨v, hv⟩ := isV (h0 _ (List.mem_cons_self ..))
    have hd := freshV0 (h0 (freshV av o.dst (((getV av.vols o.name).getD nilV).size : Nat)) (by simp))
    refine nv v.size (n67 v hv (.inl hk)) ?_
    rw [hv]
    have e := put_new (v := { v with snap := decide (o.kind = 6) }) hs hd
    show (usedV (putV av.vols o.dst { v with snap := decide (o.kind = 6) }) : Int) = _
    rw [e]
    simp only
    omega
  · rw [ifs 7 hk _ rfl] at nv ⊢
    rw [hk, if_neg (by decide), if_neg (by decide), if_neg (by decide), if_neg (by decide), if_neg (by decide), if_neg (by decide), if_pos rfl] at h
    have h0 := fv0 h
    obtain ⟨v, hv⟩ := isV (h0 _ (List.mem_cons_self ..))
    have hd := freshV0 (h0 (freshV av o.dst (((getV av.vols o.name).getD nilV).size : Nat)) (by simp))
    refine nv v.size (n67 v hv (.inr hk)) ?_
    rw [hv]
    have e := put_new (v := { v with snap := decide (o.kind = 6) }) hs hd
    show (usedV (putV av.vols o.dst { v with snap := decide (o.kind = 6) }) : Int) = _
    rw [e]
    simp only
    omega
  · rw [ifs 8 hk _ rfl] at nv ⊢
    rw [hk, if_neg (by decide), if_neg (by decide), if_neg (by decide), if_neg (by decide), if_neg (by decide), if_neg (by decide), if_neg (by decide), if_pos rfl] at h
    have h0 := fv0 h
    obtain ⟨v, hv⟩ := isV (h0 _ (List.mem_cons_self ..))
    refine nv (o.n - v.size) (by unfold needV; rw [hk, if_neg (by decide), if_neg (by decide), if_pos rfl, hv]) ?_
    rw [hv] at h0 ⊢
    have h4 := wh0 (h0 (whenV (decide (o.n < (v.size : Int) ∨ 1048576 < o.n)) 1) (by simp)) (by decide)
    rw [decide_eq_false_iff_not] at h4
    show (usedV (putV av.vols o.name { v with size := o.n.toNat }) : Int) = _
    have e := putV_used o.name { v with size := o.n.toNat } hs
    rw [hv] at e
    simp only at e ⊢
    generalize usedV (putV av.vols o.name { v with size := o.n.toNat }) = u at *
    omega
  · refine nv 0 (n0 (by omega) (by omega) (by omega) (by omega)) ?_
    rw [ifs 9 hk _ rfl]
    show (usedV av.vols : Int) = _
    omega
theorem quota_nn {av : AV} {o : OV} (h : checkV nameE av o = 0) : 0 ≤ needV av.vols o := by
  have hr := check_right h
  unfold checkV at h
  rw [if_neg (by rw [hr]; simp)] at h
  dsimp only at h
  unfold needV
  by_cases k1 : o.kind = 1
  · rw [if_pos k1] at h ⊢
    have h4 := wh0 (fv0 h (whenV (decide (o.n < 1 ∨ 1048576 < o.n)) 1) (by simp)) (by decide)
    rw [decide_eq_false_iff_not] at h4
    omega
  rw [if_neg k1]
  by_cases k6 : o.kind = 6 ∨ o.kind = 7
  · rw [if_pos k6]
    cases getV av.vols o.name with
    | none => exact Int.le_refl _
    | some v => exact Int.natCast_nonneg _
  rw [if_neg k6]
  by_cases k8 : o.kind = 8
  · rw [if_pos k8]
    rw [if_neg k1, if_neg (by omega), if_neg (by omega), if_neg (by omega), if_neg (by omega), if_neg (by omega), if_neg (by omega), if_pos k8] at h
    have h0 := fv0 h
    obtain ⟨v, hv⟩ := isV (h0 _ (List.mem_cons_self ..))
    rw [hv] at h0 ⊢
    have h4 := wh0 (h0 (whenV (decide (o.n < (v.size : Int) ∨ 1048576 < o.n)) 1) (by simp)) (by decide)
    rw [decide_eq_false_iff_not] at h4
    show 0 ≤ o.n - (v.size : Int)
    omega
  · rw [if_neg k8]
    exact Int.le_refl _
end Go.Proofs.YthhpcilinkebeaaDoor
