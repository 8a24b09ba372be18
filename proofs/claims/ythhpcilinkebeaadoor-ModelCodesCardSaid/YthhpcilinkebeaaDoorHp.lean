/- The abstract array: rows of volumes by name: plain. -/
import Derived.Test.YthhpcilinkebeaaDoorHf
namespace Go.Proofs.YthhpcilinkebeaaDoor
set_option maxHeartbeats 4000000
set_option maxRecDepth 100000

def putM (ms : List VM) (m : VM) : List VM := match ms with
  | [] => [m]
  | x :: r => if m.name = x.name then m :: r else if m.name < x.name then m :: x :: r else x :: putM r m
def delM (ms : List VM) (s : Bts) : List VM := ms.filter fun x => decide (x.name ≠ s)
abbrev SrtM (ms : List VM) : Prop := (ms.map VM.name).Pairwise (· < ·)
theorem lt_irr (a : Bts) : ¬ a < a := List.lt_irrefl a
theorem lt_tri (a b : Bts) (h1 : a ≠ b) (h2 : ¬ a < b) : b < a := by
  rcases List.le_total a b with h | h
  · rcases (List.le_iff_lt_or_eq.1 h) with h | h
    · exact absurd h h2
    · exact absurd h h1
  · rcases (List.le_iff_lt_or_eq.1 h) with h | h
    · exact h
    · exact absurd h.symm h1
theorem putM_vv (ms : List VM) (m : VM) : (putM ms m).map (fun m => (m.name, m.vv)) = putV (ms.map fun m => (m.name, m.vv)) m.name m.vv := by
  induction ms with
  | nil => rfl
  | cons x r ih =>
    rw [putM, List.map_cons, putV]
    split
    · rfl
    · split
      · rfl
      · rw [List.map_cons, ih]
theorem delM_vv (ms : List VM) (s : Bts) : (delM ms s).map (fun m => (m.name, m.vv)) = delV (ms.map fun m => (m.name, m.vv)) s := by
  unfold delM delV
  rw [List.filter_map]
  rfl
theorem SrtM.cons {x : VM} {r : List VM} (h : SrtM (x :: r)) : (∀ y ∈ r, x.name < y.name) ∧ SrtM r := by
  unfold SrtM at h
  rw [List.map_cons, List.pairwise_cons] at h
  exact ⟨fun y hy => h.1 _ (List.mem_map.2 ⟨y, hy, rfl⟩), h.2⟩
theorem SrtM.mk {x : VM} {r : List VM} (h1 : ∀ y ∈ r, x.name < y.name) (h2 : SrtM r) : SrtM (x :: r) := by
  unfold SrtM
  rw [List.map_cons, List.pairwise_cons]
  exact ⟨fun n hn => by obtain ⟨y, hy, rfl⟩ := List.mem_map.1 hn; exact h1 y hy, h2⟩
theorem putM_mem {ms : List VM} {m : VM} (hs : SrtM ms) {x : VM} (h : x ∈ putM ms m) : x = m ∨ (x ∈ ms ∧ x.name ≠ m.name) := by
  induction ms with
  | nil => exact .inl (List.mem_singleton.1 h)
  | cons y r ih =>
    obtain ⟨h1, h2⟩ := hs.cons
    rw [putM] at h
    split at h
    · rename_i e
      rcases List.mem_cons.1 h with h | h
      · exact .inl h
      · exact .inr ⟨by simp [h], fun e2 => lt_irr _ (by have := h1 x h; rw [e2, e] at this; exact this)⟩
    · rename_i e
      split at h
      · rename_i e3
        rcases List.mem_cons.1 h with h | h
        · exact .inl h
        · refine .inr ⟨h, fun e2 => ?_⟩
          rcases List.mem_cons.1 h with h | h
          · subst h; exact e e2.symm
          · exact lt_irr _ (List.lt_trans e3 (by have := h1 x h; rw [e2] at this; exact this))
      · rcases List.mem_cons.1 h with h | h
        · subst h; exact .inr ⟨by simp, fun e2 => e e2.symm⟩
        · rcases ih h2 h with h | ⟨h, h3⟩
          · exact .inl h
          · exact .inr ⟨by simp [h], h3⟩
theorem putM_sorted {ms : List VM} (m : VM) (hs : SrtM ms) : SrtM (putM ms m) := by
  induction ms with
  | nil => exact SrtM.mk (by simp) List.Pairwise.nil
  | cons y r ih =>
    obtain ⟨h1, h2⟩ := hs.cons
    rw [putM]
    split
    · rename_i e; exact SrtM.mk (fun z hz => by rw [e]; exact h1 z hz) h2
    · rename_i e
      split
      · rename_i e3
        refine SrtM.mk (fun z hz => ?_) hs
        rcases List.mem_cons.1 hz with h | h
        · rw [h]; exact e3
        · exact List.lt_trans e3 (h1 z h)
      · rename_i e3
        refine SrtM.mk (fun z hz => ?_) (ih h2)
        rcases putM_mem h2 hz with h | ⟨h, _⟩
        · rw [h]; exact lt_tri _ _ e e3
        · exact h1 z h
theorem getM_none {ms : List VM} {s : Bts} (h : ∀ x ∈ ms, x.name ≠ s) : getM ms s = none := by
  induction ms with
  | nil => rfl
  | cons x r ih => rw [getM, if_neg (h x (by simp))]; exact ih fun y hy => h y (by simp [hy])
theorem getM_put {ms : List VM} (m : VM) (hs : SrtM ms) (s : Bts) : getM (putM ms m) s = if s = m.name then some m else getM ms s := by
  induction ms with
  | nil =>
    rw [putM, getM, getM]
    by_cases h : m.name = s
    · rw [if_pos h, if_pos h.symm]
    · rw [if_neg h, if_neg (fun e => h e.symm), getM]
  | cons y r ih =>
    obtain ⟨h1, h2⟩ := hs.cons
    rw [putM]
    split
    · rename_i e
      rw [getM, getM, ← e]
      by_cases h : m.name = s
      · rw [if_pos h, if_pos h.symm]
      · rw [if_neg h, if_neg (fun e => h e.symm), if_neg h]
    · rename_i e
      split
      · rw [getM]
        by_cases h : m.name = s
        · rw [if_pos h, if_pos h.symm]
        · rw [if_neg h, if_neg (fun e => h e.symm)]
      · rw [getM, getM, ih h2]
        by_cases h : y.name = s
        · rw [if_pos h, if_pos h, if_neg (fun e2 => e (by rw [← e2, h]))]
        · rw [if_neg h, if_neg h]
theorem delM_sorted {ms : List VM} (s : Bts) (hs : SrtM ms) : SrtM (delM ms s) := by
  unfold SrtM delM at *
  exact hs.sublist (List.filter_sublist.map _)
theorem delM_mem {ms : List VM} {s : Bts} {x : VM} (h : x ∈ delM ms s) : x ∈ ms ∧ x.name ≠ s := by
  have := List.mem_filter.1 h
  simpa using this
theorem getM_del {ms : List VM} (hs : SrtM ms) (s t : Bts) : getM (delM ms s) t = if t = s then none else getM ms t := by
  induction ms with
  | nil => unfold delM; simp [getM]
  | cons y r ih =>
    obtain ⟨h1, h2⟩ := hs.cons
    unfold delM at *
    rw [List.filter_cons]
    by_cases hy : y.name = s
    · rw [if_neg (by simp [hy]), ih h2, getM]
      by_cases ht : t = s
      · rw [if_pos ht, if_pos ht]
      · rw [if_neg ht, if_neg ht, if_neg (fun e => ht (by rw [← e, hy]))]
    · rw [if_pos (by simp [hy]), getM, getM, ih h2]
      by_cases ht : t = s
      · rw [if_pos ht, if_pos ht]
        split
        · rename_i e; exact absurd (by rw [e, ht]) hy
        · rfl
      · rw [if_neg ht, if_neg ht]
theorem putM_used {ms : List VM} (m : VM) (hs : SrtM ms) : usedM (putM ms m) + (match getM ms m.name with | some x => x.size | none => 0) = usedM ms + m.size := by
  induction ms with
  | nil => simp [putM, usedM, getM]
  | cons y r ih =>
    obtain ⟨h1, h2⟩ := hs.cons
    have ih := ih h2
    unfold usedM at *
    by_cases e : m.name = y.name
    · rw [putM, getM, if_pos e, if_pos e.symm]
      simp only [List.map_cons, List.sum_cons]
      omega
    · by_cases e3 : m.name < y.name
      · have hn : getM (y :: r) m.name = none := getM_none fun x hx e4 => by
          rcases List.mem_cons.1 hx with h | h
          · rw [h] at e4; exact e e4.symm
          · have := h1 x h; rw [e4] at this; exact lt_irr _ (List.lt_trans e3 this)
        rw [hn, putM, if_neg e, if_pos e3]
        simp only [List.map_cons, List.sum_cons]
        omega
      · rw [putM, if_neg e, if_neg e3, getM, if_neg (fun h : y.name = m.name => e h.symm)]
        simp only [List.map_cons, List.sum_cons]
        omega
theorem delM_used (ms : List VM) (s : Bts) : usedM (delM ms s) ≤ usedM ms := by
  unfold usedM delM
  induction ms with
  | nil => simp
  | cons x r ih =>
    rw [List.filter_cons]
    split <;> simp only [List.map_cons, List.sum_cons] <;> omega
theorem putM_len {ms : List VM} (m : VM) (hs : SrtM ms) : (putM ms m).length ≤ ms.length + 1 ∧ (getM ms m.name ≠ none → (putM ms m).length = ms.length) := by
  induction ms with
  | nil => simp [putM, getM]
  | cons y r ih =>
    obtain ⟨h1, h2⟩ := hs.cons
    have ih := ih h2
    by_cases e : m.name = y.name
    · rw [putM, if_pos e]; simp
    · by_cases e3 : m.name < y.name
      · have hn : getM (y :: r) m.name = none := getM_none fun x hx e4 => by
          rcases List.mem_cons.1 hx with h | h
          · rw [h] at e4; exact e e4.symm
          · have := h1 x h; rw [e4] at this; exact lt_irr _ (List.lt_trans e3 this)
        rw [putM, if_neg e, if_pos e3]
        exact ⟨by simp, fun h => absurd hn h⟩
      · rw [putM, if_neg e, if_neg e3, getM, if_neg (fun h : y.name = m.name => e h.symm)]
        simp only [List.length_cons]
        exact ⟨by omega, fun h => by rw [ih.2 h]⟩
theorem delM_len (ms : List VM) (s : Bts) : (delM ms s).length ≤ ms.length := List.length_filter_le _ _
end Go.Proofs.YthhpcilinkebeaaDoor
