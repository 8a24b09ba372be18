/- Plain: a chain of mediums that are gone through one by one. -/
import Derived.Test.YtppfjdohajomoaaMe
namespace Go.Proofs.Ytppfjdohajomoaa

/-- from top down d mediums stand upon one another -/
def ChI (f : Nat → Option Med) (top d : Nat) (size : Int) (b : Bool) : Prop :=
  d ≤ top ∧ ∀ i, i < d → f (top - i) = some ⟨top - i, if i + 1 = d then 0 else top - i - 1, 0, size, b || decide (0 < i)⟩

theorem deepL_ChI {f : Nat → Option Med} {top d depth : Nat} {size : Int} {b : Bool} (h : ChI f top d size b) (h0 : f 0 = none) (hd : d ≤ depth) :
    ∀ (r i j : Nat), d - i = r → i < d → j + i = depth + 1 → deepL f depth j (f (top - i)) i = d
  | 0, i, j, hr, hi, hj => by omega
  | r + 1, i, j, hr, hi, hj => by
    obtain ⟨j', rfl⟩ : ∃ j', j = j' + 1 := ⟨j - 1, by omega⟩
    rw [h.2 i hi, deepL, if_pos (by omega)]
    by_cases he : i + 1 = d
    · simp only [he, if_true]
      rw [h0]
      cases j' <;> rfl
    · simp only [if_neg he]
      rw [show top - i - 1 = top - (i + 1) by omega]
      exact deepL_ChI h h0 hd r (i + 1) j' (by omega) (by omega) (by omega)
theorem deep_ChI {f : Nat → Option Med} {top d depth : Nat} {size : Int} {b : Bool} (h : ChI f top d size b) (h0 : f 0 = none) (hd0 : 1 ≤ d) (hd : d ≤ depth) : deepP f depth top = d := by
  unfold deepP
  have := deepL_ChI h h0 hd d 0 (depth + 1) (by omega) (by omega) (by omega)
  simpa using this

theorem chainL_ChI {f : Nat → Option Med} {top d : Nat} {size bb : Int} {b : Bool} (h : ChI f top d size b) (hb0 : 0 ≤ bb) (hb1 : bb < size) :
    ∀ (r i j : Nat), d - i = r → i < d → r ≤ j → chainL f j (f (top - i)) bb = (List.range r).map fun k => (top - i - k, bb)
  | 0, i, j, hr, hi, hj => by omega
  | r + 1, i, j, hr, hi, hj => by
    obtain ⟨j', rfl⟩ : ∃ j', j = j' + 1 := ⟨j - 1, by omega⟩
    rw [h.2 i hi, chainL, if_pos ⟨hb0, hb1⟩, List.range_succ_eq_map, List.map_cons, List.map_map]
    simp only [Nat.sub_zero]
    congr 1
    by_cases he : i + 1 = d
    · obtain rfl : r = 0 := by omega
      simp [he]
    · have hne : top - i - 1 ≠ 0 := by have := h.1; omega
      simp only [if_neg he, if_neg hne, Int.add_zero]
      rw [show top - i - 1 = top - (i + 1) by omega, chainL_ChI h hb0 hb1 r (i + 1) j' (by omega) (by omega) (by omega)]
      refine List.map_congr_left fun k _ => ?_
      simp only [Function.comp]
      congr 1
      omega
theorem chain_ChI {f : Nat → Option Med} {top d depth : Nat} {size bb : Int} {b : Bool} (h : ChI f top d size b) (hd0 : 1 ≤ d) (hd : d ≤ depth) (hb0 : 0 ≤ bb) (hb1 : bb < size) : chainP f depth top bb = (List.range d).map fun k => (top - k, bb) := by
  unfold chainP
  have := chainL_ChI h hb0 hb1 d 0 depth (by omega) (by omega) (by omega)
  simpa using this

theorem ChI.fix {f : Nat → Option Med} {top d : Nat} {size : Int} (h : ChI f top d size false) (hd0 : 1 ≤ d) : ChI (upd f top ((f top).map fixM)) top d size true := by
  refine ⟨h.1, fun i hi => ?_⟩
  by_cases h0 : i = 0
  · subst h0
    have := h.2 0 (by omega)
    simp only [Nat.sub_zero] at this
    simp only [upd, Nat.sub_zero, if_true, this, Option.map_some, fixM, Bool.true_or]
  · have hne : ¬ top - i = top := by have := h.1; omega
    simp only [upd, if_neg hne, h.2 i hi, Bool.true_or, Bool.false_or]
    rw [decide_eq_true (by omega)]
theorem ChI.alone {f : Nat → Option Med} {top d : Nat} {size : Int} {b : Bool} (h : ChI f top d size b) (hd0 : 1 ≤ d) : ChI (upd f top ((f top).map aloneM)) top 1 size b := by
  refine ⟨by have := h.1; omega, fun i hi => ?_⟩
  obtain rfl : i = 0 := by omega
  have := h.2 0 (by omega)
  simp only [Nat.sub_zero] at this
  simp [upd, this, aloneM]
theorem ChI.make {f : Nat → Option Med} {top d : Nat} {size : Int} (h : ChI f top d size true) (hd0 : 1 ≤ d) : ChI (upd f (top + 1) (some ⟨top + 1, top, 0, size, false⟩)) (top + 1) (d + 1) size false := by
  refine ⟨by have := h.1; omega, fun i hi => ?_⟩
  by_cases h0 : i = 0
  · subst h0
    simp only [upd, Nat.sub_zero, if_true]
    rw [if_neg (by omega)]
    simp
  · have hne : ¬ top + 1 - i = top + 1 := by have := h.1; omega
    have e : top + 1 - i = top - (i - 1) := by omega
    simp only [upd, if_neg hne]
    rw [e, h.2 (i - 1) (by omega)]
    congr 2
    · by_cases he : i + 1 = d + 1
      · rw [if_pos he, if_pos (by omega)]
      · rw [if_neg he, if_neg (by omega)]
    · simp; omega
theorem ChI.keep {f : Nat → Option Med} {top d : Nat} {size : Int} {b : Bool} (h : ChI f top d size b) (x : Option Med) : ChI (upd f (top + 1) x) top d size b := by
  refine ⟨h.1, fun i hi => ?_⟩
  have hne : ¬ top - i = top + 1 := by omega
  simp only [upd, if_neg hne]
  exact h.2 i hi
theorem ChI.first (f : Nat → Option Med) (size : Int) : ChI (upd f 1 (some ⟨1, 0, 0, size, false⟩)) 1 1 size false := by
  refine ⟨Nat.le_refl _, fun i hi => ?_⟩
  obtain rfl : i = 0 := by omega
  simp [upd]
theorem WFm.put {f : Nat → Option Med} (h : WFm f) (i : Nat) (m : Med) (hm : m.id < 18446744073709551616 ∧ m.tgt < 18446744073709551616 ∧ 0 ≤ m.at_ ∧ m.at_ ≤ 1048576 ∧ 1 ≤ m.size ∧ m.size ≤ 1048576) : WFm (upd f i (some m)) := by
  intro j x hx
  unfold upd at hx
  split at hx
  · injection hx with hx; subst hx; exact hm
  · exact h j x hx
theorem WFm.put5 {f : Nat → Option Med} (h : WFm f) (i id tgt : Nat) (at_ size : Int) (fx : Bool) (h1 : id < 18446744073709551616) (h2 : tgt < 18446744073709551616) (h3 : 0 ≤ at_) (h4 : at_ ≤ 1048576) (h5 : 1 ≤ size) (h6 : size ≤ 1048576) : WFm (upd f i (some ⟨id, tgt, at_, size, fx⟩)) :=
  h.put i _ ⟨h1, h2, h3, h4, h5, h6⟩
theorem WFm.none_ : WFm fun _ => none := fun _ _ h => by cases h
theorem WFm.fix {f : Nat → Option Med} (h : WFm f) (i : Nat) : WFm (upd f i ((f i).map fixM)) := by
  intro j x hx
  unfold upd at hx
  split at hx
  · obtain ⟨m, hm, rfl⟩ := Option.map_eq_some_iff.1 hx; exact h i m hm
  · exact h j x hx
theorem WFm.alone {f : Nat → Option Med} (h : WFm f) (i : Nat) : WFm (upd f i ((f i).map aloneM)) := by
  intro j x hx
  unfold upd at hx
  split at hx
  · obtain ⟨m, hm, rfl⟩ := Option.map_eq_some_iff.1 hx
    obtain ⟨h1, h2, h3, h4, h5, h6⟩ := h i m hm
    exact ⟨h1, by simp [aloneM], by simp [aloneM], by simp [aloneM], h5, h6⟩
  · exact h j x hx
end Go.Proofs.Ytppfjdohajomoaa
