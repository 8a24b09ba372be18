/- Plain: what acts do to a table; a chain is not changed by what is done elsewhere. -/
import Derived.Test.YtppfjdohajomoaaMp
import Derived.Test.YtppfjdohajomoaaMf
namespace Go.Proofs.Ytppfjdohajomoaa

structure MAct where
  op : Int
  a : Nat
  n : Int
  at_ : Int
  bare : Bool

/-- mediums lie right -/
def WFt (f : Nat → Option Med) (next : Nat) : Prop :=
  ∀ i m, f i = some m → m.id = i ∧ 0 < i ∧ i < next ∧ (0 ≤ m.at_ ∧ m.at_ ≤ 1048576 ∧ 1 ≤ m.size ∧ m.size ≤ 1048576) ∧ (m.tgt ≠ 0 → ∃ t, f m.tgt = some t ∧ t.fixed = true)
theorem WFt.zero {f : Nat → Option Med} {next : Nat} (h : WFt f next) : f 0 = none := by
  cases hf : f 0 with
  | none => rfl
  | some m => have := (h 0 m hf).2.1; omega
theorem WFt.wfm {f : Nat → Option Med} {next : Nat} (h : WFt f next) (hn : next ≤ 1000000000000) : WFm f := by
  intro i m hm
  obtain ⟨h1, h2, h3, h4, h5⟩ := h i m hm
  refine ⟨by omega, ?_, h4⟩
  by_cases ht : m.tgt = 0
  · omega
  · obtain ⟨t, ht1, _⟩ := h5 ht
    have := (h _ t ht1).2.2.1
    omega

/-- an act done: the table f with its next number turns into f' -/
inductive ActR (depth : Nat) (f : Nat → Option Med) (next : Nat) (x : MAct) : (Nat → Option Med) → Nat → Prop
  | same : ActR depth f next x f next
  | make (target : Nat) (size at_ : Int) (hE : makeE f depth size target at_ = 0) : ActR depth f next x (upd f next (some ⟨next, target, at_, size, false⟩)) (next + 1)
  | fix : ActR depth f next x (upd f x.a ((f x.a).map fixM)) next
  | size (m : Med) (s : Int) (hop : 2 < x.op) (hm : f x.a = some m) (hE : sizeE s m = 0) : ActR depth f next x (upd f x.a ((f x.a).map (sizeM s))) next
  | alone (hop : 2 < x.op) : ActR depth f next x (upd f x.a ((f x.a).map aloneM)) next
  | drop (hop : 2 < x.op) (hE : ∀ i m, f i = some m → m.tgt ≠ x.a) (h0 : f x.a ≠ none) : ActR depth f next x (upd f x.a none) next

theorem upd_ne {f : Nat → Option Med} {i j : Nat} {x : Option Med} (h : j ≠ i) : upd f i x j = f j := by simp [upd, h]
theorem upd_eq {f : Nat → Option Med} {i : Nat} {x : Option Med} : upd f i x i = x := by simp [upd]

/-- a change of one that keeps number, target and bounds right -/
theorem WFt.change {f : Nat → Option Med} {next : Nat} (h : WFt f next) (i : Nat) (φ : Med → Med) (hφ : ∀ m, f i = some m → (φ m).id = m.id ∧ (0 ≤ (φ m).at_ ∧ (φ m).at_ ≤ 1048576 ∧ 1 ≤ (φ m).size ∧ (φ m).size ≤ 1048576) ∧ ((φ m).tgt = m.tgt ∨ (φ m).tgt = 0) ∧ (m.fixed = true → (φ m).fixed = true)) :
    WFt (upd f i ((f i).map φ)) next := by
  have hfix : ∀ k t, f k = some t → t.fixed = true → ∃ t', upd f i ((f i).map φ) k = some t' ∧ t'.fixed = true := by
    intro k t hk ht
    by_cases e : k = i
    · subst e
      exact ⟨φ t, by simp [upd, hk], (hφ t hk).2.2.2 ht⟩
    · exact ⟨t, by rw [upd_ne e]; exact hk, ht⟩
  intro j m hm
  by_cases e : j = i
  · subst e
    rw [upd_eq] at hm
    obtain ⟨m0, hm0, rfl⟩ := Option.map_eq_some_iff.1 hm
    obtain ⟨h1, h2, h3, h4, h5⟩ := h j m0 hm0
    obtain ⟨g1, g2, g3, g4⟩ := hφ m0 hm0
    refine ⟨by rw [g1]; exact h1, h2, h3, g2, fun ht => ?_⟩
    rcases g3 with g3 | g3
    · obtain ⟨t, t1, t2⟩ := h5 (by rw [← g3]; exact ht)
      rw [g3]
      exact hfix _ t t1 t2
    · exact absurd g3 ht
  · rw [upd_ne e] at hm
    obtain ⟨h1, h2, h3, h4, h5⟩ := h j m hm
    refine ⟨h1, h2, h3, h4, fun ht => ?_⟩
    obtain ⟨t, t1, t2⟩ := h5 ht
    exact hfix _ t t1 t2

theorem makeE_zero {f : Nat → Option Med} {depth target : Nat} {size at_ : Int} (h : makeE f depth size target at_ = 0) :
    1 ≤ size ∧ size ≤ 1048576 ∧ 0 ≤ at_ ∧ at_ ≤ 1048576 ∧ (target ≠ 0 → ∃ t, f target = some t ∧ t.fixed = true) := by
  unfold makeE at h
  by_cases h1 : size < 1 ∨ 1048576 < size ∨ at_ < 0 ∨ 1048576 < at_ ∨ (target = 0 ∧ at_ ≠ 0)
  · rw [if_pos h1] at h; omega
  rw [if_neg h1] at h
  by_cases h2 : target ≠ 0 ∧ f target = none
  · rw [if_pos h2] at h; omega
  rw [if_neg h2] at h
  by_cases h3 : target ≠ 0 ∧ ((f target).getD Med.zero).fixed = false
  · rw [if_pos h3] at h; omega
  refine ⟨by omega, by omega, by omega, by omega, fun ht => ?_⟩
  cases hf : f target with
  | none => exact absurd ⟨ht, hf⟩ h2
  | some t =>
    refine ⟨t, rfl, ?_⟩
    rw [hf] at h3
    cases hx : t.fixed with
    | true => rfl
    | false => exact absurd ⟨ht, hx⟩ h3

theorem WFt.act {depth : Nat} {f f' : Nat → Option Med} {next next' : Nat} {x : MAct} (h : WFt f next) (hn : 0 < next) (ha : ActR depth f next x f' next') : WFt f' next' ∧ next ≤ next' ∧ next' ≤ next + 1 := by
  cases ha with
  | same => exact ⟨h, by omega, by omega⟩
  | make target size at_ hE =>
    refine ⟨fun j m hm => ?_, by omega, by omega⟩
    obtain ⟨e1, e2, e3, e4, e5⟩ := makeE_zero hE
    have hold : ∀ k t, f k = some t → t.fixed = true → ∃ t', upd f next (some ⟨next, target, at_, size, false⟩) k = some t' ∧ t'.fixed = true := by
      intro k t hk ht
      have := (h k t hk).2.2.1
      exact ⟨t, by rw [upd_ne (by omega)]; exact hk, ht⟩
    by_cases e : j = next
    · subst e
      rw [upd_eq] at hm
      injection hm with hm
      subst hm
      refine ⟨rfl, hn, by omega, ⟨e3, e4, e1, e2⟩, fun ht => ?_⟩
      obtain ⟨t, t1, t2⟩ := e5 ht
      exact hold _ t t1 t2
    · rw [upd_ne e] at hm
      obtain ⟨h1, h2, h3, h4, h5⟩ := h j m hm
      refine ⟨h1, h2, by omega, h4, fun ht => ?_⟩
      obtain ⟨t, t1, t2⟩ := h5 ht
      exact hold _ t t1 t2
  | fix =>
    refine ⟨h.change x.a fixM fun m hm => ?_, by omega, by omega⟩
    obtain ⟨h1, h2, h3, h4, h5⟩ := h _ m hm
    exact ⟨rfl, h4, .inl rfl, fun _ => rfl⟩
  | size m0 s hop hm0 hE =>
    refine ⟨h.change x.a (sizeM s) fun m hm => ?_, by omega, by omega⟩
    obtain ⟨h1, h2, h3, h4, h5⟩ := h _ m hm
    rw [hm] at hm0
    injection hm0 with hm0
    subst hm0
    unfold sizeE at hE
    split at hE
    · omega
    · split at hE
      · omega
      · exact ⟨rfl, ⟨h4.1, h4.2.1, by simp only [sizeM]; omega, by simp only [sizeM]; omega⟩, .inl rfl, fun hx => hx⟩
  | alone hop =>
    refine ⟨h.change x.a aloneM fun m hm => ?_, by omega, by omega⟩
    obtain ⟨h1, h2, h3, h4, h5⟩ := h _ m hm
    exact ⟨rfl, ⟨by simp [aloneM], by simp [aloneM], h4.2.2.1, h4.2.2.2⟩, .inr rfl, fun hx => hx⟩
  | drop hop hE h0 =>
    refine ⟨fun j m hm => ?_, by omega, by omega⟩
    by_cases e : j = x.a
    · subst e; rw [upd_eq] at hm; cases hm
    · rw [upd_ne e] at hm
      obtain ⟨h1, h2, h3, h4, h5⟩ := h j m hm
      refine ⟨h1, h2, h3, h4, fun ht => ?_⟩
      obtain ⟨t, t1, t2⟩ := h5 ht
      exact ⟨t, by rw [upd_ne (hE j m hm)]; exact t1, t2⟩

/-- what a chain sees of one -/
def seen (m : Med) : Nat × Nat × Int × Int := (m.id, m.tgt, m.at_, m.size)

/-- one that was there, behind an act -/
theorem act_seen {depth : Nat} {f f' : Nat → Option Med} {next next' : Nat} {x : MAct} (h : WFt f next) (ha : ActR depth f next x f' next') {i : Nat} {m : Med} (hm : f i = some m) (hx : x.op ≤ 2 ∨ i ≠ x.a) : ∃ m', f' i = some m' ∧ seen m' = seen m := by
  have hne : i ≠ next := by have := (h i m hm).2.2.1; omega
  cases ha with
  | same => exact ⟨m, hm, rfl⟩
  | make target size at_ hE => exact ⟨m, by rw [upd_ne hne]; exact hm, rfl⟩
  | fix =>
    by_cases e : i = x.a
    · subst e; exact ⟨fixM m, by rw [upd_eq, hm]; rfl, rfl⟩
    · exact ⟨m, by rw [upd_ne e]; exact hm, rfl⟩
  | size m0 s hop hm0 hE => exact ⟨m, by rw [upd_ne (by rcases hx with hx | hx; omega; exact hx)]; exact hm, rfl⟩
  | alone hop => exact ⟨m, by rw [upd_ne (by rcases hx with hx | hx; omega; exact hx)]; exact hm, rfl⟩
  | drop hop hE h0 => exact ⟨m, by rw [upd_ne (by rcases hx with hx | hx; omega; exact hx)]; exact hm, rfl⟩
/-- a target, behind an act: it's there, of the same size -/
theorem act_size {depth : Nat} {f f' : Nat → Option Med} {next next' : Nat} {x : MAct} (h : WFt f next) (ha : ActR depth f next x f' next') {i : Nat} {m : Med} (hm : f i = some m) (hfx : m.fixed = true) (ht : ∃ j y, f j = some y ∧ y.tgt = i) : ∃ m', f' i = some m' ∧ m'.size = m.size := by
  by_cases hx : x.op ≤ 2 ∨ i ≠ x.a
  · obtain ⟨m', h1, h2⟩ := act_seen h ha hm hx
    exact ⟨m', h1, by simp only [seen, Prod.mk.injEq] at h2; exact h2.2.2.2⟩
  · have hi : i = x.a := by
      rcases Nat.lt_trichotomy i x.a with h1 | h1 | h1
      · exact absurd (.inr (by omega)) hx
      · exact h1
      · exact absurd (.inr (by omega)) hx
    subst hi
    have hop : 2 < x.op := by have : ¬ x.op ≤ 2 := fun h => hx (.inl h); omega
    have hne : x.a ≠ next := by have := (h _ m hm).2.2.1; omega
    cases ha with
    | same => exact ⟨m, hm, rfl⟩
    | make target size at_ hE => exact ⟨m, by rw [upd_ne hne]; exact hm, rfl⟩
    | fix => exact ⟨fixM m, by rw [upd_eq, hm]; rfl, rfl⟩
    | size m0 s _ hm0 hE =>
      rw [hm] at hm0
      injection hm0 with hm0
      subst hm0
      unfold sizeE at hE
      rw [if_pos hfx] at hE
      omega
    | alone _ => exact ⟨aloneM m, by rw [upd_eq, hm]; rfl, rfl⟩
    | drop _ hE h0 =>
      obtain ⟨j, y, hj, hy⟩ := ht
      exact absurd hy (hE j y hj)

theorem chainL_act {depth : Nat} {f f' : Nat → Option Med} {next next' : Nat} {x : MAct} (h : WFt f next) (ha : ActR depth f next x f' next') (hn0 : 0 < next) :
    ∀ (j i : Nat) (m : Med) (b : Int), f i = some m → (m.fixed = true ∧ (∃ k y, f k = some y ∧ y.tgt = i) ∨ (0 ≤ b ∧ b < m.size)) → (x.op ≤ 2 ∨ ∀ p ∈ chainL f j (f i) b, p.1 ≠ x.a) → chainL f' j (f' i) b = chainL f j (f i) b
  | 0, _, _, _, _, _, _ => rfl
  | j + 1, i, m, b, hm, ht, hx => by
    by_cases hb : 0 ≤ b ∧ b < m.size
    · have hid := (h i m hm).1
      have hix : x.op ≤ 2 ∨ i ≠ x.a := by
        rcases hx with hx | hx
        · exact .inl hx
        · refine .inr ?_
          have := hx (m.id, b) (by rw [hm, chainL, if_pos hb]; exact List.mem_cons_self)
          rw [← hid]
          exact this
      obtain ⟨m', hm', hs⟩ := act_seen h ha hm hix
      simp only [seen, Prod.mk.injEq] at hs
      obtain ⟨s1, s2, s3, s4⟩ := hs
      rw [hm, hm', chainL, chainL, if_pos hb, s1, s2, s3, s4, if_pos hb]
      congr 1
      by_cases h0 : m.tgt = 0
      · rw [if_pos h0, if_pos h0]
      · rw [if_neg h0, if_neg h0]
        obtain ⟨t, t1, t2⟩ := (h i m hm).2.2.2.2 h0
        refine chainL_act h ha hn0 j m.tgt t _ t1 (.inl ⟨t2, i, m, hm, rfl⟩) ?_
        rcases hx with hx | hx
        · exact .inl hx
        · refine .inr fun p hp => hx p ?_
          rw [hm, chainL, if_pos hb, if_neg h0]
          exact List.mem_cons_of_mem _ hp
    · rcases ht with ht | ht
      · obtain ⟨m', hm', hs⟩ := act_size h ha hm ht.1 ht.2
        rw [hm, hm', chainL, chainL, if_neg hb, hs, if_neg hb]
      · exact absurd ht hb

theorem chain_act {depth : Nat} {f f' : Nat → Option Med} {next next' : Nat} {x : MAct} (h : WFt f next) (hn0 : 0 < next) (ha : ActR depth f next x f' next') {id : Nat} {b : Int} (hne : chainP f depth id b ≠ []) (hx : x.op ≤ 2 ∨ ∀ p ∈ chainP f depth id b, p.1 ≠ x.a) :
    chainP f' depth id b = chainP f depth id b := by
  unfold chainP at *
  cases hf : f id with
  | none =>
    exfalso
    apply hne
    rw [hf]
    cases depth <;> rfl
  | some m =>
    have hb : 0 ≤ b ∧ b < m.size := by
      apply Classical.byContradiction
      intro hb
      apply hne
      rw [hf]
      cases depth with
      | zero => rfl
      | succ d => rw [chainL, if_neg hb]
    have := chainL_act h ha hn0 depth id m b hf (.inr hb) hx
    rw [hf] at this
    exact this
end Go.Proofs.Ytppfjdohajomoaa
