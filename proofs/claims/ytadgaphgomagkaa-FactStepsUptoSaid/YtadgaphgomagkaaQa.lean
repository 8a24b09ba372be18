/- Stable sorting by rotations: the plain law. -/
import Derived.Test.YtadgaphgomagkaaPa
namespace Go.Proofs.Ytadgaphgomagkaa
set_option maxHeartbeats 4000000
set_option maxRecDepth 100000

section
variable {α : Type}
/-- a strict weak order -/
structure Wk (lt : α → α → Bool) : Prop where
  irr : ∀ x, lt x x = false
  neg : ∀ x y z, lt x y = false → lt y z = false → lt x z = false
  asy : ∀ x y, lt x y = true → lt y x = false
variable {lt : α → α → Bool}
theorem Wk.tr {x y z : α} (h : Wk lt) (h1 : lt x y = true) (h2 : lt y z = true) : lt x z = true := by
  rcases Bool.eq_false_or_eq_true (lt x z) with h3 | h3
  · exact h3
  · have := h.neg x z y h3 (h.asy _ _ h2)
    rw [this] at h1; cases h1
theorem Wk.lt_le {x y z : α} (h : Wk lt) (h1 : lt x y = true) (h2 : lt z y = false) : lt x z = true := by
  rcases Bool.eq_false_or_eq_true (lt x z) with h3 | h3
  · exact h3
  · have := h.neg x z y h3 h2
    rw [this] at h1; cases h1
theorem Wk.le_lt {x y z : α} (h : Wk lt) (h1 : lt y x = false) (h2 : lt y z = true) : lt x z = true := by
  rcases Bool.eq_false_or_eq_true (lt x z) with h3 | h3
  · exact h3
  · have := h.neg y x z h1 h3
    rw [this] at h2; cases h2
/-- neither comes ahead of the other -/
def eqv (lt : α → α → Bool) (x y : α) : Bool := !lt x y && !lt y x
def rot (f : Nat → α) (a m b k : Nat) : α := if a ≤ k ∧ k < b then (if k < a + (b - m) then f (k + (m - a)) else f (k - (b - m))) else f k
def swp (f : Nat → α) (i j k : Nat) : α := if k = i then f j else if k = j then f i else f k
/-- two ranges are exchanged -/
def swpR (f : Nat → α) (x y n k : Nat) : α := if x ≤ k ∧ k < x + n then f (k - x + y) else if y ≤ k ∧ k < y + n then f (k - y + x) else f k
theorem rot_left (f : Nat → α) (a b : Nat) : rot f a a b = f := by
  funext k
  unfold rot
  split
  · split
    · simp
    · omega
  · rfl
theorem rot_right (f : Nat → α) (a b : Nat) : rot f a b b = f := by
  funext k
  unfold rot
  split
  · split
    · omega
    · simp
  · rfl
theorem rot_down (f : Nat → α) (j i : Nat) (h : 0 < j) (hj : j ≤ i) : swp (rot f j i (i + 1)) j (j - 1) = rot f (j - 1) i (i + 1) := by
  funext k
  simp only [swp, rot]
  repeat' split
  all_goals first | omega | (congr 1; omega) | rfl
theorem rot_up (f : Nat → α) (a k : Nat) (h : a ≤ k) : swp (rot f a (a + 1) (k + 1)) k (k + 1) = rot f a (a + 1) (k + 2) := by
  funext q
  simp only [swp, rot]
  repeat' split
  all_goals first | omega | (congr 1; omega) | rfl
theorem swpR_zero (f : Nat → α) (x y : Nat) : swpR f x y 0 = f := by
  funext k
  unfold swpR
  rw [if_neg (by omega), if_neg (by omega)]
theorem swpR_succ (f : Nat → α) (x y n : Nat) (h : x + n < y) : swp (swpR f x y n) (x + n) (y + n) = swpR f x y (n + 1) := by
  funext k
  simp only [swp, swpR]
  repeat' split
  all_goals first | omega | (congr 1; omega) | rfl
theorem rot_more (f : Nat → α) (m i j : Nat) (hi : i ≤ m) (h : j < i) : rot (swpR f (m - i) m j) (m - (i - j)) m (m + j) = rot f (m - i) m (m + j) := by
  funext k
  simp only [swpR, rot]
  repeat' split
  all_goals first | omega | (congr 1; omega) | rfl
theorem rot_less (f : Nat → α) (m i j : Nat) (hi : i ≤ m) (h : i < j) : rot (swpR f (m - i) (m + j - i) i) (m - i) m (m + (j - i)) = rot f (m - i) m (m + j) := by
  funext k
  simp only [swpR, rot]
  repeat' split
  all_goals first | omega | (congr 1; omega) | rfl
theorem rot_same (f : Nat → α) (m i : Nat) (hi : i ≤ m) : swpR f (m - i) m i = rot f (m - i) m (m + i) := by
  funext k
  simp only [swpR, rot]
  repeat' split
  all_goals first | omega | (congr 1; omega) | rfl
/-- sorted from a to b -/
def Srt (lt : α → α → Bool) (f : Nat → α) (a b : Nat) : Prop := ∀ i j, a ≤ i → i < j → j < b → lt (f j) (f i) = false
theorem Srt.le {f : Nat → α} {a b : Nat} (h : Srt lt f a b) (hw : Wk lt) {i j : Nat} (hi : a ≤ i) (hij : i ≤ j) (hj : j < b) : lt (f j) (f i) = false := by
  rcases Nat.lt_or_ge i j with h1 | h1
  · exact h i j hi h1 hj
  · obtain rfl : i = j := by omega
    exact hw.irr _
theorem Srt.sub {f : Nat → α} {a b c d : Nat} (h : Srt lt f a b) (h1 : a ≤ c) (h2 : d ≤ b) : Srt lt f c d := fun i j hi hij hj => h i j (by omega) hij (by omega)
theorem Srt.congr {f g : Nat → α} {a b : Nat} (h : Srt lt f a b) (he : ∀ k, a ≤ k → k < b → g k = f k) : Srt lt g a b := fun i j hi hij hj => by
  rw [he i hi (by omega), he j (by omega) hj]
  exact h i j hi hij hj
/-- the values of a function, in a row -/
def Lf (f : Nat → α) (a n : Nat) : List α := (List.range' a n).map f
theorem Lf_length (f : Nat → α) (a n : Nat) : (Lf f a n).length = n := by simp [Lf]
theorem Lf_add (f : Nat → α) (a n m : Nat) : Lf f a (n + m) = Lf f a n ++ Lf f (a + n) m := by
  unfold Lf
  rw [← List.range'_append_1 , List.map_append]
theorem Lf_congr {f g : Nat → α} {a b n : Nat} (h : ∀ k, k < n → f (a + k) = g (b + k)) : Lf f a n = Lf g b n := by
  apply List.ext_getElem?
  intro k
  simp only [Lf, List.getElem?_map]
  by_cases hk : k < n
  · simp [hk, h k hk]
  · simp [hk]
theorem Lf_mem {f : Nat → α} {a n : Nat} {x : α} : x ∈ Lf f a n ↔ ∃ k, a ≤ k ∧ k < a + n ∧ f k = x := by
  simp only [Lf, List.mem_map, List.mem_range'_1]
  constructor
  · rintro ⟨k, ⟨h1, h2⟩, h3⟩; exact ⟨k, h1, h2, h3⟩
  · rintro ⟨k, h1, h2, h3⟩; exact ⟨k, ⟨h1, h2⟩, h3⟩
/-- what a stable turn of a range leaves -/
structure Stb (lt : α → α → Bool) (n a b : Nat) (f g : Nat → α) : Prop where
  out : ∀ k, k < a ∨ b ≤ k → g k = f k
  src : ∀ k, a ≤ k → k < b → ∃ j, a ≤ j ∧ j < b ∧ g k = f j
  cls : ∀ x, (Lf g 0 n).filter (eqv lt x) = (Lf f 0 n).filter (eqv lt x)
theorem Stb.refl (n a b : Nat) (f : Nat → α) : Stb lt n a b f f := ⟨fun _ _ => rfl, fun k h1 h2 => ⟨k, h1, h2, rfl⟩, fun _ => rfl⟩
theorem Stb.trans {n a b : Nat} {f g h : Nat → α} (h1 : Stb lt n a b f g) (h2 : Stb lt n a b g h) : Stb lt n a b f h :=
  ⟨fun k hk => (h2.out k hk).trans (h1.out k hk), fun k ha hb => by
    obtain ⟨j, j1, j2, j3⟩ := h2.src k ha hb
    obtain ⟨i, i1, i2, i3⟩ := h1.src j j1 j2
    exact ⟨i, i1, i2, j3.trans i3⟩, fun x => (h2.cls x).trans (h1.cls x)⟩
theorem Stb.widen {n a b c d : Nat} {f g : Nat → α} (h : Stb lt n c d f g) (h1 : a ≤ c) (h2 : d ≤ b) : Stb lt n a b f g :=
  ⟨fun k hk => h.out k (by omega), fun k ha hb => by
    by_cases hk : c ≤ k ∧ k < d
    · obtain ⟨j, j1, j2, j3⟩ := h.src k hk.1 hk.2
      exact ⟨j, by omega, by omega, j3⟩
    · exact ⟨k, ha, hb, h.out k (by omega)⟩, h.cls⟩
theorem Stb.rot (hw : Wk lt) (n a m b : Nat) (f : Nat → α) (ham : a ≤ m) (hmb : m ≤ b) (hbn : b ≤ n) (hs : ∀ i j, a ≤ i → i < m → m ≤ j → j < b → lt (f j) (f i) = true) : Stb lt n a b f (rot f a m b) := by
  refine ⟨fun k hk => by unfold Go.Proofs.Ytadgaphgomagkaa.rot; rw [if_neg (by omega)], fun k h1 h2 => ?_, fun x => ?_⟩
  · unfold Go.Proofs.Ytadgaphgomagkaa.rot
    rw [if_pos ⟨h1, h2⟩]
    split
    · exact ⟨k + (m - a), by omega, by omega, rfl⟩
    · exact ⟨k - (b - m), by omega, by omega, rfl⟩
  · have e1 : Lf f 0 n = Lf f 0 a ++ (Lf f a (m - a) ++ (Lf f m (b - m) ++ Lf f b (n - b))) := by
      rw [show n = a + ((m - a) + ((b - m) + (n - b))) by omega, Lf_add, Lf_add, Lf_add]
      rw [show 0 + a = a by omega, show a + (m - a) = m by omega, show m + (b - m) = b by omega]
      congr 4 <;> omega
    have e2 : Lf (Go.Proofs.Ytadgaphgomagkaa.rot f a m b) 0 n = Lf f 0 a ++ (Lf f m (b - m) ++ (Lf f a (m - a) ++ Lf f b (n - b))) := by
      rw [show n = a + ((b - m) + ((m - a) + (n - b))) by omega, Lf_add, Lf_add, Lf_add]
      congr 1
      · exact Lf_congr fun k hk => by unfold Go.Proofs.Ytadgaphgomagkaa.rot; rw [if_neg (by omega)]
      · congr 1
        · exact Lf_congr fun k hk => by
            unfold Go.Proofs.Ytadgaphgomagkaa.rot
            rw [if_pos (by omega), if_pos (by omega)]
            congr 1; omega
        · congr 1
          · exact Lf_congr fun k hk => by
              unfold Go.Proofs.Ytadgaphgomagkaa.rot
              rw [if_pos (by omega), if_neg (by omega)]
              congr 1; omega
          · rw [show a + ((b - m) + ((m - a) + (n - b))) - b = n - b by omega]
            exact Lf_congr fun k hk => by
              unfold Go.Proofs.Ytadgaphgomagkaa.rot
              rw [if_neg (by omega)]
              congr 1; omega
    rw [e1, e2]
    simp only [List.filter_append]
    congr 1
    have hc : (Lf f m (b - m)).filter (eqv lt x) = [] ∨ (Lf f a (m - a)).filter (eqv lt x) = [] := by
      rcases h : (Lf f m (b - m)).filter (eqv lt x) with _ | ⟨y, r⟩
      · exact .inl rfl
      · refine .inr (List.filter_eq_nil_iff.2 fun z hz hzx => ?_)
        have hy : y ∈ (Lf f m (b - m)).filter (eqv lt x) := by rw [h]; simp
        obtain ⟨hy1, hy2⟩ := List.mem_filter.1 hy
        obtain ⟨j, j1, j2, rfl⟩ := Lf_mem.1 hy1
        obtain ⟨i, i1, i2, rfl⟩ := Lf_mem.1 hz
        have := hs i j i1 (by omega) j1 (by omega)
        simp only [eqv, Bool.and_eq_true, Bool.not_eq_true'] at hy2 hzx
        have h3 := hw.neg (f j) x (f i) hy2.2 hzx.1
        rw [h3] at this
        cases this
    rcases hc with hc | hc <;> simp [hc]
end
end Go.Proofs.Ytadgaphgomagkaa
/- The symmetric merge, the insertion: plain. -/
namespace Go.Proofs.Ytadgaphgomagkaa
set_option maxHeartbeats 4000000
set_option maxRecDepth 100000

section
variable {α : Type} {lt : α → α → Bool}
theorem rot_at1 (f : Nat → α) (a m b k : Nat) (h1 : a ≤ k) (h2 : k < a + (b - m)) (hm : a ≤ m) (hb : m ≤ b) : rot f a m b k = f (k + (m - a)) := by
  unfold rot
  rw [if_pos (by omega), if_pos h2]
theorem rot_at2 (f : Nat → α) (a m b k : Nat) (h1 : a + (b - m) ≤ k) (h2 : k < b) : rot f a m b k = f (k - (b - m)) := by
  unfold rot
  rw [if_pos (by omega), if_neg (by omega)]
theorem rot_at0 (f : Nat → α) (a m b k : Nat) (h : k < a ∨ b ≤ k) : rot f a m b k = f k := by
  unfold rot
  rw [if_neg (by omega)]
/-- an element goes down to its place -/
theorem ins_srt (hw : Wk lt) (f : Nat → α) (a j i : Nat) (haj : a ≤ j) (hji : j ≤ i) (hs : Srt lt f a i) (h1 : ∀ k, j ≤ k → k < i → lt (f i) (f k) = true) (h2 : j = a ∨ lt (f i) (f (j - 1)) = false) : Srt lt (rot f j i (i + 1)) a (i + 1) := by
  intro p q hp hpq hq
  have hle : ∀ k, a ≤ k → k < j → lt (f i) (f k) = false := fun k hk hkj => by
    rcases h2 with h2 | h2
    · omega
    · exact hw.neg _ _ _ h2 (hs.le hw hk (by omega) (by omega))
  rcases Nat.lt_or_ge q j with c1 | c1
  · rw [rot_at0 _ _ _ _ _ (.inl c1), rot_at0 _ _ _ _ _ (.inl (by omega))]
    exact hs p q hp hpq (by omega)
  rcases Nat.lt_or_ge q (j + 1) with c2 | c2
  · obtain rfl : q = j := by omega
    rw [rot_at1 _ _ _ _ _ c1 (by omega) hji (by omega), rot_at0 _ _ _ _ _ (.inl hpq), show q + (i - q) = i by omega]
    exact hle p hp hpq
  · rw [rot_at2 _ _ _ _ _ (by omega) hq]
    rcases Nat.lt_or_ge p j with c3 | c3
    · rw [rot_at0 _ _ _ _ _ (.inl c3)]
      exact hs _ _ hp (by omega) (by omega)
    rcases Nat.lt_or_ge p (j + 1) with c4 | c4
    · rw [rot_at1 _ _ _ _ _ c3 (by omega) hji (by omega), show p + (i - j) = i by omega]
      exact hw.asy _ _ (h1 _ (by omega) (by omega))
    · rw [rot_at2 _ _ _ _ _ (by omega) (by omega)]
      exact hs _ _ (by omega) (by omega) (by omega)
theorem ins_stb (hw : Wk lt) (n : Nat) (f : Nat → α) (a j i : Nat) (haj : a ≤ j) (hji : j ≤ i) (hin : i < n) (h1 : ∀ k, j ≤ k → k < i → lt (f i) (f k) = true) : Stb lt n a (i + 1) f (rot f j i (i + 1)) :=
  (Stb.rot hw n j i (i + 1) f hji (by omega) (by omega) fun p q hp hpi hq1 hq2 => by
    obtain rfl : q = i := by omega
    exact h1 p hp hpi).widen haj (Nat.le_refl _)
/-- the first of a run goes up to its place -/
theorem one_srt (hw : Wk lt) (f : Nat → α) (a i b : Nat) (hai : a < i) (hib : i ≤ b) (hs : Srt lt f (a + 1) b) (h1 : ∀ k, a + 1 ≤ k → k < i → lt (f k) (f a) = true) (h2 : ∀ k, i ≤ k → k < b → lt (f k) (f a) = false) : Srt lt (rot f a (a + 1) i) a b := by
  intro p q hp hpq hq
  have hv : ∀ k, a ≤ k → k < b → rot f a (a + 1) i k = if k < i - 1 then f (k + 1) else if k = i - 1 then f a else f k := fun k hk1 hk2 => by
    unfold rot
    repeat' split
    all_goals first | omega | (congr 1; omega) | rfl
  rw [hv q (by omega) hq, hv p hp (by omega)]
  repeat' split
  all_goals first | omega | skip
  · exact hs _ _ (by omega) (by omega) (by omega)
  · exact hw.asy _ _ (h1 _ (by omega) (by omega))
  · exact hs _ _ (by omega) (by omega) hq
  · exact h2 _ (by omega) hq
  · exact hs _ _ (by omega) hpq hq
theorem one_stb (hw : Wk lt) (n : Nat) (f : Nat → α) (a i b : Nat) (hai : a < i) (hib : i ≤ b) (hbn : b ≤ n) (h1 : ∀ k, a + 1 ≤ k → k < i → lt (f k) (f a) = true) : Stb lt n a b f (rot f a (a + 1) i) :=
  (Stb.rot hw n a (a + 1) i f (by omega) (by omega) (by omega) fun p q hp hpi hq1 hq2 => by
    obtain rfl : p = a := by omega
    exact h1 q hq1 hq2).widen (Nat.le_refl _) hib
/-- where a symmetric merge begins its search, and where it ends -/
structure SymD (a m b mid s0 r0 : Nat) : Prop where
  am : a < m
  mb : m < b
  md : mid = (a + b) / 2
  st : (mid < m ∧ s0 = mid + m - b ∧ r0 = mid) ∨ (m ≤ mid ∧ s0 = a ∧ r0 = m)
theorem SymD.dom {a m b mid s0 r0 : Nat} (h : SymD a m b mid s0 r0) : a ≤ s0 ∧ s0 ≤ r0 ∧ r0 ≤ m ∧ r0 ≤ mid ∧ a ≤ mid ∧ mid < b ∧ ∀ c, s0 ≤ c → c < r0 → m ≤ mid + m - 1 - c ∧ mid + m - 1 - c < b := by
  obtain ⟨h1, h2, h3, h4⟩ := h
  rcases h4 with ⟨h5, h6, h7⟩ | ⟨h5, h6, h7⟩
  · refine ⟨by omega, by omega, by omega, by omega, by omega, by omega, fun c hc1 hc2 => by omega⟩
  · refine ⟨by omega, by omega, by omega, by omega, by omega, by omega, fun c hc1 hc2 => by omega⟩
theorem sym_mono (hw : Wk lt) {a m b mid s0 r0 : Nat} (h : SymD a m b mid s0 r0) (f : Nat → α) (hl : Srt lt f a m) (hr : Srt lt f m b) (c c' : Nat) (h1 : s0 ≤ c) (h2 : c ≤ c') (h3 : c' < r0) (hp : lt (f (mid + m - 1 - c')) (f c') = false) : lt (f (mid + m - 1 - c)) (f c) = false := by
  obtain ⟨d1, d2, d3, d4, d5, d6, d7⟩ := h.dom
  have e1 := d7 c h1 (by omega)
  have e2 := d7 c' (by omega) h3
  have q1 := hl.le hw (i := c) (j := c') (by omega) h2 (by omega)
  have q2 := hr.le hw (i := mid + m - 1 - c') (j := mid + m - 1 - c) (by omega) (by omega) (by omega)
  exact hw.neg _ _ _ q2 (hw.neg _ _ _ hp q1)
/-- both halves behind the rotation -/
structure SymG (lt : α → α → Bool) (n a start mid end_ b : Nat) (f g : Nat → α) : Prop where
  stb : Stb lt n a b f g
  s1 : Srt lt g a start
  s2 : Srt lt g start mid
  s3 : Srt lt g mid end_
  s4 : Srt lt g end_ b
  cross : ∀ i j, a ≤ i → i < mid → mid ≤ j → j < b → lt (g j) (g i) = false
  o1 : a ≤ start
  o2 : start ≤ mid
  o3 : mid ≤ end_
  o4 : end_ ≤ b
theorem sym_split (hw : Wk lt) {n a m b mid s0 r0 start : Nat} (h : SymD a m b mid s0 r0) (f : Nat → α) (hl : Srt lt f a m) (hr : Srt lt f m b) (hbn : b ≤ n) (h1 : s0 ≤ start) (h2 : start ≤ r0) (hlo : ∀ c, s0 ≤ c → c < start → lt (f (mid + m - 1 - c)) (f c) = false) (hhi : ∀ c, start ≤ c → c < r0 → lt (f (mid + m - 1 - c)) (f c) = true) :
    SymG lt n a start mid (mid + m - start) b f (rot f start m (mid + m - start)) ∧ start ≤ m ∧ m ≤ mid + m - start := by
  obtain ⟨d1, d2, d3, d4, d5, d6, d7⟩ := h.dom
  have hst := h.st
  have ham := h.am
  have hmb := h.mb
  have hend : mid + m - start ≤ b := by
    rcases hst with ⟨h5, h6, h7⟩ | ⟨h5, h6, h7⟩
    · omega
    · have := h.md; omega
  have hme : m ≤ mid + m - start := by omega
  have hstrict : ∀ i j, start ≤ i → i < m → m ≤ j → j < mid + m - start → lt (f j) (f i) = true := fun i j hi him hj hje => by
    have hsr : start < r0 := by
      rcases Nat.lt_or_ge start r0 with hh | hh
      · exact hh
      · rcases hst with ⟨h5, h6, h7⟩ | ⟨h5, h6, h7⟩ <;> omega
    have hx := hhi start (Nat.le_refl _) hsr
    have hdd := d7 start h1 hsr
    have q1 := hl.le hw (i := start) (j := i) (by omega) hi him
    have q2 := hr.le hw (i := j) (j := mid + m - 1 - start) hj (by omega) (by omega)
    exact hw.le_lt q2 (hw.lt_le hx q1)
  have g1 : ∀ k, k < start → rot f start m (mid + m - start) k = f k := fun k hk => rot_at0 _ _ _ _ _ (.inl hk)
  have g2 : ∀ k, start ≤ k → k < mid → rot f start m (mid + m - start) k = f (k + (m - start)) := fun k hk hk2 => rot_at1 _ _ _ _ _ hk (by omega) (by omega) hme
  have g3 : ∀ k, mid ≤ k → k < mid + m - start → rot f start m (mid + m - start) k = f (k - (mid - start)) := fun k hk hk2 => by
    rw [rot_at2 _ _ _ _ _ (by omega) hk2]; congr 1; omega
  have g4 : ∀ k, mid + m - start ≤ k → rot f start m (mid + m - start) k = f k := fun k hk => rot_at0 _ _ _ _ _ (.inr hk)
  refine ⟨⟨(Stb.rot hw n start m (mid + m - start) f (by omega) hme (by omega) hstrict).widen (by omega) hend, ?_, ?_, ?_, ?_, ?_, by omega, by omega, by omega, hend⟩, by omega, hme⟩
  · intro i j hi hij hj
    rw [g1 i (by omega), g1 j hj]
    exact hl i j hi hij (by omega)
  · intro i j hi hij hj
    rw [g2 i hi (by omega), g2 j (by omega) hj]
    exact hr _ _ (by omega) (by omega) (by omega)
  · intro i j hi hij hj
    rw [g3 i hi (by omega), g3 j (by omega) hj]
    exact hl _ _ (by omega) (by omega) (by omega)
  · intro i j hi hij hj
    rw [g4 i hi, g4 j (by omega)]
    exact hr _ _ (by omega) hij hj
  · intro i j hi him hj hjb
    rcases Nat.lt_or_ge i start with c1 | c1
    · rw [g1 i c1]
      rcases Nat.lt_or_ge j (mid + m - start) with c2 | c2
      · rw [g3 j hj c2]
        exact hl _ _ hi (by omega) (by omega)
      · rw [g4 j c2]
        have hs0 : s0 < start := by
          rcases Nat.lt_or_ge s0 start with hh | hh
          · exact hh
          · rcases hst with ⟨h5, h6, h7⟩ | ⟨h5, h6, h7⟩ <;> omega
        have hx := hlo (start - 1) (by omega) (by omega)
        have hdd := d7 (start - 1) (by omega) (by omega)
        have q1 := hl.le hw (i := i) (j := start - 1) hi (by omega) (by omega)
        have q2 := hr.le hw (i := mid + m - 1 - (start - 1)) (j := j) (by omega) (by omega) hjb
        exact hw.neg _ _ _ q2 (hw.neg _ _ _ hx q1)
    · rw [g2 i c1 him]
      rcases Nat.lt_or_ge j (mid + m - start) with c2 | c2
      · rw [g3 j hj c2]
        exact hw.asy _ _ (hstrict _ _ (by omega) (by omega) (by omega) (by omega))
      · rw [g4 j c2]
        exact hr.le hw (by omega) (by omega) hjb
/-- both halves are sorted: so is the whole -/
theorem sym_join {n a mid b : Nat} {g g1 g2 : Nat → α} (hc : ∀ i j, a ≤ i → i < mid → mid ≤ j → j < b → lt (g j) (g i) = false) (h1 : Stb lt n a mid g g1) (s1 : Srt lt g1 a mid) (h2 : Stb lt n mid b g1 g2) (s2 : Srt lt g2 mid b) : Srt lt g2 a b := by
  intro i j hi hij hj
  rcases Nat.lt_or_ge j mid with c1 | c1
  · rw [h2.out i (.inl (by omega)), h2.out j (.inl c1)]
    exact s1 i j hi hij c1
  · rcases Nat.lt_or_ge i mid with c2 | c2
    · rw [h2.out i (.inl c2)]
      obtain ⟨j', j1, j2, j3⟩ := h2.src j c1 hj
      obtain ⟨i', i1, i2, i3⟩ := h1.src i hi c2
      rw [j3, h1.out j' (.inr j1), i3]
      exact hc _ _ i1 i2 j1 j2
    · exact s2 i j c2 hij hj
/-- runs of a size -/
def Runs (lt : α → α → Bool) (f : Nat → α) (s n : Nat) : Prop := ∀ q, Srt lt f (q * s) (min ((q + 1) * s) n)
end
end Go.Proofs.Ytadgaphgomagkaa
