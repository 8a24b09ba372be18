/- The stable sort over facts. -/
import Derived.Test.YtadgaphgomagkaaQd
import Derived.Lib.SliceRun
namespace Go.Proofs.Ytadgaphgomagkaa
open Go.RowKit
set_option maxHeartbeats 8000000
set_option maxRecDepth 100000

section
variable {α : Type} {lt : α → α → Bool}
/-- from a on: sorted runs of s -/
inductive Rs (lt : α → α → Bool) (f : Nat → α) (s n : Nat) : Nat → Prop
  | done {a : Nat} : n ≤ a → Rs lt f s n a
  | run {a : Nat} : Srt lt f a (min (a + s) n) → Rs lt f s n (a + s) → Rs lt f s n a
/-- up to a: sorted runs of s -/
inductive Rp (lt : α → α → Bool) (f : Nat → α) (s : Nat) : Nat → Prop
  | zero : Rp lt f s 0
  | snoc {a : Nat} : Rp lt f s a → Srt lt f a (a + s) → Rp lt f s (a + s)
theorem Rs.congr {f g : Nat → α} {s n a : Nat} (h : Rs lt f s n a) : (∀ k, a ≤ k → k < n → g k = f k) → Rs lt g s n a := by
  induction h with
  | done h => exact fun _ => .done h
  | run h1 _ ih => exact fun e => .run (h1.congr fun k q1 q2 => e k q1 (by omega)) (ih fun k q1 q2 => e k (by omega) q2)
theorem Rp.congr {f g : Nat → α} {s a : Nat} (h : Rp lt f s a) : (∀ k, k < a → g k = f k) → Rp lt g s a := by
  induction h with
  | zero => exact fun _ => .zero
  | snoc _ h1 ih => exact fun e => .snoc (ih fun k q => e k (by omega)) (h1.congr fun k q1 q2 => e k q2)
theorem Rp.join {f : Nat → α} {s n a : Nat} (h : Rp lt f s a) : Rs lt f s n a → Rs lt f s n 0 := by
  induction h with
  | zero => exact id
  | snoc _ h1 ih => exact fun h2 => ih (.run (h1.sub (Nat.le_refl _) (by omega)) h2)
theorem Rs.two {f : Nat → α} {s n a : Nat} (h : Rs lt f s n a) (hs : 0 < s) (hn : a + s < n) : Srt lt f a (a + s) ∧ Srt lt f (a + s) (min (a + s + s) n) ∧ Rs lt f s n (a + s + s) := by
  cases h with
  | done h => omega
  | run h1 h2 =>
    cases h2 with
    | done h => omega
    | run h3 h4 => exact ⟨h1.sub (Nat.le_refl _) (by omega), h3, h4⟩
theorem Rs.last {f : Nat → α} {s n a : Nat} (h : Rs lt f s n a) (hn : n ≤ a + s) : Srt lt f a n := by
  cases h with
  | done h => exact fun i j h1 h2 h3 => by omega
  | run h1 h2 => exact h1.sub (Nat.le_refl _) (by omega)
theorem Srt.toRs {f : Nat → α} {s n a : Nat} (h : Srt lt f a n) (hn : n ≤ a + s) : Rs lt f s n a :=
  .run (h.sub (Nat.le_refl _) (by omega)) (.done hn)
end
theorem stable_any (g N n c : Nat) (f : Nat → FM) (w : World) (hA : Arr w g N n f) (hn : n ≤ 1099511627776) :
    Calls Try.prog 107 #[.slice (some ⟨g, 0, none⟩) n c, .int .i64 (n : Nat), .func (.func 44) #[] #[]] w (SortPost w g N n fun h => Stb ltF n 0 n f h ∧ Srt ltF h 0 n) := by
  go_enter Try.func107, Try.ntmps107
  go_wp2_with fail
  go_loopg [7, 8] n (fun m s7 s8 wr => ∃ (a : Nat) (h : Nat → FM), m = n - a ∧ a ≤ n ∧ s7 = .int .i64 (a : Nat) ∧ s8 = .int .i64 ((a + 20 : Nat) : Nat) ∧ Arr wr g N n h ∧ Stb ltF n 0 n f h ∧ Rp ltF h 20 a ∧ But g w wr)
  case atStart => exact ⟨0, f, by omega, by omega, rfl, rfl, hA, Stb.refl _ _ _ _, .zero, But.refl _ _⟩
  case round =>
    obtain ⟨a, h, rfl, han, rfl, rfl, hAh, hst, hrp, hbt⟩ := hrel
    by_cases hle : a + 20 ≤ n
    · have r1 : (((a + 20 : Nat) : Int)) ≤ (n : Int) := by omega
      have e1 : IntKind.i64.wrap (((a + 20 : Nat) : Int) + 20) = ((a + 20 + 20 : Nat) : Int) := by rw [IntWalk.i64_in _ (by omega)]; omega
      have hin := insertion_any g N n c a (a + 20) h wr hAh hle han hn
      generalize ha2 : a + 20 = a2 at *
      go_wp2_with fail
      refine hin.mono ?_
      rintro e w2 ⟨rfl, h2, hA2, ⟨t2, s2⟩, hb2⟩
      clear hin
      go_wp2_with fail
      go_roundg (n - a2)
      case measure => omega
      case rel =>
        subst ha2
        exact ⟨a + 20, h2, rfl, hle, rfl, rfl, hA2, hst.trans (t2.widen (Nat.zero_le _) hle), .snoc (hrp.congr fun k hk => t2.out k (.inl hk)) s2, hbt.trans hb2⟩
    · have r1 : ¬ (((a + 20 : Nat) : Int)) ≤ (n : Int) := by omega
      have hin := insertion_any g N n c a n h wr hAh (Nat.le_refl _) han hn
      generalize ha2 : a + 20 = a2 at *
      go_wp2_with fail
      refine hin.mono ?_
      rintro e w2 ⟨rfl, h2, hA2, ⟨t2, s2⟩, hb2⟩
      clear hin
      have hst2 := hst.trans (t2.widen (Nat.zero_le _) (Nat.le_refl _))
      have hrs := (hrp.congr (g := h2) fun k hk => t2.out k (.inl hk)).join (n := n) (s2.toRs (by omega))
      have hbt2 := hbt.trans hb2
      clear hst t2 hrp hbt hb2 s2 hAh
      go_wp2_with fail
      go_loopg [6, 7, 8, 9] (n - 20) (fun m s6 s7 s8 s9 wr => ∃ (s : Nat) (h : Nat → FM), m = n - s ∧ 0 < s ∧ s ≤ 2199023255572 ∧ s6 = .int .i64 (s : Nat) ∧ Arr wr g N n h ∧ Stb ltF n 0 n f h ∧ Rs ltF h s n 0 ∧ But g w wr)
      case atStart => exact ⟨20, h2, rfl, by omega, by omega, rfl, hA2, hst2, hrs, hbt2⟩
      case round =>
        clear hA2 hst2 hrs hbt2
        obtain ⟨s, h, rfl, hs0, hs1, rfl, hAh, hst, hrs, hbt⟩ := hrel
        by_cases hlt : s < n
        · have r2 : (s : Int) < (n : Int) := by omega
          have e2 : IntKind.i64.wrap (2 * (s : Int)) = ((2 * s : Nat) : Int) := by rw [IntWalk.i64_in _ (by omega)]; omega
          have e3 : IntKind.i64.wrap ((s : Int) * 2) = ((2 * s : Nat) : Int) := by rw [IntWalk.i64_in _ (by omega)]; omega
          generalize wr = wo at *
          obtain ⟨s2, hs2⟩ : ∃ s2, 2 * s = s2 := ⟨_, rfl⟩
          rw [hs2] at e2 e3
          go_wp2_with fail
          go_loopg [7, 8] n (fun m s7 s8 wr => ∃ (a : Nat) (h : Nat → FM), m = n - a ∧ a ≤ n ∧ s7 = .int .i64 (a : Nat) ∧ s8 = .int .i64 ((a + s2 : Nat) : Nat) ∧ Arr wr g N n h ∧ Stb ltF n 0 n f h ∧ Rp ltF h s2 a ∧ Rs ltF h s n a ∧ But g w wr)
          case atStart => exact ⟨0, h, by omega, by omega, rfl, by rw [Nat.zero_add], hAh, hst, .zero, hrs, hbt⟩
          case round =>
            clear hAh hst hrs hbt
            obtain ⟨a, h, rfl, han, rfl, rfl, hAh, hst, hrp, hrs, hbt⟩ := hrel
            have e4 : IntKind.i64.wrap ((a : Int) + (s : Int)) = ((a + s : Nat) : Int) := by rw [IntWalk.i64_in _ (by omega)]; omega
            by_cases hle2 : a + s2 ≤ n
            · have r3 : (((a + s2 : Nat) : Int)) ≤ (n : Int) := by omega
              have e5 : IntKind.i64.wrap (((a + s2 : Nat) : Int) + (s2 : Int)) = ((a + s2 + s2 : Nat) : Int) := by rw [IntWalk.i64_in _ (by omega)]; omega
              obtain ⟨q1, q2, q3⟩ := hrs.two hs0 (by omega)
              rw [show a + s + s = a + s2 by omega] at q2 q3
              rw [Nat.min_eq_left hle2] at q2
              have hsm := symMerge_any g N n c hn (a + s2 - a) a (a + s) (a + s2) h wr (Nat.le_refl _) hAh (by omega) (by omega) hle2 q1 q2
              generalize ha3 : a + s2 = a3 at *
              generalize ha4 : a + s = a4 at *
              go_wp2_with fail
              refine hsm.mono ?_
              rintro e w2 ⟨rfl, h2, hA2, ⟨t2, u2⟩, hb2⟩
              clear hsm
              go_wp2_with fail
              go_roundg (n - a3)
              case measure => omega
              case rel =>
                subst ha3
                exact ⟨a + s2, h2, rfl, hle2, rfl, rfl, hA2, hst.trans (t2.widen (Nat.zero_le _) hle2), .snoc (hrp.congr fun k hk => t2.out k (.inl hk)) u2, q3.congr fun k k1 _ => t2.out k (.inr k1), hbt.trans hb2⟩
            · have r3 : ¬ (((a + s2 : Nat) : Int)) ≤ (n : Int) := by omega
              by_cases hm : a + s < n
              · have r4 : (((a + s : Nat) : Int)) < (n : Int) := by omega
                obtain ⟨q1, q2, _⟩ := hrs.two hs0 hm
                rw [Nat.min_eq_right (by omega)] at q2
                have hsm := symMerge_any g N n c hn (n - a) a (a + s) n h wr (Nat.le_refl _) hAh (by omega) hm (Nat.le_refl _) q1 q2
                generalize ha3 : a + s2 = a3 at *
                generalize ha4 : a + s = a4 at *
                go_wp2_with fail
                refine hsm.mono ?_
                rintro e w2 ⟨rfl, h2, hA2, ⟨t2, u2⟩, hb2⟩
                clear hsm
                go_wp2_with fail
                go_roundg (n - s2)
                case measure => omega
                case rel => exact ⟨s2, h2, rfl, by omega, by omega, rfl, hA2, hst.trans (t2.widen (Nat.zero_le _) (Nat.le_refl _)), (hrp.congr fun k hk => t2.out k (.inl hk)).join (u2.toRs (by omega)), hbt.trans hb2⟩
              · have r4 : ¬ (((a + s : Nat) : Int)) < (n : Int) := by omega
                have q1 := hrs.last (by omega)
                generalize ha3 : a + s2 = a3 at *
                generalize ha4 : a + s = a4 at *
                go_wp2_with fail
                go_roundg (n - s2)
                case measure => omega
                case rel => exact ⟨s2, h, rfl, by omega, by omega, rfl, hAh, hst, hrp.join (q1.toRs (by omega)), hbt⟩
        · have r2 : ¬ (s : Int) < (n : Int) := by omega
          have q1 := hrs.last (by omega)
          go_wp2_with fail
          go_end0
          exact ⟨rfl, h, hAh, ⟨hst, q1⟩, hbt⟩
theorem sortStable_any (g N n c : Nat) (f : Nat → FM) (w : World) (hA : Arr w g N n f) (hn : n ≤ 1099511627776) :
    Calls Try.prog 90 #[.slice (some ⟨g, 0, none⟩) n c, .func (.func 44) #[] #[]] w (SortPost w g N n fun h => Stb ltF n 0 n f h ∧ Srt ltF h 0 n) := by
  have hs := stable_any g N n c f w hA hn
  go_enter Try.func90, Try.ntmps90
  go_wp2_with fail
  refine hs.mono ?_
  rintro e w2 ⟨rfl, h2, hA2, hp, hb2⟩
  go_wp2_with fail
  go_end0
  exact ⟨rfl, h2, hA2, hp, hb2⟩
end Go.Proofs.Ytadgaphgomagkaa
/- CompactFunc over facts: the comparison; the row without doubles. -/
namespace Go.Proofs.Ytadgaphgomagkaa
open Go.RowKit
set_option maxHeartbeats 8000000
set_option maxRecDepth 100000

def eqF (a b : FM) : Bool := decide (cmpF a b = 0)
theorem eqF_iff (a b : FM) : eqF a b = true ↔ strB a.k = strB b.k ∧ a.s = b.s := by
  have hk : (a.k.toList == b.k.toList) = decide (strB a.k = strB b.k) := key_eq _ _
  have hl : Op.bytesLess a.k.toList b.k.toList = sLt a.k b.k := rfl
  unfold eqF cmpF orI cmpS cmpN sGt
  rw [hk, hl]
  by_cases h3 : strB a.k = strB b.k
  · have h1 : sLt a.k b.k = false := (Bool.not_eq_true _).mp fun h => by
      have := (sLt_iff a.k b.k).1 h
      rw [h3] at this
      exact bl_irrefl _ this
    simp only [h1, h3]
    by_cases h4 : b.s < a.s
    · simp [h4]; omega
    · by_cases h5 : a.s < b.s
      · simp [h4, h5]; omega
      · simp [h4, h5]; omega
  · by_cases h1 : sLt a.k b.k = true
    · simp [h1, h3]
    · simp [h1, h3]
theorem eqF_eqv (a b : FM) : eqF a b = eqv ltF a b := by
  rw [Bool.eq_iff_iff, eqF_iff]
  unfold eqv
  simp only [Bool.and_eq_true, Bool.not_eq_true', ltF_no]
  constructor
  · rintro ⟨h1, h2⟩
    rw [h1]
    exact ⟨⟨bl_irrefl _, fun h => by omega⟩, bl_irrefl _, fun h => by omega⟩
  · rintro ⟨⟨h1, h2⟩, h3, h4⟩
    have h5 := bl_tri h1 h3
    refine ⟨h5, ?_⟩
    have h6 : ¬ b.s < a.s := fun h => h2 ⟨h5, h⟩
    have h7 : ¬ a.s < b.s := fun h => h4 ⟨h5.symm, h⟩
    omega
theorem merge1_any (a b : FM) (w : World) : Calls Try.prog 92 #[a.val, b.val] w fun e w' => e = .returned (.bool (eqF a b)) ∧ Below w.heap.size w w' := by
  unfold FM.val eqF
  have hb0 := ((Below.refl w.heap.size w).alloc (Nat.le_refl _) (.cells #[.string a.k, .int .u64 (a.s : Nat), .slice a.A a.l.length a.c] 71)).alloc (by simp) (.cells #[.string b.k, .int .u64 (b.s : Nat), .slice b.A b.l.length b.c] 71)
  have hc := compare_any a b ((w.alloc (.cells #[.string a.k, .int .u64 (a.s : Nat), .slice a.A a.l.length a.c] 71)).alloc (.cells #[.string b.k, .int .u64 (b.s : Nat), .slice b.A b.l.length b.c] 71))
  unfold FM.val at hc
  have hE : Hid (decide (cmpF a b = 0) = decide (cmpF a b = 0)) := Lib.hid rfl
  generalize cmpF a b = R at *
  go_enter Try.func92, Try.ntmps92
  go_wp2_with fail
  refine hc.mono ?_
  rintro e w1 ⟨rfl, hb1⟩
  go_wp2_with fail
  go_ret
  refine ⟨?_, hb0.trans (hb1.mono hb0.size)⟩
  simp only [Ending.returned.injEq]
  show Value.bool (R == 0) = Value.bool (decide (R = 0))
  congr 1
/-- is an element unlike the one ahead of it? -/
def keepAt (f : Nat → FM) (i : Nat) : Bool := i == 0 || !eqF (f i) (f (i - 1))
/-- the row without doubles -/
def cpt (f : Nat → FM) : Nat → List FM
  | 0 => []
  | i + 1 => cpt f i ++ (if keepAt f i = true then [f i] else [])
theorem cpt_all (f : Nat → FM) : ∀ n, (∀ i, i < n → keepAt f i = true) → cpt f n = Lf f 0 n
  | 0, _ => rfl
  | n + 1, h => by
    rw [cpt, cpt_all f n fun i hi => h i (by omega), if_pos (h n (by omega)), Lf_add]
    congr 1
    simp [Lf]
theorem cpt_len (f : Nat → FM) : ∀ n, (cpt f n).length ≤ n
  | 0 => Nat.le_refl _
  | n + 1 => by
    have := cpt_len f n
    rw [cpt, List.length_append]
    split
    · simp; omega
    · simp; omega
end Go.Proofs.Ytadgaphgomagkaa
