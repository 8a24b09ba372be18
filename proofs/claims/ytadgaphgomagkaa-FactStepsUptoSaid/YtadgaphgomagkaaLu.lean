/- A range over a function whose rounds are told what memory holds of what they are handed. -/
import Derived.RangeFuncFrom
import Derived.RangeFuncIn
import Derived.RangeFuncRecord
import Derived.Test.YtadgaphgomagkaaWa
namespace Go.Proofs.Ytadgaphgomagkaa
open Go.RowKit
set_option maxHeartbeats 1000000
set_option maxRecDepth 100000

/-- what lies below n₀ stands, but for the blocks of which X says so -/
structure Exc (n₀ : Nat) (X : Nat → Prop) (w w' : World) : Prop where
  os : w'.os = w.os
  tape : w'.tape = w.tape
  output : w'.output = w.output
  size : w.heap.size ≤ w'.heap.size
  block : ∀ k, k < n₀ → ¬ X k → w'.heap[k]? = w.heap[k]?
theorem Exc.refl (n₀ : Nat) (X : Nat → Prop) (w : World) : Exc n₀ X w w := ⟨rfl, rfl, rfl, Nat.le_refl _, fun _ _ _ => rfl⟩
theorem Exc.trans {n₀ : Nat} {X : Nat → Prop} {a b c : World} (h : Exc n₀ X a b) (k : Exc n₀ X b c) : Exc n₀ X a c := ⟨k.os.trans h.os, k.tape.trans h.tape, k.output.trans h.output, Nat.le_trans h.size k.size, fun i hi hg => (k.block i hi hg).trans (h.block i hi hg)⟩
theorem Exc.below {n₀ B : Nat} {X : Nat → Prop} {w w' : World} (h : Below B w w') (hB : n₀ ≤ B) : Exc n₀ X w w' := ⟨h.os, h.tape, h.output, h.size, fun k hk _ => h.block k (Nat.lt_of_lt_of_le hk hB)⟩
theorem Exc.set {n₀ : Nat} {X : Nat → Prop} (g i : Nat) (hg : X g) (w : World) (u : Value) : Exc n₀ X w (w.setCell ⟨g, i, none⟩ u) := ⟨rfl, rfl, rfl, by simp, fun k _ hn => Below.heap_setCell w ⟨g, i, none⟩ u k fun e => hn (e ▸ hg)⟩
theorem Exc.setEq (n₀ g i : Nat) (w : World) (u : Value) : Exc n₀ (· = g) w (w.setCell ⟨g, i, none⟩ u) := Exc.set (X := (· = g)) g i rfl w u
section
variable {P : Program} {α : Type}
/-- the function hands its rounds elements of which M holds (of the world that was ahead and of the one in which they are handed on); a round keeps what lies below n₀; behind all rounds S holds of what has come -/
def EachM (P : Program) (gf : Nat) (lb : Array Value) (enc : α → Value) (n₀ : Nat) (X : Nat → Prop) (M : List α → α → World → World → Prop) (S : List α → Prop) (N : Nat) (w : World) : Prop :=
  ∀ (l : Nat) (J Jx : List α → World → Prop) (W : World), Below w.heap.size w W → (∀ s A B, J s A → Below A.heap.size A B → J s B) →
    (∀ pre x W0 W1, J pre W0 → Below W0.heap.size W0 W1 → M pre x W0 W1 → pre.length < N → YieldAt Fence.wide 0 P l #[enc x] W1 fun e W' =>
      (e = .returned (.bool true) ∧ J (pre ++ [x]) W' ∧ Exc n₀ X W1 W') ∨ (e = .returned (.bool false) ∧ Jx (pre ++ [x]) W')) →
    J [] W → CallsIn Fence.wide 0 P gf (#[.func (.yield l) #[] #[]] ++ lb) W fun e W' => (∃ v, e = .returned v) ∧ ((∃ xs, S xs ∧ J xs W') ∨ (∃ pre, Jx pre W'))
/-- how a round may end -/
def EachPost (n₀ : Nat) (X : Nat → Prop) (I : List α → World → Prop) (Ix : Code → List α → World → Prop) (xs : List α) (W : World) : Exit → Act → World → Prop
  | .normal, _, W' => KeepsOthers W W' ∧ Exc n₀ X W W' ∧ I xs W'
  | .ret, _, W' => KeepsOthers W W' ∧ Ix .ret xs W'
  | .exit id, _, W' => KeepsOthers W W' ∧ Ix (.exit id) xs W'
  | _, _, _ => False
/-- the loop's record and the block of the rounds' deferred calls -/
structure Book (l D : Nat) (r : Loop) (W : World) : Prop where
  rec_ : W.heap[l]? = some (.loop r)
  def_ : W.heap[D]? = some (.deferred (some []))
theorem Book.keeps {l D : Nat} {r : Loop} {A B : World} (h : Book l D r A) (k : KeepsOthers A B) : Book l D r B := ⟨k.same _ _ h.rec_ rfl, k.same _ _ h.def_ rfl⟩
theorem Book.below {l D : Nat} {r : Loop} {A B : World} (h : Book l D r A) (k : Below A.heap.size A B) : Book l D r B :=
  ⟨(k.block _ (Array.getElem?_eq_some_iff.1 h.rec_).1).trans h.rec_, (k.block _ (Array.getElem?_eq_some_iff.1 h.def_).1).trans h.def_⟩
theorem Book.turn {l D : Nat} {r : Loop} {W : World} (h : Book l D r W) (hne : D ≠ l) (r' : Loop) : Book l D r' (W.putObj l (.loop r')) :=
  ⟨World.putObj_heap_same (Array.getElem?_eq_some_iff.1 h.rec_).1, (World.putObj_heap_other (by omega)).trans h.def_⟩
theorem below_putObj {n₀ l : Nat} (W : World) (o : Obj) (h : n₀ ≤ l) : Below n₀ W (W.putObj l o) :=
  ⟨rfl, rfl, rfl, by simp, fun k hk => World.putObj_heap_other (by omega)⟩
theorem ownFrom_of_below {β : Type} {B : Nat} {I : β → World → Prop} (h : OwnFrom B I) {s : β} {A C : World} (hs : I s A) (hb : Below A.heap.size A C) : I s C :=
  h s A C none hs ⟨hb.os, hb.tape, hb.output, hb.size, fun k hk _ => hb.block k hk⟩ (fun r e => by cases e)

theorem wpIn_each {g : Operand} {ps : Array Tmp} {assign body : Code} {Q : Exit → Act → World → Prop} {a : Act} {w : World} {gf : Nat} {lb : Array Value}
    (hg : a.eval g = .func (.func gf) #[] lb) (eg : ∀ args w, (callFunc gf args).run P w = .ok (.enter gf args) w)
    {enc : α → Value} {n₀ : Nat} {X : Nat → Prop} {M : List α → α → World → World → Prop} {S : List α → Prop} {N : Nat} (hn₀ : n₀ ≤ w.heap.size) (hseq : EachM P gf lb enc n₀ X M S N w) (hps : ps.size = 1)
    (I : List α → World → Prop) (Ix : Code → List α → World → Prop) (hI : OwnFrom w.heap.size I) (hIx : ∀ c, OwnFrom w.heap.size (Ix c)) (h0 : I [] w)
    (hround : ∀ (l : Nat) (pre : List α) (x : α) (W0 W : World), w.heap.size ≤ l → I pre W0 → Below W0.heap.size W0 W → M pre x W0 W → pre.length < N → (∃ r, W.heap[l]? = some (.loop r)) →
      assign.wpIn (Fence.wide.inRound l) 0 P (Exit.then (fun a₁ W2 => KeepsOthers W W2 ∧ Exc n₀ X W W2 ∧ ∀ r, body.wpIn (Fence.wide.inRound l) 0 P (EachPost n₀ X I Ix (pre ++ [x]) (W2.putObj l (.loop r))) a₁ (W2.putObj l (.loop r))) (fun _ _ _ => False))
        { tmps := (ps.zip #[enc x]).foldl (fun t (p, v) => t.setIfInBounds p v) a.tmps, defers := [] } W)
    (hdone : ∀ (D : Nat) (xs : List α) (W : World), w.heap.size ≤ D → S xs → I xs W → W.heap[D]? = some (.deferred (some [])) → Q .normal { a with defers := { target := .collected D, args := #[] } :: a.defers } W)
    (hstop : ∀ (D : Nat) (c : Code) (pre : List α) (W : World), w.heap.size ≤ D → Ix c pre W → W.heap[D]? = some (.deferred (some [])) → c.wpIn Fence.wide 0 P Q { a with defers := { target := .collected D, args := #[] } :: a.defers } W) :
    (Code.rangeFunc g ps assign body).wpIn Fence.wide 0 P Q a w := by
  refine wpIn_rangeFunc fun fn _ => ?_
  obtain ⟨R, hR⟩ : ∃ R : LoopState → Option Code → Loop, R = fun s p => { state := s, pending := p, fn, tmps := a.tmps, params := ps, assign, body, defers := w.heap.size } := ⟨_, rfl⟩
  have hRp : ∀ s p, (R s p).params = ps := fun s p => by rw [hR]
  obtain ⟨W1, hW1⟩ : ∃ W1, (w.alloc (.deferred (some []))).alloc (.loop (R .ready none)) = W1 := ⟨_, rfl⟩
  have hbk1 : Book (w.heap.size + 1) w.heap.size (R .ready none) W1 := by
    rw [← hW1]
    refine ⟨?_, (Below.heap_alloc _ _ _ (by simp)).trans (World.alloc_heap_new w _)⟩
    have := World.alloc_heap_new (w.alloc (.deferred (some []))) (.loop (R .ready none))
    rwa [World.size_alloc] at this
  have hb1 : Below w.heap.size w W1 := by
    rw [← hW1]
    exact ((Below.refl _ w).alloc (Nat.le_refl _) _).alloc (by simp) _
  have hI1 : I [] W1 := ownFrom_of_below hI h0 hb1
  refine ⟨w.heap.size + 1, [{ target := .collected w.heap.size, args := #[] }], W1, { target := .fn (.func gf) lb, args := #[.func (.yield (w.heap.size + 1)) #[] #[]] }, W1, gf,
    #[.func (.yield (w.heap.size + 1)) #[] #[]] ++ lb, W1, ?_, ?_, fun _ _ => trivial, ?_, fun h => (by cases h), ?_⟩
  · rw [← hW1, hR]
    exact run_enterLoop_outer _ _ _ _ _
  · simp only [resolve, hg]
    simp [go_sem]
  · simp [invoke, go_sem, eg]
  refine (hseq (w.heap.size + 1) (fun pre W => I pre W ∧ Book (w.heap.size + 1) w.heap.size (R .ready none) W)
    (fun pre W => ∃ c, Ix c pre W ∧ Book (w.heap.size + 1) w.heap.size (R .done (some c)) W) W1 hb1 (fun s A B hs hb => ⟨ownFrom_of_below hI hs.1 hb, hs.2.below hb⟩) ?_ ⟨hI1, hbk1⟩).mono ?_
  · rintro pre x W0 W ⟨hi, hbk⟩ hb01 hM hlen
    have hbk := hbk.below hb01
    have hy := run_yield (P := P) (args := #[enc x]) hbk.rec_ (by rw [hRp, hps]; rfl)
    rw [hR] at hy
    refine ⟨fn, _, assign, body, hy, roundIn_of_wpIn trivial (wpIn_mono (hround _ pre x W0 W (by omega) hi hb01 hM hlen ⟨_, hbk.rec_⟩) ?_)⟩
    rintro e a1 W2 he
    cases e with
    | normal =>
      obtain ⟨hk2, hb2, hbody⟩ := he
      have hbk2 := hbk.keeps hk2
      refine ⟨_, run_beginRound hbk2.rec_ (by rw [hR]), wpIn_mono (hbody _) ?_⟩
      have hbz := hbk2.turn (by omega) { R .ready none with state := .busy }
      have fin : ∀ (jump : Option Code) (W3 : World), KeepsOthers (W2.putObj (w.heap.size + 1) (.loop { R .ready none with state := .busy })) W3 →
          (Instr.endRound (w.heap.size + 1) jump).run P W3 = .ok (.bool jump.isNone) (W3.putObj (w.heap.size + 1) (.loop (R (if jump.isNone then .ready else .done) jump))) ∧
          (∃ o, W3.heap[w.heap.size + 1]? = some o ∧ o.isCells = false) ∧ Book (w.heap.size + 1) w.heap.size (R (if jump.isNone then .ready else .done) jump) (W3.putObj (w.heap.size + 1) (.loop (R (if jump.isNone then .ready else .done) jump))) := fun jump W3 hk3 => by
        have hb3 := hbz.keeps hk3
        have h1 := run_endRound (P := P) jump hb3.rec_
        refine ⟨?_, ⟨_, hb3.rec_, rfl⟩, hb3.turn (by omega) _⟩
        rw [h1, hR]
      rintro e a3 W3 hp
      cases e with
      | normal =>
        obtain ⟨hk3, hb3, hi3⟩ := hp
        obtain ⟨hr, ⟨o, ho, hoc⟩, hbk4⟩ := fin none W3 hk3
        exact ⟨_, _, hr, .inl ⟨rfl, ⟨hI.putObj _ hi3 (by omega) ho hoc, hbk4⟩, ((hb2.trans (Exc.below (below_putObj W2 _ (by omega)) (Nat.le_refl _))).trans hb3).trans (Exc.below (below_putObj W3 _ (by omega)) (Nat.le_refl _))⟩⟩
      | ret =>
        obtain ⟨hk3, hi3⟩ := hp
        obtain ⟨hr, ⟨o, ho, hoc⟩, hbk4⟩ := fin (some .ret) W3 hk3
        exact ⟨_, _, hr, .inr ⟨rfl, .ret, (hIx _).putObj _ hi3 (by omega) ho hoc, hbk4⟩⟩
      | exit id =>
        obtain ⟨hk3, hi3⟩ := hp
        obtain ⟨hr, ⟨o, ho, hoc⟩, hbk4⟩ := fin (some (.exit id)) W3 hk3
        exact ⟨_, _, hr, .inr ⟨rfl, .exit id, (hIx _).putObj _ hi3 (by omega) ho hoc, hbk4⟩⟩
      | goto t => exact hp.elim
      | panic ch => exact hp.elim
      | outgrown => exact hp.elim
    | _ => exact he.elim
  · rintro e W2 ⟨⟨v, rfl⟩, h2⟩
    rcases h2 with ⟨xs, hS, hi, hbk⟩ | ⟨pre, c, hi, hbk⟩
    · have he := run_endLoop (P := P) hbk.rec_ (by rw [hR]; simp)
      rw [show (R .ready none).pending = none by rw [hR]] at he
      exact ⟨none, _, he, hdone _ xs _ (Nat.le_refl _) hS (hI.putObj _ hi (by omega) hbk.rec_ rfl) ((World.putObj_heap_other (by omega)).trans hbk.def_)⟩
    · have he := run_endLoop (P := P) hbk.rec_ (by rw [hR]; simp)
      rw [show (R .done (some c)).pending = some c by rw [hR]] at he
      exact ⟨some c, _, he, hstop _ c pre _ (Nat.le_refl _) ((hIx c).putObj _ hi (by omega) hbk.rec_ rfl) ((World.putObj_heap_other (by omega)).trans hbk.def_)⟩
end
end Go.Proofs.Ytadgaphgomagkaa
