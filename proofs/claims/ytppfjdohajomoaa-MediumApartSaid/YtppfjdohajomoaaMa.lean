/- Words for a table of mediums: a map of structs by number. -/
import Derived.Test.YtppfjdohajomoaaProg
import Derived.Test.YtppfjdohajomoaaWd
import Derived.Maps.OwnSet
import Derived.Maps.Range
import Derived.Maps.RangeWalk
namespace Go.Proofs.Ytppfjdohajomoaa
open Go.RowKit Go.Maps
set_option maxRecDepth 100000

structure Med where
  id : Nat
  tgt : Nat
  at_ : Int
  size : Int
  fixed : Bool
deriving DecidableEq

def Med.val (m : Med) : Value := .agg #[.int .u64 (m.id : Nat), .int .u64 (m.tgt : Nat), .int .i64 m.at_, .int .i64 m.size, .bool m.fixed]
def Med.zero : Med := ⟨0, 0, 0, 0, false⟩
def Med.dat (m : Med) : DataW Unit := .agg [.lit (.int .u64 (m.id : Nat)), .lit (.int .u64 (m.tgt : Nat)), .lit (.int .i64 m.at_), .lit (.int .i64 m.size), .lit (.bool m.fixed)]
theorem Med.dat_inj {a b : Med} (h : a.dat = b.dat) : a = b := by
  cases a; cases b
  simp only [Med.dat, DataW.agg.injEq, List.cons.injEq, DataW.lit.injEq, Lit.int.injEq, true_and, and_true, Lit.bool.injEq, Int.ofNat_inj] at h
  obtain ⟨h1, h2, h3, h4, h5⟩ := h
  subst h1 h2 h3 h4 h5
  rfl

/-- how a medium reads -/
def medR (v : Value) : Option (DataW Unit × List MemPlace) :=
  match v with
  | .agg cs => (match cs.toList with
    | [.int .u64 a, .int .u64 b, .int .i64 c, .int .i64 d, .bool e] => if 0 ≤ a ∧ 0 ≤ b then some ((Med.mk a.toNat b.toNat c d e).dat, []) else none
    | _ => none)
  | _ => none
theorem medR_val (m : Med) : medR m.val = some (m.dat, []) := by
  simp only [medR, Med.val]
  rw [if_pos ⟨by omega, by omega⟩]
  simp
theorem medR_inv {v : Value} {m : Med} {ps : List MemPlace} (h : medR v = some (m.dat, ps)) : v = m.val := by
  unfold medR at h
  split at h
  · rename_i cs
    split at h
    · rename_i a b c d e hcs
      split at h
      · rename_i hab
        injection h with h
        injection h with h _
        have := Med.dat_inj h
        subst this
        have hcs' : cs = #[.int .u64 a, .int .u64 b, .int .i64 c, .int .i64 d, .bool e] := by rw [← Array.toList_inj]; exact hcs
        subst hcs'
        simp only [Med.val]
        congr 3
        · congr 1; omega
        · congr 2; omega
      · cases h
    · cases h
  · cases h

theorem Try.keyU64 : Keyed Try.prog 27 := int_keyed Try.underlying27
def uk (i : Nat) : Lit := .int .u64 (i : Nat)
theorem uk_key {i : Nat} (h : i < 18446744073709551616) : keyOf Try.prog 27 (.int .u64 (i : Nat)) = some (uk i) := keyOf_int_mk Try.underlying27 (by simp [Lit.wf, IntKind.min, IntKind.max, IntKind.signed, IntKind.bits]; omega)
theorem uk_inj {i j : Nat} (h : uk i = uk j) : i = j := by
  unfold uk at h
  injection h with _ h
  omega
theorem zeroMed (w : World) : (zeroValue 130).run Try.prog w = .ok Med.zero.val w := by kernel_rfl

/-- block M is a map of at most n mediums that reads as f -/
def MpOf (w : World) (M n : Nat) (f : Nat → Option Med) : Prop :=
  ∃ D : DataW Unit, w.ownsMap Try.prog 27 medR M n D ∧ (∀ i, has D (uk i) = (f i).isSome) ∧ ∀ i m, f i = some m → ∀ z, D.atKey (uk i) z = m.dat

def upd (f : Nat → Option Med) (i : Nat) (x : Option Med) : Nat → Option Med := fun j => if j = i then x else f j

section
variable {w w' : World} {M n : Nat} {f : Nat → Option Med}
theorem MpOf.lt (h : MpOf w M n f) : M < w.heap.size := let ⟨_, h, _⟩ := h; h.lt
theorem MpOf.mono {n' : Nat} (h : MpOf w M n f) (hn : n ≤ n') : MpOf w M n' f := let ⟨D, h1, h2⟩ := h; ⟨D, h1.mono hn, h2⟩
theorem MpOf.kept {row : Option Nat} (h : MpOf w M n f) (hg : w.grownBy w' row) (hne : some M ≠ row) : MpOf w' M n f := let ⟨D, h1, h2⟩ := h; ⟨D, h1.kept hg hne, h2⟩
theorem MpOf.alloc (h : MpOf w M n f) (o : Obj) : MpOf (w.alloc o) M n f := let ⟨D, h1, h2⟩ := h; ⟨D, h1.alloc o, h2⟩
theorem MpOf.drew (h : MpOf w M n f) : MpOf w.drew M n f := h
theorem MpOf.drewN (h : MpOf w M n f) (k : Nat) : MpOf (w.drewN k) M n f := h
theorem MpOf.setCell (h : MpOf w M n f) {a : Addr} (ha : M ≠ a.block) (u : Value) : MpOf (w.setCell a u) M n f := let ⟨D, h1, h2⟩ := h; ⟨D, h1.setCell ha u, h2⟩
theorem MpOf.setRow (h : MpOf w M n f) {g : Nat} (ha : M ≠ g) (cs : Array Value) : MpOf (w.setRow g cs) M n f := by
  obtain ⟨D, ⟨es, clock, hb, r⟩, h2⟩ := h
  exact ⟨D, ⟨es, clock, (setRow_other w g M cs (fun e => ha e)).trans hb, r⟩, h2⟩
theorem MpOf.block (h : MpOf w M n f) (hb : w'.heap[M]? = w.heap[M]?) : MpOf w' M n f := by
  obtain ⟨D, ⟨es, clock, hb0, r⟩, h2⟩ := h
  exact ⟨D, ⟨es, clock, hb.trans hb0, r⟩, h2⟩
theorem MpOf.below {B : Nat} (h : MpOf w M n f) (hb : Below B w w') (hM : M < B) : MpOf w' M n f := h.block (hb.block M hM)
theorem MpOf.made (w : World) : MpOf (w.alloc (.map #[] 0)) w.heap.size 0 (fun _ => none) :=
  ⟨.map [], World.ownsMap_made _ _ _ _, fun _ => rfl, fun _ _ h => by cases h⟩

/-- v, ok := m[i] -/
theorem MpOf.look (h : MpOf w M n f) {i : Nat} (hi : i < 18446744073709551616) :
    (Instr.lookup 126 (.map (some M)) (.int .u64 (i : Nat)) true).run Try.prog w = .ok (.tuple #[((f i).getD Med.zero).val, .bool (f i).isSome]) w := by
  obtain ⟨D, h1, h2, h3⟩ := h
  obtain ⟨v, ps, hrun, hv⟩ := h1.look_ok Try.keyU64 Try.underlying126 (zeroMed w) (medR_val Med.zero) (uk_key hi)
  rw [h2] at hrun
  cases hf : f i with
  | none =>
    rw [hf] at hrun
    have hn : has D (uk i) = false := by rw [h2, hf]; rfl
    rw [atKey_of_not_has hn] at hv
    rw [medR_inv hv] at hrun
    exact hrun
  | some m =>
    rw [hf] at hrun
    rw [h3 i m hf] at hv
    rw [medR_inv hv] at hrun
    exact hrun

theorem uk_lit (i : Nat) : WideAt.IsKeyLit (uk i) := by simp [uk, WideAt.IsKeyLit]
/-- m[i] = x -/
theorem MpOf.store (h : MpOf w M n f) {i : Nat} (hi : i < 18446744073709551616) (hn : n < maxLen) (x : Med) :
    ∃ w', (Instr.mapUpdate 126 (.map (some M)) (.int .u64 (i : Nat)) x.val).run Try.prog w = .ok () w' ∧ MpOf w' M (n + 1) (upd f i (some x)) ∧ w.mapTurned w' M := by
  obtain ⟨D, h1, h2, h3⟩ := h
  obtain ⟨w', hrun, r1, r2⟩ := h1.store Try.keyU64 Try.underlying126 hn (uk_key hi) (medR_val x)
  refine ⟨w', hrun, ⟨_, r1, fun j => ?_, fun j m hj z => ?_⟩, r2⟩
  · by_cases e : j = i
    · subst e
      rw [has_put_same h1.isMap (uk_lit _)]
      simp [upd]
    · rw [has_put_other (fun e' => e (uk_inj e')), h2]
      simp [upd, e]
  · by_cases e : j = i
    · subst e
      rw [atKey_put_same h1.isMap (uk_lit _)]
      simp [upd] at hj
      rw [hj]
    · rw [atKey_put_other (fun e' => e (uk_inj e'))]
      exact h3 j m (by simpa [upd, e] using hj) z
/-- delete(m, i) -/
theorem MpOf.drop (h : MpOf w M n f) {i : Nat} (hi : i < 18446744073709551616) (ty : TypeId) :
    ∃ w', (Builtin.delete_ #[126, 27] ty #[.map (some M), .int .u64 (i : Nat)]).run Try.prog w = .ok (.tuple #[]) w' ∧ MpOf w' M n (upd f i none) ∧ w.mapTurned w' M := by
  obtain ⟨D, h1, h2, h3⟩ := h
  obtain ⟨w', hrun, r1, r2⟩ := h1.drop Try.keyU64 Try.underlying126 (uk_key hi) ty
  refine ⟨w', hrun, ⟨_, r1, fun j => ?_, fun j m hj z => ?_⟩, r2⟩
  · by_cases e : j = i
    · subst e
      rw [has_del_same]
      simp [upd]
    · rw [has_del_other (fun e' => e (uk_inj e')), h2]
      simp [upd, e]
  · by_cases e : j = i
    · subst e
      simp [upd] at hj
    · rw [atKey_del_other (fun e' => e (uk_inj e'))]
      exact h3 j m (by simpa [upd, e] using hj) z
end
end Go.Proofs.Ytppfjdohajomoaa
