/- Words for drives on a power: what is where, what stays. -/
import Derived.Test.YtppfjdohajomoaaProg
import Derived.Test.YtppfjdohajomoaaWd
import Derived.Test.YtppfjdohajomoaaFb
import Derived.Deep.LoopGhost
import Derived.Deep.DeepCutAuto
import Derived.Deep.QuietTactic
import Derived.BigQuiet
import Derived.Outline
namespace Go.Proofs.Ytppfjdohajomoaa
open Go.RowKit
set_option maxRecDepth 100000

/-- block g holds cells of type t -/
def Has (w : World) (g : Nat) (t : TypeId) : Prop := ∃ cs fr, w.heap[g]? = some (.cells cs t fr)
theorem Has.ne {w : World} {g g' : Nat} {t t' : TypeId} (h : Has w g t) (h' : Has w g' t') (ht : t ≠ t') : g ≠ g' := by
  rintro rfl
  obtain ⟨cs, fr, e⟩ := h
  obtain ⟨cs', fr', e'⟩ := h'
  rw [e] at e'
  injection e' with e'
  injection e' with _ e' _
  exact ht e'
theorem Has.lt {w : World} {g : Nat} {t : TypeId} (h : Has w g t) : g < w.heap.size := by
  obtain ⟨cs, fr, e⟩ := h
  exact (Array.getElem?_eq_some_iff.1 e).1
theorem Blk.has {w : World} {g : Nat} {t : TypeId} {cs : Array Value} (h : Blk w g t cs) : Has w g t := ⟨cs, _, h⟩

/-- all but the blocks in S is as it was -/
structure Chg (S : Nat → Prop) (w w' : World) : Prop where
  os : w'.os = w.os
  tape : w'.tape = w.tape
  output : w'.output = w.output
  size : w.heap.size ≤ w'.heap.size
  block : ∀ k, k < w.heap.size → ¬ S k → w'.heap[k]? = w.heap[k]?
section
variable {S S' : Nat → Prop} {w w1 w2 : World}
theorem Chg.refl (S : Nat → Prop) (w : World) : Chg S w w := ⟨rfl, rfl, rfl, Nat.le_refl _, fun _ _ _ => rfl⟩
theorem Chg.trans (h : Chg S w w1) (k : Chg S w1 w2) : Chg S w w2 :=
  ⟨k.os.trans h.os, k.tape.trans h.tape, k.output.trans h.output, Nat.le_trans h.size k.size, fun i hi h1 => (k.block i (Nat.lt_of_lt_of_le hi h.size) h1).trans (h.block i hi h1)⟩
theorem Chg.mono (h : Chg S w w1) (hS : ∀ k, k < w.heap.size → S k → S' k) : Chg S' w w1 := ⟨h.os, h.tape, h.output, h.size, fun k hk hn => h.block k hk fun hs => hn (hS k hk hs)⟩
theorem Chg.trans' (h : Chg S w w1) (k : Chg S' w1 w2) (hS : ∀ k, k < w.heap.size → S' k → S k) : Chg S w w2 :=
  ⟨k.os.trans h.os, k.tape.trans h.tape, k.output.trans h.output, Nat.le_trans h.size k.size, fun i hi h1 => (k.block i (Nat.lt_of_lt_of_le hi h.size) fun hs => h1 (hS i hi hs)).trans (h.block i hi h1)⟩
theorem Chg.of_below (h : Below w.heap.size w w1) : Chg S w w1 := ⟨h.os, h.tape, h.output, h.size, fun k hk _ => h.block k hk⟩
theorem Chg.below (h : Chg S w w1) (k : Below w1.heap.size w1 w2) : Chg S w w2 := h.trans (.of_below k)
theorem Chg.drew (h : Chg S w w1) : Chg S w w1.drew := h.trans ⟨rfl, rfl, rfl, Nat.le_refl _, fun _ _ _ => rfl⟩
theorem Chg.drewN (h : Chg S w w1) (n : Nat) : Chg S w (w1.drewN n) := h.trans ⟨rfl, rfl, rfl, Nat.le_refl _, fun _ _ _ => rfl⟩
theorem Chg.set (h : Chg S w w1) {g : Nat} (hg : S g) (i : Nat) (u : Value) : Chg S w (w1.setCell ⟨g, i, none⟩ u) :=
  h.trans ⟨rfl, rfl, rfl, by simp [World.setCell], fun k _ hk => Below.heap_setCell w1 _ _ k (by rintro rfl; exact hk hg)⟩
theorem Chg.alloc (h : Chg S w w1) (o : Obj) : Chg S w (w1.alloc o) := h.below ((Below.refl _ _).alloc (Nat.le_refl _) o)
theorem Chg.toBelow (h : Chg S w w1) {B : Nat} {w0 : World} (hb : Below B w0 w) (hS : ∀ k, S k → B ≤ k) (hB : B ≤ w.heap.size) : Below B w0 w1 :=
  hb.trans ⟨h.os, h.tape, h.output, h.size, fun k hk => h.block k (by omega) (fun hs => by have := hS k hs; omega)⟩
theorem Has.keep {g : Nat} {t : TypeId} (h : Has w g t) (hc : Chg S w w1) (hg : ¬ S g) : Has w1 g t := by
  obtain ⟨cs, fr, e⟩ := h
  exact ⟨cs, fr, (hc.block g (Array.getElem?_eq_some_iff.1 e).1 hg).trans e⟩
theorem Blk.keep {g : Nat} {t : TypeId} {cs : Array Value} (h : Blk w g t cs) (hc : Chg S w w1) (hg : ¬ S g) : Blk w1 g t cs := (hc.block g h.lt hg).trans h
theorem Rd.keepC {A : Option Addr} {xs : List Value} (h : Rd w A xs) (hc : Chg S w w1) (hA : ∀ ad, A = some ad → ¬ S ad.block) : Rd w1 A xs := fun hn => by
  obtain ⟨ad, e, hb, hcell⟩ := h hn
  refine ⟨ad, e, Nat.lt_of_lt_of_le hb hc.size, fun j u hu => ?_⟩
  rw [World.cell?_of_block (w := w) (hc.block _ (by rw [add_block]; exact hb) (by rw [add_block]; exact hA ad e))]
  exact hcell j u hu
theorem own_keepC {base : Nat} {e : TypeId} {size n : Nat} {v : Value} {xs : List Value} (h : w.ownsRow base e size v n xs) (hc : Chg S w w1) (hv : ∀ g, v.ownBlock = some g → ¬ S g) : w1.ownsRow base e size v n xs := by
  refine ⟨h.1, ?_⟩
  rcases h.2 with h0 | ⟨g, cap, cur, rfl, hbg, hg, r⟩
  · exact .inl h0
  · exact .inr ⟨g, cap, cur, rfl, hbg, (hc.block g (Array.getElem?_eq_some_iff.1 hg).1 (hv g rfl)).trans hg, r⟩
end

/-- a page in memory: its slice, its bytes -/
def PgOk (w : World) (s : Sb) : Prop := Rd w s.A (byts s.l) ∧ s.l.length ≤ s.c ∧ ∀ ad, s.A = some ad → Has w ad.block 5
theorem PgOk.keep {S : Nat → Prop} {w w1 : World} {s : Sb} (h : PgOk w s) (hc : Chg S w w1) (hS : ∀ k, S k → ¬ Has w k 5) : PgOk w1 s := by
  obtain ⟨h1, h2, h3⟩ := h
  have hn : ∀ ad, s.A = some ad → ¬ S ad.block := fun ad e hs => hS _ hs (h3 ad e)
  exact ⟨h1.keepC hc hn, h2, fun ad e => (h3 ad e).keep hc (hn ad e)⟩

/-- a zone in memory: its row of pages -/
structure ZS where
  A : Option Addr
  c : Nat
  pg : List Sb
  fl : Nat
def ZS.cells (z : ZS) : List Value := [.slice z.A z.pg.length z.c, .int .i64 (z.fl : Nat)]
def zcells (zs : List ZS) : List Value := zs.flatMap ZS.cells
/-- the row of a zone's pages: the call's own, or without room -/
structure ZRow (w : World) (B m : Nat) (z : ZS) : Prop where
  row : Ap w B 38 1 (.slice z.A z.pg.length z.c) z.pg.length (z.pg.map Sb.val)
  has : ∀ ad, z.A = some ad → B ≤ ad.block ∧ Has w ad.block 38
  pages : ∀ s ∈ z.pg, PgOk w s
  few : z.pg.length ≤ m
  fl : z.fl ≤ z.pg.length
theorem ZRow.keep {S : Nat → Prop} {w w1 : World} {B m : Nat} {z : ZS} (h : ZRow w B m z) (hc : Chg S w w1) (hz : ∀ ad, z.A = some ad → ¬ S ad.block) (hS : ∀ k, S k → ¬ Has w k 5) : ZRow w1 B m z := by
  refine ⟨?_, fun ad e => ⟨(h.has ad e).1, (h.has ad e).2.keep hc (hz ad e)⟩, fun s hs => (h.pages s hs).keep hc hS, h.few, h.fl⟩
  rcases h.row with h1 | ⟨A, h1, h2, h3, h4⟩
  · exact .inl (own_keepC h1 hc fun g hg => by
      cases hA : z.A with
      | none => rw [hA] at hg; simp [Value.ownBlock] at hg
      | some ad => rw [hA] at hg; simp [Value.ownBlock] at hg; rw [← hg]; exact hz ad hA)
  · refine .inr ⟨A, h1, h2, h3, h4.keepC hc fun ad e => ?_⟩
    injection h1 with e1 _ _
    exact hz ad (by rw [e1, e])
end Go.Proofs.Ytppfjdohajomoaa
