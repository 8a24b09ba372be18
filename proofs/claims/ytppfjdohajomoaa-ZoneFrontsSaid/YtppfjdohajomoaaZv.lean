/- The law of fronts: the walk. -/
import Derived.Test.YtppfjdohajomoaaZt
import Derived.Test.YtppfjdohajomoaaZu
namespace Go.Proofs.Ytppfjdohajomoaa
open Go.RowKit
set_option maxHeartbeats 4000000
set_option maxRecDepth 100000

theorem notT77 : ¬ TT 77 := by rintro (e | e | e | e | e) <;> exact absurd e (by decide)
theorem notT78 : ¬ TT 78 := by rintro (e | e | e | e | e) <;> exact absurd e (by decide)
/-- the law's own rows of bytes, apart from the pages F -/
structure Rows4 (w : World) (B g h : Nat) (rows : List Sb) (fl : List Nat) (F : Nat → Prop) : Prop where
  len : rows.length = 4
  lenf : fl.length = 4
  blk : Blk w g 77 (rows.map Sb.val).toArray
  blf : Blk w h 78 (fl.map fun n => Value.int .i64 (n : Nat)).toArray
  low : B ≤ g ∧ B ≤ h
  own : ∀ i (hi : i < rows.length), w.ownsRow B 5 1 rows[i].val rows[i].l.length (byts rows[i].l)
  apart : ∀ i j (hi : i < rows.length) (hj : j < rows.length), i ≠ j → ∀ a b, rows[i].A = some a → rows[j].A = some b → a.block ≠ b.block
  notF : ∀ i (hi : i < rows.length), ∀ ad, rows[i].A = some ad → ¬ F ad.block
  lt : ∀ k, F k → k < w.heap.size
section
variable {w w1 : World} {B g h : Nat} {rows : List Sb} {fl : List Nat} {F : Nat → Prop}
theorem Rows4.keepX (r : Rows4 w B g h rows fl F) (hc : ChgT B w w1) : Rows4 w1 B g h rows fl (FN F w w1) := by
  refine ⟨r.len, r.lenf, r.blk.keepX hc notT77, r.blf.keepX hc notT78, r.low, fun x hx => own_keepX (r.own x hx) hc notT8, r.apart, fun x hx ad e hF => ?_, fun k hk => ?_⟩
  · rcases hF with h1 | h1
    · exact r.notF x hx ad e h1
    · have := (own_cap (r.own x hx)).2.2 ad e
      omega
  · rcases hk with h1 | h1
    · exact Nat.lt_of_lt_of_le (r.lt k h1) hc.size
    · exact h1.2
theorem Rows4.keepF (r : Rows4 w B g h rows fl F) (hc : ChgT B w w1) : Rows4 w1 B g h rows fl F :=
  ⟨r.len, r.lenf, r.blk.keepX hc notT77, r.blf.keepX hc notT78, r.low, fun x hx => own_keepX (r.own x hx) hc notT8, r.apart, r.notF, fun k hk => Nat.lt_of_lt_of_le (r.lt k hk) hc.size⟩
theorem Rows4.below (r : Rows4 w B g h rows fl F) (hb : Below w.heap.size w w1) : Rows4 w1 B g h rows fl F := r.keepF (ChgT.of_below hb)
theorem Rows4.pushed (r : Rows4 w B g h rows fl F) (z : Nat) (hz : z < rows.length) (A' : Option Addr) (c' : Nat) (b : UInt8) (ho : w1.ownsRow B 5 1 (.slice A' (rows[z].l.length + 1) c') (rows[z].l.length + 1) (byts rows[z].l ++ [byt b]))
    (hc : Chg (fun k => ∃ ad, rows[z].A = some ad ∧ k = ad.block) w w1) (hA : ∀ ad, A' = some ad → (∃ ad0, rows[z].A = some ad0 ∧ ad.block = ad0.block) ∨ w.heap.size ≤ ad.block) :
    Rows4 (w1.setCell ⟨g, z, none⟩ (.slice A' (rows[z].l.length + 1) c')) B g h (rows.set z ⟨A', c', rows[z].l ++ [b]⟩) fl F := by
  have hrz := r.own z hz
  have hS : ∀ k, (∃ ad, rows[z].A = some ad ∧ k = ad.block) → Has w k 5 := by
    rintro k ⟨ad, e, rfl⟩
    exact own_has hrz ad e
  have hg : ¬ ∃ ad, rows[z].A = some ad ∧ g = ad.block := fun hh => ((hS _ hh).ne r.blk.has (by decide)) rfl
  have hh : ¬ ∃ ad, rows[z].A = some ad ∧ h = ad.block := fun hh => ((hS _ hh).ne r.blf.has (by decide)) rfl
  have b1 := r.blk.keep hc hg
  have b2 := r.blf.keep hc hh
  have hgh : g ≠ h := b1.has.ne b2.has (by decide)
  have hcg : Chg (fun k => k = g) w1 (w1.setCell ⟨g, z, none⟩ (.slice A' (rows[z].l.length + 1) c')) := Chg.set (S := fun k => k = g) (Chg.refl _ _) rfl _ _
  have hAg : ∀ (x : Sb) (w2 : World) n xs, w2.ownsRow B 5 1 (.slice x.A n x.c) n xs → w2 = w1 → ∀ ad, x.A = some ad → ¬ ad.block = g := by
    rintro x w2 n xs ho2 rfl ad e e'
    exact ((own_has ho2 ad e).ne b1.has (by decide)) e'
  have hAh : ∀ ad, A' = some ad → ¬ ad.block = g := fun ad e e' => ((own_has ho ad e).ne b1.has (by decide)) e'
  have hold : ∀ i (hi : i < rows.length), i ≠ z → w1.ownsRow B 5 1 rows[i].val rows[i].l.length (byts rows[i].l) := fun i hi hiz => by
    refine own_keepC (r.own i hi) hc fun k hk => ?_
    rintro ⟨ad, e, rfl⟩
    cases hA1 : rows[i].A with
    | none => simp [Sb.val, hA1, Value.ownBlock] at hk
    | some a1 =>
      simp [Sb.val, hA1, Value.ownBlock] at hk
      exact r.apart i z hi hz hiz a1 ad hA1 e hk
  refine ⟨by simpa using r.len, r.lenf, ?_, b2.keep hcg (fun e => hgh e.symm), r.low, fun i hi => ?_, fun i j hi hj hij a b' ha hb => ?_, fun i hi ad e => ?_, fun k hk => Nat.lt_of_lt_of_le (r.lt k hk) (Nat.le_trans hc.size hcg.size)⟩
  · have := b1.set z (.slice A' (rows[z].l.length + 1) c')
    rw [List.map_set]
    simpa [Sb.val] using this
  · have hi' : i < rows.length := by simpa using hi
    by_cases e : z = i
    · subst e
      rw [List.getElem_set_self]
      refine own_keepC (w := w1) ?_ hcg fun k hk => ?_
      · simpa [Sb.val, byts] using ho
      · cases hA1 : A' with
        | none => simp [Sb.val, hA1, Value.ownBlock] at hk
        | some a1 => simp [Sb.val, hA1, Value.ownBlock] at hk; rw [← hk]; exact hAh a1 hA1
    · rw [List.getElem_set_ne e]
      have h1 := hold i hi' (fun e' => e e'.symm)
      refine own_keepC h1 hcg fun k hk => ?_
      cases hA1 : rows[i].A with
      | none => simp [Sb.val, hA1, Value.ownBlock] at hk
      | some a1 =>
        simp [Sb.val, hA1, Value.ownBlock] at hk
        rw [← hk]
        exact fun e' => ((own_has (A := rows[i].A) h1 a1 hA1).ne b1.has (by decide)) e'
  · have hi' : i < rows.length := by simpa using hi
    have hj' : j < rows.length := by simpa using hj
    have key : ∀ i (hi : i < rows.length), i ≠ z → ∀ a b, rows[i].A = some a → A' = some b → a.block ≠ b.block := by
      intro i hi hin a b ha hb
      rcases hA b hb with ⟨ad0, h0, h1⟩ | h1
      · rw [h1]; exact r.apart i z hi hz hin a ad0 ha h0
      · have := ((own_cap (A := rows[i].A) (r.own i hi)).2.2 a ha).2
        omega
    by_cases ei : z = i
    · subst ei
      rw [List.getElem_set_self] at ha
      rw [List.getElem_set_ne hij] at hb
      exact fun e => key j hj' (fun e' => hij e'.symm) b' a hb ha e.symm
    · rw [List.getElem_set_ne ei] at ha
      by_cases ej : z = j
      · subst ej
        rw [List.getElem_set_self] at hb
        exact key i hi' (fun e => ei e.symm) a b' ha hb
      · rw [List.getElem_set_ne ej] at hb
        exact r.apart i j hi' hj' hij a b' ha hb
  · have hi' : i < rows.length := by simpa using hi
    by_cases ei : z = i
    · subst ei
      rw [List.getElem_set_self] at e
      rcases hA ad e with ⟨ad0, h0, h1⟩ | h1
      · rw [h1]; exact r.notF z hz ad0 h0
      · exact fun hF => by have := r.lt _ hF; omega
    · rw [List.getElem_set_ne ei] at e
      exact r.notF i hi' ad e
end
end Go.Proofs.Ytppfjdohajomoaa
