/- The law of fronts: words of its second half. -/
import Derived.Test.YtppfjdohajomoaaZv
namespace Go.Proofs.Ytppfjdohajomoaa
open Go.RowKit
set_option maxHeartbeats 4000000
set_option maxRecDepth 100000
section
variable {w w1 : World} {B P g h : Nat} {rows : List Sb} {fl : List Nat} {F : Nat → Prop} {s : St}
theorem Rows4.setfl (r : Rows4 w B g h rows fl F) (k n : Nat) : Rows4 (w.setCell ⟨h, k, none⟩ (.int .i64 (n : Nat))) B g h rows (fl.set k n) F := by
  have hc : Chg (fun j => j = h) w (w.setCell ⟨h, k, none⟩ (.int .i64 (n : Nat))) := Chg.set (S := fun j => j = h) (Chg.refl _ _) rfl _ _
  have hgh : g ≠ h := r.blk.has.ne r.blf.has (by decide)
  refine ⟨r.len, by simpa using r.lenf, r.blk.keep hc hgh, ?_, r.low, fun i hi => ?_, r.apart, r.notF, fun k hk => Nat.lt_of_lt_of_le (r.lt k hk) hc.size⟩
  · have := r.blf.set k (.int .i64 (n : Nat))
    rw [List.map_set]
    simpa using this
  · refine own_keepC (r.own i hi) hc fun j hj => ?_
    cases hA : rows[i].A with
    | none => simp [Sb.val, hA, Value.ownBlock] at hj
    | some a1 =>
      simp [Sb.val, hA, Value.ownBlock] at hj
      rw [← hj]
      exact (own_has (A := rows[i].A) (r.own i hi) a1 hA).ne r.blf.has (by decide)
theorem Pow.setAt (hp : Pow w B P s F) {k : Nat} {t : TypeId} (hh : Has w k t) (hT : ¬ TT t) (hI : t ≠ 3) (hF : ¬ F k) (i : Nat) (u : Value) : Pow (w.setCell ⟨k, i, none⟩ u) B P s F :=
  hp.keep (S := fun j => j = k) (Chg.set (S := fun j => j = k) (Chg.refl _ _) rfl _ _) fun j e => by subst e; exact ⟨⟨t, hh, hT, hI⟩, hF⟩
theorem below_set {w0 : World} (hb : Below B w0 w) (hBs : B ≤ w0.heap.size) {k : Nat} (hk : B ≤ k) (i : Nat) (u : Value) : Below B w0 (w.setCell ⟨k, i, none⟩ u) :=
  Chg.toBelow (S := fun j => j = k) (Chg.set (S := fun j => j = k) (Chg.refl _ _) rfl _ _) hb (fun j e => by rw [e]; exact hk) (Nat.le_trans hBs hb.size)
/-- the law's row pushed: everything holds behind it -/
theorem push_all {w0 : World} {z : Nat} (r : Rows4 w B g h rows fl F) (hp : Pow w B P s F) (hb : Below B w0 w) (hBs : B ≤ w0.heap.size) (hFg : ¬ F g) (hz : z < rows.length) (A' : Option Addr) (c' : Nat) (b : UInt8) (ho : w1.ownsRow B 5 1 (.slice A' (rows[z].l.length + 1) c') (rows[z].l.length + 1) (byts rows[z].l ++ [byt b]))
    (hc : Chg (fun k => ∃ ad, rows[z].A = some ad ∧ k = ad.block) w w1) (hA : ∀ ad, A' = some ad → (∃ ad0, rows[z].A = some ad0 ∧ ad.block = ad0.block) ∨ w.heap.size ≤ ad.block) :
    Rows4 (w1.setCell ⟨g, z, none⟩ (.slice A' (rows[z].l.length + 1) c')) B g h (rows.set z ⟨A', c', rows[z].l ++ [b]⟩) fl F ∧ Pow (w1.setCell ⟨g, z, none⟩ (.slice A' (rows[z].l.length + 1) c')) B P s F ∧ Below B w0 (w1.setCell ⟨g, z, none⟩ (.slice A' (rows[z].l.length + 1) c')) := by
  have hS : ∀ k, (∃ ad, rows[z].A = some ad ∧ k = ad.block) → Has w k 5 := by
    rintro k ⟨ad, e, rfl⟩
    exact own_has (r.own z hz) ad e
  have hSB : ∀ k, (∃ ad, rows[z].A = some ad ∧ k = ad.block) → B ≤ k := by
    rintro k ⟨ad, e, rfl⟩
    exact ((own_cap (A := rows[z].A) (r.own z hz)).2.2 ad e).1
  have hg1 : Has w1 g 77 := r.blk.has.keep hc fun hh => ((hS _ hh).ne r.blk.has (by decide)) rfl
  refine ⟨r.pushed z hz A' c' b ho hc hA, (hp.keep hc fun k hk => ⟨⟨_, hS k hk, notT8, by decide⟩, ?_⟩).setAt hg1 notT77 (by decide) hFg _ _, below_set (Chg.toBelow hc hb hSB (Nat.le_trans hBs hb.size)) hBs r.low.1 _ _⟩
  obtain ⟨ad, e, rfl⟩ := hk
  exact r.notF z hz ad e
theorem FN.not {k : Nat} (h : ¬ F k) (hk : k < w.heap.size) : ¬ FN F w w1 k := by
  rintro (h1 | h1)
  · exact h h1
  · omega
end
/-- where a drive's zone stands -/
theorem pointerR_front {D pg sz nw : Nat} {pk : List Int} {zs : List (List (List UInt8) × Nat)} {z : Nat} {y : List (List UInt8) × Nat} (h : zs[z]? = some y) : pointerR ⟨false, 0, pk, nw, [⟨D, pg, sz, false, zs⟩]⟩ 0 (z : Nat) = (y.1.length, 0) := by
  have hz : z < zs.length := (List.getElem?_eq_some_iff.1 h).1
  have e : zoneE false false (z : Nat) zs.length = 0 := by unfold zoneE; rw [if_neg (by simp [readyE]), if_neg (by omega)]
  unfold pointerR
  simp only [List.getElem?_cons_zero, e, ne_eq, not_true_eq_false, if_false, Int.toNat_natCast, h]
end Go.Proofs.Ytppfjdohajomoaa
