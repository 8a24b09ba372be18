/- The law of fronts over values. -/
import Derived.Test.YtppfjdohajomoaaZq
namespace Go.Proofs.Ytppfjdohajomoaa
open Go.RowKit
set_option maxHeartbeats 1000000
set_option maxRecDepth 100000

/-- a zone cut has a front of its pages, with all that were flushed -/
theorem cutP_front : ∀ (p : List Int) (zs : List (List (List UInt8) × Nat)) (i : Nat) (z : List (List UInt8) × Nat), zs[i]? = some z → z.2 ≤ z.1.length → ∃ n z', (cutP p zs)[i]? = some z' ∧ z.2 ≤ n ∧ n ≤ z.1.length ∧ z'.1 = z.1.take n
  | p, [], i, z, h, _ => by simp at h
  | p, y :: r, i, z, h, hz => by
    have hk := keptN_le p (y.1.length - y.2)
    rw [cutP]
    split
    · rename_i e
      cases i with
      | zero =>
        simp only [List.getElem?_cons_zero, Option.some.injEq] at h
        subst h
        exact ⟨y.1.length, y, rfl, hz, Nat.le_refl _, by simp⟩
      | succ i =>
        simp only [List.getElem?_cons_succ] at h ⊢
        exact cutP_front p r i z h hz
    · cases i with
      | zero =>
        simp only [List.getElem?_cons_zero, Option.some.injEq] at h
        subst h
        exact ⟨y.2 + keptN p (y.1.length - y.2), _, rfl, by omega, by omega, rfl⟩
      | succ i =>
        simp only [List.getElem?_cons_succ] at h ⊢
        exact cutP_front p.tail r i z h hz

def pgOf (b : UInt8) : List UInt8 := b :: List.replicate 31 0
theorem pgOf_len (b : UInt8) : (pgOf b).length = 32 := by simp [pgOf]
def zOf (all : List (List UInt8)) (fl : List Nat) : List (List (List UInt8) × Nat) := List.zipWith (fun r f => (r.map pgOf, f)) all fl
def sOf (D wr : Nat) (all : List (List UInt8)) (fl : List Nat) : St := ⟨false, 0, [], wr, [⟨D, 300, 32, false, zOf all fl⟩]⟩
theorem zOf_length {all : List (List UInt8)} {fl : List Nat} (ha : all.length = 4) (hf : fl.length = 4) : (zOf all fl).length = 4 := by simp [zOf, ha, hf]
theorem zOf_get {all : List (List UInt8)} {fl : List Nat} (i : Nat) (ha : i < all.length) (hf : i < fl.length) : (zOf all fl)[i]? = some (all[i].map pgOf, fl[i]) := by
  simp [zOf, List.getElem?_zipWith, List.getElem?_eq_getElem ha, List.getElem?_eq_getElem hf]
theorem zOf_set {all : List (List UInt8)} {fl : List Nat} (i : Nat) (ha : i < all.length) (hf : i < fl.length) (b : UInt8) : (zOf all fl).set i (all[i].map pgOf ++ [pgOf b], fl[i]) = zOf (all.set i (all[i] ++ [b])) fl := by
  apply List.ext_getElem?
  intro j
  by_cases e : i = j
  · subst e
    have hl : i < (zOf all fl).length := by simp [zOf]; omega
    rw [List.getElem?_set_self hl]
    simp [zOf, List.getElem?_zipWith, List.getElem?_set_self ha, List.getElem?_eq_getElem hf]
  · rw [List.getElem?_set_ne e]
    simp [zOf, List.getElem?_zipWith, List.getElem?_set_ne e]
theorem sOf_append (D wr : Nat) {all : List (List UInt8)} {fl : List Nat} (ha : all.length = 4) (hf : fl.length = 4) (i : Nat) (hi : i < 4) (hm : all[i].length < 300) (b : UInt8) :
    appendR (sOf D wr all fl) 0 (i : Nat) (pgOf b) = (0, sOf D (wr + 1) (all.set i (all[i] ++ [b])) fl) := by
  have h1 := zOf_get (all := all) (fl := fl) i (by omega) (by omega)
  have h2 := zOf_set (all := all) (fl := fl) i (by omega) (by omega) b
  have h3 := zOf_length ha hf
  have e : zoneE false false (i : Nat) 4 = 0 := by unfold zoneE; rw [if_neg (by simp [readyE]), if_neg (by omega)]
  have e2 : ¬ all[i].length = 300 := by omega
  unfold sOf appendR
  simp only [List.getElem?_cons_zero, h3, e, ne_eq, not_true_eq_false, if_false, pgOf_len, Int.toNat_natCast, h1, List.length_map, e2, St.wrote, List.set_cons_zero, h2]
  rfl
theorem sOf_flush (D wr : Nat) {all : List (List UInt8)} {fl : List Nat} (h : all.length = fl.length) : flushR (sOf D wr all fl) 0 = (0, sOf D (wr + 1) all (all.map List.length)) := by
  have e : (zOf all fl).map (fun z => (z.1, z.1.length)) = zOf all (all.map List.length) := by
    apply List.ext_getElem?
    intro j
    simp only [zOf, List.getElem?_map, List.getElem?_zipWith]
    rcases Nat.lt_or_ge j all.length with hj | hj
    · simp [List.getElem?_eq_getElem hj, List.getElem?_eq_getElem (show j < fl.length by omega)]
    · simp [List.getElem?_eq_none hj]
  unfold sOf flushR
  simp only [List.getElem?_cons_zero, readyE, Bool.false_eq_true, if_false, ne_eq, not_true_eq_false, St.wrote, List.set_cons_zero, e]
  rfl
end Go.Proofs.Ytppfjdohajomoaa
