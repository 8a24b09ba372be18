/- Drives on a power: one of them turned; the write that cuts. -/
import Derived.Test.YtppfjdohajomoaaZj
import Derived.Handy
namespace Go.Proofs.Ytppfjdohajomoaa
open Go.RowKit
set_option maxHeartbeats 4000000
set_option maxRecDepth 100000

theorem Ap.rd {w : World} {B : Nat} {e : TypeId} {A : Option Addr} {n c : Nat} {xs : List Value} (h : Ap w B e 1 (.slice A n c) n xs) : Rd w A xs := by
  rcases h with h1 | ⟨A1, h1, _, _, h4⟩
  · exact Rd.of_own h1
  · injection h1 with e1 _ _; rw [e1]; exact h4

section
variable {w w1 : World} {B P : Nat} {off : Bool} {armed : Nat} {picks : List Int} {writes : Nat} {ds : List Dr} {vA : Option Addr} {vc : Nat}
theorem Dr.has {d : Dr} (h : d.at_ w B P) : ∀ k, d.S k → k < w.heap.size ∧ ∃ t, (t = 147 ∨ t = 154 ∨ t = 38) ∧ Has w k t := by
  intro k hk
  rcases hk with rfl | rfl | ⟨z, hz, ad, hA, rfl⟩
  · exact ⟨h.drv.lt, _, .inl rfl, h.drv.has⟩
  · exact ⟨h.zon.lt, _, .inr (.inl rfl), h.zon.has⟩
  · obtain ⟨i, hi, rfl⟩ := List.getElem_of_mem hz
    exact ⟨((h.rows i hi).has ad hA).2.lt, _, .inr (.inr rfl), ((h.rows i hi).has ad hA).2⟩

theorem Sys.put {S : Nat → Prop} {off1 : Bool} {armed1 writes1 : Nat} (h : Sys w B P off armed picks writes ds vA vc) {pA : Option Addr} {pc : Nat} (hp : PwAt w P off armed (.slice pA picks.length pc) writes (.slice vA ds.length vc)) (hr : Rd w pA (ints picks)) (hpc : picks.length ≤ pc) (hph : ∀ ad, pA = some ad → Has w ad.block 3)
    (hp1 : PwAt w1 P off1 armed1 (.slice pA picks.length pc) writes1 (.slice vA ds.length vc)) (i : Nat) (hi : i < ds.length) (d1 : Dr) (hDD : d1.D = ds[i].D) (hd1 : d1.at_ w1 B P) (hc : Chg S w w1) (hS : ∀ k, S k → k = P ∨ ds[i].S k) (hN : ∀ k, d1.S k → ds[i].S k ∨ w.heap.size ≤ k) :
    Sys w1 B P off1 armed1 picks writes1 (ds.set i d1) vA vc := by
  have hdi := h.drv _ (List.getElem_mem hi)
  have key : ∀ k, S k → ∃ t, (t = 144 ∨ t = 147 ∨ t = 154 ∨ t = 38) ∧ Has w k t := by
    intro k hk
    rcases hS k hk with rfl | h1
    · exact ⟨_, .inl rfl, hp.blk.has⟩
    · obtain ⟨_, t, ht, hh⟩ := Dr.has hdi k h1
      exact ⟨t, .inr ht, hh⟩
  have no : ∀ t, t ≠ 144 → t ≠ 147 → t ≠ 154 → t ≠ 38 → ∀ k, Has w k t → ¬ S k := by
    intro t n1 n2 n3 n4 k hh hs
    obtain ⟨t', ht, hh'⟩ := key k hs
    have e : t = t' := Classical.byContradiction fun hne => (hh.ne hh' hne) rfl
    subst e
    rcases ht with e | e | e | e
    · exact n1 e
    · exact n2 e
    · exact n3 e
    · exact n4 e
  have nV : ∀ ad, vA = some ad → ¬ S ad.block := fun ad e => no _ (by decide) (by decide) (by decide) (by decide) _ (h.has ad e).2
  have nP : ∀ ad, pA = some ad → ¬ S ad.block := fun ad e => no _ (by decide) (by decide) (by decide) (by decide) _ (hph ad e)
  have hlen : (ds.set i d1).length = ds.length := by simp
  refine ⟨⟨pA, pc, by rw [hlen]; exact hp1, hr.keepC hc nP, hpc, fun ad e => (hph ad e).keep hc (nP ad e)⟩, h.low, ?_, fun ad e => ⟨(h.has ad e).1, (h.has ad e).2.keep hc (nV ad e)⟩, fun d hd => ?_, fun a b ha hb hab k hk => ?_, by rw [hlen]; exact h.few, h.pks⟩
  · have e : (ds.set i d1).map (fun d => devV d.D) = ds.map fun d => devV d.D := by
      apply List.ext_getElem?
      intro j
      rw [List.getElem?_map, List.getElem?_map]
      by_cases e : i = j
      · subst e
        rw [List.getElem?_set_self hi, List.getElem?_eq_getElem hi]
        simp [hDD]
      · rw [List.getElem?_set_ne e]
    rw [hlen, e]
    exact h.row.keepC hc nV
  · obtain ⟨j, hj, rfl⟩ := List.getElem_of_mem hd
    have hj' : j < ds.length := by rw [← hlen]; exact hj
    by_cases e : i = j
    · subst e
      rw [List.getElem_set_self]
      exact hd1
    · rw [List.getElem_set_ne e]
      refine DrAt.keep (h.drv _ (List.getElem_mem hj')) hc (fun k hk h8 => no _ (by decide) (by decide) (by decide) (by decide) k h8 hk) fun k hk hs => ?_
      rcases hS k hs with e2 | e2
      · obtain ⟨_, t, ht, hh⟩ := Dr.has (h.drv _ (List.getElem_mem hj')) k hk
        rw [e2] at hh
        refine (hh.ne hp.blk.has (fun e => ?_)) rfl
        subst e
        rcases ht with e | e | e <;> exact absurd e (by decide)
      · exact h.apart j i hj' hi (by omega) k hk e2
  · have ha' : a < ds.length := by rw [← hlen]; exact ha
    have hb' : b < ds.length := by rw [← hlen]; exact hb
    have kk : ∀ j (hj : j < ds.length), i ≠ j → ∀ k, d1.S k → ds[j].S k → False := by
      intro j hj hij k h1 h2
      rcases hN k h1 with h3 | h3
      · exact h.apart i j hi hj hij k h3 h2
      · have := (Dr.has (h.drv _ (List.getElem_mem hj)) k h2).1
        omega
    by_cases e : i = a
    · subst e
      rw [List.getElem_set_self] at hk
      rw [List.getElem_set_ne hab]
      exact fun h2 => kk b hb' hab k hk h2
    · rw [List.getElem_set_ne e] at hk
      by_cases e2 : i = b
      · subst e2
        rw [List.getElem_set_self]
        exact fun h2 => kk a ha' e k h2 hk
      · rw [List.getElem_set_ne e2]
        exact h.apart a b ha' hb' hab k hk

def cutD (p : List Int) (d : Dr) : Dr := { d with zs := cutS p d.zs }
def cutDs (p : List Int) (ds : List Dr) (k : Nat) : List Dr := (ds.take k).map (cutD p) ++ ds.drop k
theorem cutDs_length (p : List Int) (ds : List Dr) (k : Nat) : (cutDs p ds k).length = ds.length := by simp [cutDs]; omega
theorem cutDs_get (p : List Int) (ds : List Dr) (k : Nat) (hk : k < ds.length) : (cutDs p ds k)[k]'(by rw [cutDs_length]; exact hk) = ds[k] := by
  simp only [cutDs]
  rw [List.getElem_append_right (by simp; omega)]
  simp [Nat.min_eq_left (Nat.le_of_lt hk)]
theorem cutDs_set (p : List Int) (ds : List Dr) (k : Nat) (hk : k < ds.length) : (cutDs p ds k).set k (cutD p ds[k]) = cutDs p ds (k + 1) := by
  have hl : ((ds.take k).map (cutD p)).length = k := by simp; omega
  simp only [cutDs]
  rw [List.set_append, if_neg (by omega), hl, Nat.sub_self, List.drop_eq_getElem_cons hk, List.set_cons_zero, List.take_succ_eq_append_getElem hk, List.map_append, List.append_assoc]
  rfl
theorem cutS_blocks (p : List Int) : ∀ (zs : List ZS) z, z ∈ cutS p zs → ∃ y ∈ zs, z.A = y.A
  | [], z, h => by cases p <;> simp [cutS] at h
  | y :: r, z, h => by
    rw [cutS] at h
    split at h
    · rcases List.mem_cons.1 h with h1 | h1
      · exact ⟨y, by simp, by rw [h1]⟩
      · obtain ⟨x, hx, e⟩ := cutS_blocks p r z h1
        exact ⟨x, by simp [hx], e⟩
    · rcases List.mem_cons.1 h with h1 | h1
      · exact ⟨y, by simp, by rw [h1]; rfl⟩
      · obtain ⟨x, hx, e⟩ := cutS_blocks p.tail r z h1
        exact ⟨x, by simp [hx], e⟩
theorem cutD_S (p : List Int) (d : Dr) (k : Nat) (h : (cutD p d).S k) : d.S k := by
  rcases h with h | h | ⟨z, hz, ad, hA, rfl⟩
  · exact .inl h
  · exact .inr (.inl h)
  · obtain ⟨y, hy, e⟩ := cutS_blocks p d.zs z hz
    exact .inr (.inr ⟨y, hy, ad, by rw [← e]; exact hA, rfl⟩)
end
end Go.Proofs.Ytppfjdohajomoaa
