/- Drives: Pointer, Read, Flush. -/
import Derived.Test.YtppfjdohajomoaaZd
namespace Go.Proofs.Ytppfjdohajomoaa
open Go.RowKit
set_option maxHeartbeats 2000000
set_option maxRecDepth 100000

/-- a zone is put in the place of another one whose row lies in the same block -/
theorem DrAt.put {w w' : World} {B D Z P pages size n : Nat} {lost : Bool} {zs : List ZS} (h : DrAt w B D Z P pages size lost zs) (hn : n < zs.length) (z : ZS) (hA : z.A = zs[n].A) (hz : ZRow w B pages z) (hb : Blk w' Z 154 (zcells (zs.set n z)).toArray) (hc : Chg (fun k => k = Z) w w') :
    DrAt w' B D Z P pages size lost (zs.set n z) := by
  have hZ8 : ∀ k, k = Z → ¬ Has w k 5 := fun k e => by rw [e]; exact h.zon.has.not8 (by decide)
  have hZr : ∀ i (hi : i < zs.length) ad, zs[i].A = some ad → ¬ ad.block = Z := fun i hi ad e e' => (((h.rows i hi).has ad e).2.ne h.zon.has (by decide)) e'
  refine ⟨?_, hb, h.low, ⟨h.most.1, by simpa using h.most.2⟩, fun i hi => ?_, fun i j hi hj hij a b ha hb => ?_⟩
  · simp only [List.length_set]
    exact h.drv.keep hc (fun e => (h.drv.has.ne h.zon.has (by decide)) e)
  · have hi' : i < zs.length := by simpa using hi
    by_cases e : i = n
    · subst e
      rw [List.getElem_set_self]
      exact hz.keep hc (fun ad e => hZr i hi' ad (by rw [← hA]; exact e)) hZ8
    · rw [List.getElem_set_ne (by omega)]
      exact (h.rows i hi').keep hc (hZr i hi') hZ8
  · have hi' : i < zs.length := by simpa using hi
    have hj' : j < zs.length := by simpa using hj
    have key : ∀ i (hi : i < (zs.set n z).length) (hi' : i < zs.length), (zs.set n z)[i].A = zs[i].A := by
      intro i hi hi'
      by_cases e : i = n
      · subst e; rw [List.getElem_set_self]; exact hA
      · rw [List.getElem_set_ne (by omega)]
    rw [key i hi hi'] at ha
    rw [key j hj hj'] at hb
    exact h.apart i j hi' hj' hij a b ha hb

theorem pointer_ok (w : World) (B D Z P pages size n : Nat) (zs : List ZS) (armed writes : Nat) (picks devs : Value) (h : DrAt w B D Z P pages size false zs) (hp : PwAt w P false armed picks writes devs) (hn : n < zs.length) :
    Calls Try.prog 48 #[.pointer (some ⟨D, 0, none⟩), .int .i64 (n : Nat)] w fun e w' => e = .returned (.tuple #[.int .i64 (zs[n].pg.length : Nat), .int .i64 0]) ∧ w = w' := by
  have hzn := zone_any w B D Z P pages size false zs false armed writes picks devs (n : Nat) h hp
  have hzE : zoneE false false (n : Int) zs.length = 0 := by unfold zoneE; rw [if_neg (by simp [readyE]), if_neg (by omega)]
  rw [hzE] at hzn
  have z0 := h.z0 n hn
  clear hzE
  generalize zs[n] = z at *
  go_enter Try.func48, Try.ntmps48
  go_wp2_with (go_at_call 79; refine hzn.mono ?_; rintro e w1 ⟨_, he, rfl⟩; obtain rfl := he rfl)
  go_ret2
  exact ⟨rfl, rfl⟩

theorem read_ok (w : World) (B D Z P pages size n k : Nat) (zs : List ZS) (armed writes : Nat) (picks devs : Value) (h : DrAt w B D Z P pages size false zs) (hp : PwAt w P false armed picks writes devs) (hn : n < zs.length) (hk : k < zs[n].pg.length) (hl : (zs[n].pg[k]).l.length ≤ 140737488351232) :
    Calls Try.prog 49 #[.pointer (some ⟨D, 0, none⟩), .int .i64 (n : Nat), .int .i64 (k : Nat)] w fun e w' => ∃ A' c', e = .returned (.tuple #[.slice A' (zs[n].pg[k]).l.length c', .int .i64 0]) ∧
      w'.ownsRow w.heap.size 5 1 (.slice A' (zs[n].pg[k]).l.length c') (zs[n].pg[k]).l.length (byts (zs[n].pg[k]).l) ∧ Below w.heap.size w w' := by
  have hzn := zone_any w B D Z P pages size false zs false armed writes picks devs (n : Nat) h hp
  have hzE : zoneE false false (n : Int) zs.length = 0 := by unfold zoneE; rw [if_neg (by simp [readyE]), if_neg (by omega)]
  rw [hzE] at hzn
  have z0 := h.z0 n hn
  have hrow := h.rows n hn
  clear hzE
  generalize zs[n] = z at *
  have hrd : Rd w z.A (z.pg.map Sb.val) := by
    rcases hrow.row with h1 | ⟨A, h1, h2, h3, h4⟩
    · exact Rd.of_own h1
    · injection h1 with e1 _ _; rw [e1]; exact h4
  obtain ⟨ad, hA, _, hcell⟩ := hrd.at_ (k := k) (by simpa using hk)
  rw [List.getElem_map] at hcell
  have hs := hrow.pages z.pg[k] (List.getElem_mem hk)
  have hcl := clone_any z.pg[k].A z.pg[k].c z.pg[k].l w hs.1 hl
  unfold Sb.val at hcell
  rw [hA] at z0
  have k1 : decide (z.pg.length ≤ k) = false := by simpa using hk
  have k2 : (k : Int) < (z.pg.length : Int) := by omega
  clear hrow hrd hs hl hA
  generalize z.pg[k] = s at *
  go_enter Try.func49, Try.ntmps49
  go_wp2_with (first
    | (go_at_call 79; refine hzn.mono ?_; rintro e w1 ⟨_, he, rfl⟩; obtain rfl := he rfl)
    | (go_at_call 81; refine hcl.mono ?_; rintro e w2 ⟨A2, c2, rfl, ho2, hb2⟩))
  go_ret2
  exact ⟨A2, c2, rfl, ho2, hb2⟩
end Go.Proofs.Ytppfjdohajomoaa
