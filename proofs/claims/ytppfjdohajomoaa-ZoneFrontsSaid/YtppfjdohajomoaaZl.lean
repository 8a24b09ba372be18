/- The write that cuts. -/
import Derived.Test.YtppfjdohajomoaaZk
namespace Go.Proofs.Ytppfjdohajomoaa
open Go.RowKit
set_option maxHeartbeats 4000000
set_option maxRecDepth 100000

theorem PwAt.keepZ {w w1 : World} {P : Nat} {off : Bool} {armed writes : Nat} {picks devs : Value} (h : PwAt w P off armed picks writes devs) {Z : Nat} (hZ : P ≠ Z) (hc : Chg (fun k => k = Z) w w1) : PwAt w1 P off armed picks writes devs := ⟨h.blk.keep hc hZ⟩

theorem nilAhead_dev (D : Nat) (W : World) : (nilAhead 290 70 (.pointer (some ⟨D, 0, none⟩)) "Cut").run Try.prog W = .ok (some false) W := by kernel_rfl
theorem method_dev (D : Nat) (W : World) : (method 290 70 (.pointer (some ⟨D, 0, none⟩)) "Cut").run Try.prog W = .ok (47, .pointer (some ⟨D, 0, none⟩)) W := by kernel_rfl
section
variable {w w1 : World} {B P : Nat} {off : Bool} {armed : Nat} {picks : List Int} {writes : Nat} {ds : List Dr} {vA : Option Addr} {vc : Nat}
/-- the cut of the k-th -/
theorem Sys.cutK {wr w' : World} {k : Nat} (hk : k < ds.length) (h : Sys wr B P off armed picks writes (cutDs picks ds k) vA vc) (hd : (cutD picks ds[k]).at_ w' B P) (hc : Chg (fun j => j = ds[k].Z) wr w') : Sys w' B P off armed picks writes (cutDs picks ds (k + 1)) vA vc := by
  obtain ⟨pA, pc, h1, h2, h3, h4⟩ := h.pw
  have hk' : k < (cutDs picks ds k).length := by rw [cutDs_length]; exact hk
  have hg := cutDs_get picks ds k hk
  have hold := h.drv _ (List.getElem_mem hk')
  rw [hg] at hold
  have := Sys.put (S := fun j => j = ds[k].Z) h h1 h2 h3 h4 (h1.keepZ (h1.blk.has.ne hold.zon.has (by decide)) hc) k hk' (cutD picks ds[k]) (by rw [hg]; rfl) hd hc (fun j e => .inr (by rw [hg, e]; exact .inr (.inl rfl))) (fun j e => .inl (by rw [hg]; exact cutD_S _ _ _ e))
  rw [cutDs_set picks ds k hk] at this
  exact this

theorem write_cut (h : Sys w B P false 1 picks writes ds vA vc) (hpl : picks.length ≤ 1000000) :
    Calls Try.prog 80 #[.pointer (some ⟨P, 0, none⟩)] w fun e w' => e = .returned (.bool false) ∧ Sys w' B P true 0 picks writes (cutDs picks ds ds.length) vA vc ∧ Chg (fun k => k = P ∨ ∃ d ∈ ds, k = d.Z) w w' := by
  obtain ⟨pA, pc, ⟨h1⟩, h2, h3, h4⟩ := h.pw
  have c0 : w.cell? ⟨P, 0, none⟩ = some (.bool false) := h1.cell 0
  have c1 : w.cell? ⟨P, 1, none⟩ = some (.int .i64 (1 : Nat)) := h1.cell 1
  have c4 : w.cell? ⟨P, 4, none⟩ = some (.slice vA ds.length vc) := h1.cell 4
  have f0 : w.frozen? ⟨P, 0, none⟩ = false := h1.frozen 0
  have f1 : w.frozen? ⟨P, 1, none⟩ = false := h1.frozen 1
  have hfew := h.few
  have hcP : Chg (fun k => k = P) w ((w.setCell ⟨P, 0, none⟩ (.bool true)).setCell ⟨P, 1, none⟩ (.int .i64 0)) := Chg.set (S := fun k => k = P) (Chg.set (S := fun k => k = P) (Chg.refl _ _) rfl _ _) rfl _ _
  have hs0 : Sys ((w.setCell ⟨P, 0, none⟩ (.bool true)).setCell ⟨P, 1, none⟩ (.int .i64 0)) B P true 0 picks writes (cutDs picks ds 0) vA vc := by
    have e : cutDs picks ds 0 = ds := by simp [cutDs]
    rw [e]
    have hPh := h1.has
    have no : ∀ t, t ≠ 144 → ∀ k, Has w k t → ¬ k = P := fun t ht k hh e => ((e ▸ hh : Has w P t).ne hPh ht) rfl
    refine ⟨⟨pA, pc, ⟨by simpa using (h1.set 0 (.bool true)).set 1 (.int .i64 0)⟩, h2.keepC hcP fun ad e => no _ (by decide) _ (h4 ad e), h3, fun ad e => (h4 ad e).keep hcP (no _ (by decide) _ (h4 ad e))⟩, h.low, h.row.keepC hcP fun ad e => no _ (by decide) _ (h.has ad e).2, fun ad e => ⟨(h.has ad e).1, (h.has ad e).2.keep hcP (no _ (by decide) _ (h.has ad e).2)⟩, fun d hd => DrAt.keepP (h.drv d hd) hPh hcP, h.apart, h.few, h.pks⟩
  go_enter Try.func80, Try.ntmps80
  go_wp2
  go_loopg [25] ds.length (fun g s25 wr => ∃ (k : Nat), g = ds.length - k ∧ s25 = .int .i64 (k : Nat) ∧ k ≤ ds.length ∧ Sys wr B P true 0 picks writes (cutDs picks ds k) vA vc ∧ Chg (fun k => k = P ∨ ∃ d ∈ ds, k = d.Z) w wr)
  case atStart => exact ⟨0, rfl, rfl, by omega, hs0, hcP.mono fun k _ h => .inl h⟩
  case round =>
    obtain ⟨k, rfl, rfl, hk, hS, hc⟩ := hrel
    clear h h1 h2 h3 h4 c0 c1 c4 f0 f1 hcP hs0
    by_cases hkl : k < ds.length
    · obtain ⟨pA, pc, ⟨h1⟩, h2, h3, h4⟩ := hS.pw
      have hkl' : k < (cutDs picks ds k).length := by rw [cutDs_length]; exact hkl
      have hrd := hS.row.rd
      obtain ⟨ad, rfl, hb, hcell⟩ := hrd.at_ (k := k) (by simpa using hkl')
      have hdv : wr.cell? (ad.add k) = some (.iface 70 (.pointer (some ⟨ds[k].D, 0, none⟩))) := by
        rw [hcell]
        simp only [List.getElem_map, cutDs_get picks ds k hkl]
        rfl
      clear hcell
      have c2 : wr.cell? ⟨P, 2, none⟩ = some (.slice pA picks.length pc) := h1.cell 2
      have j1 : (k : Int) < (ds.length : Int) := by omega
      have hdr := hS.drv _ (List.getElem_mem hkl')
      rw [cutDs_get picks ds k hkl] at hdr
      have hnc := nilAhead_dev ds[k].D
      have hme := method_dev ds[k].D
      have hpZ : ∀ ad, pA = some ad → ad.block ≠ ds[k].Z := fun ad e => (h4 ad e).ne hdr.zon.has (by decide)
      have hci := cut_any wr.drew B ds[k].D ds[k].Z P ds[k].pages ds[k].size ds[k].lost ds[k].zs pA pc picks (DrAt.drew hdr) h2.drew h3 (fun _ => hpZ) hS.pks (by omega)
      go_wp2
      go_region_law (first | (go_simp; go_at_call 47; (with_reducible refine hci.mono ?_); rintro e w3 ⟨rfl, hd3, hc3⟩))
      all_goals
        go_wp2
        go_roundg (ds.length - (k + 1))
        case measure => omega
        case rel =>
          have hSd : Sys wr.drew B P true 0 picks writes (cutDs picks ds k) (some ad) vc := hS.below ((Below.refl _ _).drew)
          refine ⟨k + 1, rfl, by go_num, by omega, hSd.cutK hkl hd3 hc3, (hc.drew).trans (hc3.mono fun j _ e => .inr ⟨ds[k], List.getElem_mem hkl, e⟩)⟩
    · obtain rfl : k = ds.length := by omega
      go_wp2
      go_ret
      exact ⟨rfl, hS, hc⟩
end
end Go.Proofs.Ytppfjdohajomoaa
