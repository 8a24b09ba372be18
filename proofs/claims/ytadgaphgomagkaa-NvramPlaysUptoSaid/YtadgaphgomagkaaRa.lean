/- The log's device with its power's picks: what a write that cuts does; what is refused. -/
import Derived.Test.YtadgaphgomagkaaVm
namespace Go.Proofs.Ytadgaphgomagkaa
open Go.RowKit
set_option maxHeartbeats 2000000
set_option maxRecDepth 100000

/-- a power with its one device -/
structure PwD (w : World) (B P D : Nat) (off : Bool) (armed : Nat) (picks : List Int) (m : Nat) : Prop where
  at_ : ∃ pA pc dA dc, PwAt w P off armed (.slice pA picks.length pc) m (.slice dA 1 dc) ∧ Rd w pA (ints picks) ∧ picks.length ≤ pc ∧ (∀ ad, pA = some ad → Has w ad.block 3) ∧ Rd w dA [devV D] ∧ (∀ ad, dA = some ad → Has w ad.block 146)
  low : B ≤ P
  few : picks.length ≤ 2000000
  rng : ∀ x ∈ picks, x ≤ 9223372036854775807
section
variable {w w1 : World} {B D P G m : Nat} {off : Bool} {armed : Nat} {picks : List Int} {kept : List UInt8} {L : List (Nat × UInt8)} {S : Nat → Prop}
theorem PwD.keep (h : PwD w B P D off armed picks m) (hc : Chg S w w1) (hS : ∀ k t, Has w k t → (t = 98 ∨ t = 3 ∨ t = 146) → ¬ S k) : PwD w1 B P D off armed picks m := by
  obtain ⟨pA, pc, dA, dc, h1, h2, h3, h4, h5, h6⟩ := h.at_
  exact ⟨⟨pA, pc, dA, dc, ⟨h1.blk.keep hc (hS _ _ h1.blk.has (.inl rfl))⟩, h2.keepC hc fun ad e => hS _ _ (h4 ad e) (.inr (.inl rfl)), h3, fun ad e => (h4 ad e).keep hc (hS _ _ (h4 ad e) (.inr (.inl rfl))), h5.keepC hc fun ad e => hS _ _ (h6 ad e) (.inr (.inr rfl)), fun ad e => (h6 ad e).keep hc (hS _ _ (h6 ad e) (.inr (.inr rfl)))⟩, h.low, h.few, h.rng⟩
theorem PwD.below (h : PwD w B P D off armed picks m) (hb : Below w.heap.size w w1) : PwD w1 B P D off armed picks m := h.keep (S := fun _ => False) (.of_below hb) (fun _ _ _ _ h => h)
theorem PwD.keepR (h : PwD w B P D off armed picks m) (hc : ChgR B w w1) : PwD w1 B P D off armed picks m := h.keep hc fun k t ht hT => SR.not ht (by
  rintro (e | e) <;> (subst e; rcases hT with e | e | e <;> exact absurd e (by decide)))
/-- the device's acts leave what the power holds -/
theorem PwD.afterN {off1 : Bool} {armed1 m1 : Nat} {pv dv : Value} (hat : PwAt w P off armed pv m dv) (h : PwD w B P D off armed picks m) (hG : Has w G 5) (hc : ChgN B G w w1) (hp : PwAt w1 P off1 armed1 pv m1 dv) : PwD w1 B P D off1 armed1 picks m1 := by
  obtain ⟨pA, pc, dA, dc, h1, h2, h3, h4, h5, h6⟩ := h.at_
  have e2 := (h1.blk.cell 2).symm.trans (hat.blk.cell 2)
  have e4 := (h1.blk.cell 4).symm.trans (hat.blk.cell 4)
  simp at e2 e4
  subst e2 e4
  have hi : ¬ TN 3 := by rintro (e | e | e) <;> exact absurd e (by decide)
  have hd : ¬ TN 146 := by rintro (e | e | e) <;> exact absurd e (by decide)
  have n1 := fun ad (e : pA = some ad) => SN.not (B := B) (G := G) (h4 ad e) hi ((h4 ad e).ne hG (by decide))
  have n2 := fun ad (e : dA = some ad) => SN.not (B := B) (G := G) (h6 ad e) hd ((h6 ad e).ne hG (by decide))
  exact ⟨⟨pA, pc, dA, dc, hp, h2.keepC hc n1, h3, fun ad e => (h4 ad e).keep hc (n1 ad e), h5.keepC hc n2, fun ad e => (h6 ad e).keep hc (n2 ad e)⟩, h.low, h.few, h.rng⟩
end

def NvP (w : World) (B D P G : Nat) (kept : List UInt8) (L : List (Nat × UInt8)) (off : Bool) (armed : Nat) (picks : List Int) (m : Nat) : Prop :=
  ∃ us uA uc, NvAt w B D P G (app kept L) us uA uc ∧ Link kept L us ∧ PwD w B P D off armed picks m ∧ B ≤ w.heap.size ∧ kept.length ≤ 67108864
section
variable {w w1 : World} {B D P G m : Nat} {off : Bool} {armed : Nat} {picks : List Int} {kept : List UInt8} {L : List (Nat × UInt8)}
theorem NvP.below (h : NvP w B D P G kept L off armed picks m) (hb : Below w.heap.size w w1) : NvP w1 B D P G kept L off armed picks m := by
  obtain ⟨us, uA, uc, h1, h2, h3, h4, h5⟩ := h
  exact ⟨us, uA, uc, h1.below hb, h2, h3.below hb, Nat.le_trans h4 hb.size, h5⟩
theorem NvP.keepR (h : NvP w B D P G kept L off armed picks m) (hc : ChgR B w w1) : NvP w1 B D P G kept L off armed picks m := by
  obtain ⟨us, uA, uc, h1, h2, h3, h4, h5⟩ := h
  exact ⟨us, uA, uc, h1.keepR hc, h2, h3.keepR hc, Nat.le_trans h4 hc.size, h5⟩
theorem NvP.lt (h : NvP w B D P G kept L off armed picks m) : ∀ p ∈ L, p.1 < kept.length := by
  obtain ⟨us, uA, uc, h1, h2, _⟩ := h
  exact h2.lt
theorem NvP.base (h : NvP w B D P G kept L off armed picks m) : B ≤ w.heap.size := by
  obtain ⟨us, uA, uc, h1, h2, h3, h4, _⟩ := h
  exact h4
theorem NvP.hasG (h : NvP w B D P G kept L off armed picks m) : Has w G 5 := by
  obtain ⟨us, uA, uc, h1, _⟩ := h
  exact h1.bys.has
theorem link_nil (k : List UInt8) : Link k [] [] := ⟨rfl, by simp, fun k h => by simp at h, fun k h => by simp at h⟩

theorem nilAhead_nv (D : Nat) (W : World) : (nilAhead 285 25 (.pointer (some ⟨D, 0, none⟩)) "Cut").run Try.prog W = .ok (some false) W := by kernel_rfl
theorem method_nv (D : Nat) (W : World) : (method 285 25 (.pointer (some ⟨D, 0, none⟩)) "Cut").run Try.prog W = .ok (24, .pointer (some ⟨D, 0, none⟩)) W := by kernel_rfl

theorem p_cut (h : NvP w B D P G kept L off armed picks m) (hL : L.length ≤ 2000000) (A : Option Addr) (c : Nat) (p : List Int) (hp : Rd w A (ints p)) (hpx : ∀ x ∈ p, x ≤ 9223372036854775807) :
    Calls Try.prog 24 #[.pointer (some ⟨D, 0, none⟩), .slice A p.length c] w fun e w' => e = .returned (.tuple #[]) ∧ NvP w' B D P G (app kept (L.take (keptW p L.length))) [] off armed picks m ∧ ChgN B G w w' := by
  obtain ⟨us, uA, uc, h1, h2, h3, h4, h5⟩ := h
  refine (cut_any w B D P G kept L us uA uc h1 h2 h5 hL A c p hp hpx).mono ?_
  rintro e w' ⟨rfl, k1, k2⟩
  have hN : ChgN B G w w' := ChgN.of k2 fun k _ hk => by
    rcases hk with rfl | rfl
    · exact ⟨h1.low.2, .inl rfl⟩
    · exact ⟨h1.low.1, .inr ⟨_, .inr (.inl rfl), h1.dev.has⟩⟩
  have hP : PwD w' B P D off armed picks m := h3.keep k2 fun k t ht hT hh => by
    rcases hh with rfl | rfl
    · rcases hT with rfl | rfl | rfl <;> exact (ht.ne h1.bys.has (by decide)) rfl
    · rcases hT with rfl | rfl | rfl <;> exact (ht.ne h1.dev.has (by decide)) rfl
  exact ⟨rfl, ⟨[], none, 0, k1, link_nil _, hP, Nat.le_trans h4 k2.size, by rw [app_length]; exact h5⟩, hN⟩

theorem p_down (h : NvP w B D P G kept L false 1 picks m) (hL : L.length ≤ 2000000) :
    Calls Try.prog 53 #[.pointer (some ⟨P, 0, none⟩)] w fun e w' => e = .returned (.bool false) ∧ NvP w' B D P G (app kept (L.take (keptW picks L.length))) [] true 0 picks m ∧ ChgN B G w w' := by
  obtain ⟨us, uA, uc, h1, h2, h3, h4, h5⟩ := h
  obtain ⟨pA, pc, dA, dc, hp1, hp2, hp3, hp4, hp5, hp6⟩ := h3.at_
  have c0 : w.cell? ⟨P, 0, none⟩ = some (.bool false) := hp1.blk.cell 0
  have c1 : w.cell? ⟨P, 1, none⟩ = some (.int .i64 (1 : Nat)) := hp1.blk.cell 1
  have c4 : w.cell? ⟨P, 4, none⟩ = some (.slice dA 1 dc) := hp1.blk.cell 4
  have f0 : w.frozen? ⟨P, 0, none⟩ = false := hp1.blk.frozen 0
  have f1 : w.frozen? ⟨P, 1, none⟩ = false := hp1.blk.frozen 1
  have hcP : Chg (fun k => k = P) w ((w.setCell ⟨P, 0, none⟩ (.bool true)).setCell ⟨P, 1, none⟩ (.int .i64 0)) := Chg.set (S := fun k => k = P) (Chg.set (S := fun k => k = P) (Chg.refl _ _) rfl _ _) rfl _ _
  have hPn : ChgN B G w ((w.setCell ⟨P, 0, none⟩ (.bool true)).setCell ⟨P, 1, none⟩ (.int .i64 0)) := ChgN.of hcP fun k _ hk => by rw [show k = P from hk]; exact ⟨h3.low, .inr ⟨_, .inl rfl, hp1.blk.has⟩⟩
  have hp' : PwAt ((w.setCell ⟨P, 0, none⟩ (.bool true)).setCell ⟨P, 1, none⟩ (.int .i64 0)) P true 0 (.slice pA picks.length pc) m (.slice dA 1 dc) := ⟨by simpa using (hp1.blk.set 0 (.bool true)).set 1 (.int .i64 0)⟩
  have hN0 : NvP ((w.setCell ⟨P, 0, none⟩ (.bool true)).setCell ⟨P, 1, none⟩ (.int .i64 0)) B D P G kept L true 0 picks m := ⟨us, uA, uc, h1.keepP hp1.blk.has hcP, h2, h3.afterN hp1 h1.bys.has hPn hp', Nat.le_trans h4 hcP.size, h5⟩
  clear h1 h2 h3 hp1 hp2 hp3 hp4 hp5 hp6 hcP h4 h5
  go_enter Try.func53, Try.ntmps53
  go_wp2
  go_loopg [25] 1 (fun g s25 wr => ∃ (k : Nat), g = 1 - k ∧ s25 = .int .i64 (k : Nat) ∧ k ≤ 1 ∧ (if k = 0 then NvP wr B D P G kept L true 0 picks m else NvP wr B D P G (app kept (L.take (keptW picks L.length))) [] true 0 picks m) ∧ (k = 0 → PwAt wr P true 0 (.slice pA picks.length pc) m (.slice dA 1 dc)) ∧ ChgN B G w wr)
  case atStart => exact ⟨0, rfl, rfl, by omega, by rw [if_pos rfl]; exact hN0, fun _ => hp', hPn⟩
  case round =>
    clear hN0 hPn c0 c1 c4 f0 f1 hp'
    obtain ⟨k, rfl, rfl, hk, hS, hpw, hc⟩ := hrel
    by_cases hkl : k = 0
    · subst hkl
      rw [if_pos rfl] at hS
      have hpw := hpw rfl
      have hS' := hS
      obtain ⟨us, uA, uc, h1, h2, h3, h4, h5⟩ := hS'
      obtain ⟨pA', pc', dA', dc', hp1, hp2, hp3, hp4, hp5, hp6⟩ := h3.at_
      have e2 := (hp1.blk.cell 2).symm.trans (hpw.blk.cell 2)
      have e4 := (hp1.blk.cell 4).symm.trans (hpw.blk.cell 4)
      simp only [List.getElem?_toArray, List.getElem?_cons_succ, List.getElem?_cons_zero, Option.some.injEq, Value.slice.injEq] at e2 e4
      obtain ⟨rfl, _, rfl⟩ := e2
      obtain ⟨rfl, _, rfl⟩ := e4
      obtain ⟨ad, rfl, hb, hcell⟩ := hp5.at_ (k := 0) (by simp)
      have hdv : wr.cell? ad = some (.iface 25 (.pointer (some ⟨D, 0, none⟩))) := hcell
      clear hcell
      have c2 : wr.cell? ⟨P, 2, none⟩ = some (.slice pA' picks.length pc') := hp1.blk.cell 2
      have hnc := nilAhead_nv D
      have hme := method_nv D
      have hci := p_cut (hS.below (Below.refl _ _).drew) hL pA' pc' picks hp2.drew h3.rng
      clear h1 h2 h3 hp1 hp2 hp3 hp4 hp5 hp6 h4 h5 hpw
      go_wp2
      go_region_law (first | (go_simp; go_at_call 24; (with_reducible refine hci.mono ?_); rintro e w3 ⟨rfl, hd3, hc3⟩))
      all_goals
        go_wp2
        go_roundg 0
        case measure => omega
        case rel =>
          have hcd : ChgN B G w wr.drew := hc.below (Below.refl _ _).drew
          exact ⟨1, rfl, rfl, by omega, by rw [if_neg (by omega)]; exact hd3, fun h => by omega, hcd.trans hc3⟩
    · obtain rfl : k = 1 := by omega
      rw [if_neg (by omega)] at hS
      go_wp2
      go_ret
      exact ⟨rfl, hS, hc⟩
end
end Go.Proofs.Ytadgaphgomagkaa
