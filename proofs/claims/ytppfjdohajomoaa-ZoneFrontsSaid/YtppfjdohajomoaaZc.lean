/- Drives: the memory of a drive; its small functions. -/
import Derived.Test.YtppfjdohajomoaaZb
namespace Go.Proofs.Ytppfjdohajomoaa
open Go.RowKit
set_option maxHeartbeats 2000000
set_option maxRecDepth 100000

theorem zcells_length (zs : List ZS) : (zcells zs).length = zs.length * 2 := by
  induction zs with
  | nil => rfl
  | cons z zs ih => simp only [zcells, List.flatMap_cons, List.length_append, List.length_cons, ZS.cells, List.length_nil] at ih ⊢; omega
theorem zcells_get : ∀ (zs : List ZS) (i : Nat) (h : i < zs.length), (zcells zs)[i * 2]? = some (.slice zs[i].A zs[i].pg.length zs[i].c) ∧ (zcells zs)[i * 2 + 1]? = some (.int .i64 (zs[i].fl : Nat))
  | [], i, h => by simp at h
  | z :: zs, 0, _ => by simp [zcells, ZS.cells]
  | z :: zs, i + 1, h => by
    have ih := zcells_get zs i (by simpa using h)
    have e : zcells (z :: zs) = .slice z.A z.pg.length z.c :: .int .i64 (z.fl : Nat) :: zcells zs := by simp [zcells, ZS.cells]
    rw [e, show (i + 1) * 2 = i * 2 + 1 + 1 by omega, List.getElem?_cons_succ, List.getElem?_cons_succ, List.getElem?_cons_succ, List.getElem?_cons_succ]
    exact ih
theorem zcells_set (zs : List ZS) (i : Nat) (h : i < zs.length) (z : ZS) : zcells (zs.set i z) = ((zcells zs).set (i * 2) (.slice z.A z.pg.length z.c)).set (i * 2 + 1) (.int .i64 (z.fl : Nat)) := by
  induction zs generalizing i with
  | nil => simp at h
  | cons y zs ih =>
    have e : ∀ (y : ZS) l, zcells (y :: l) = .slice y.A y.pg.length y.c :: .int .i64 (y.fl : Nat) :: zcells l := fun y l => by simp [zcells, ZS.cells]
    cases i with
    | zero => simp [e]
    | succ i =>
      rw [List.set_cons_succ, e, e, ih i (by simpa using h), show (i + 1) * 2 = i * 2 + 1 + 1 by omega]
      simp

/-- a power in memory; what hangs on it is not looked at -/
structure PwAt (w : World) (P : Nat) (off : Bool) (armed : Nat) (picks : Value) (writes : Nat) (devs : Value) : Prop where
  blk : Blk w P 144 #[.bool off, .int .i64 (armed : Nat), picks, .int .i64 (writes : Nat), devs]
/-- a drive in memory -/
structure DrAt (w : World) (B D Z P pages size : Nat) (lost : Bool) (zs : List ZS) : Prop where
  drv : Blk w D 147 #[.pointer (some ⟨P, 0, none⟩), .slice (some ⟨Z, 0, none⟩) zs.length zs.length, .int .i64 (pages : Nat), .int .i64 (size : Nat), .bool lost]
  zon : Blk w Z 154 (zcells zs).toArray
  low : B ≤ D ∧ B ≤ Z
  most : pages ≤ 4096 ∧ zs.length ≤ 4096
  rows : ∀ i (h : i < zs.length), ZRow w B pages zs[i]
  apart : ∀ i j (hi : i < zs.length) (hj : j < zs.length), i ≠ j → ∀ a b, zs[i].A = some a → zs[j].A = some b → a.block ≠ b.block

/-- the blocks of a drive -/
def drS (D Z : Nat) (zs : List ZS) (k : Nat) : Prop := k = D ∨ k = Z ∨ ∃ z ∈ zs, ∃ ad, z.A = some ad ∧ k = ad.block

section
variable {w w1 : World} {B D Z P pages size : Nat} {lost : Bool} {zs : List ZS} {S : Nat → Prop}
theorem DrAt.keep (h : DrAt w B D Z P pages size lost zs) (hc : Chg S w w1) (hS : ∀ k, S k → ¬ Has w k 5) (hD : ∀ k, drS D Z zs k → ¬ S k) : DrAt w1 B D Z P pages size lost zs :=
  ⟨h.drv.keep hc (hD D (.inl rfl)), h.zon.keep hc (hD Z (.inr (.inl rfl))), h.low, h.most, fun i hi => (h.rows i hi).keep hc (fun ad e => hD _ (.inr (.inr ⟨zs[i], List.getElem_mem hi, ad, e, rfl⟩))) hS, h.apart⟩
theorem DrAt.below (h : DrAt w B D Z P pages size lost zs) (hb : Below w.heap.size w w1) : DrAt w1 B D Z P pages size lost zs := h.keep (S := fun _ => False) (.of_below hb) (fun _ h => h.elim) (fun _ _ h => h)
theorem DrAt.c0 (h : DrAt w B D Z P pages size lost zs) : w.cell? ⟨D, 0, none⟩ = some (.pointer (some ⟨P, 0, none⟩)) := h.drv.cell 0
theorem DrAt.c1 (h : DrAt w B D Z P pages size lost zs) : w.cell? ⟨D, 1, none⟩ = some (.slice (some ⟨Z, 0, none⟩) zs.length zs.length) := h.drv.cell 1
theorem DrAt.c2 (h : DrAt w B D Z P pages size lost zs) : w.cell? ⟨D, 2, none⟩ = some (.int .i64 (pages : Nat)) := h.drv.cell 2
theorem DrAt.c3 (h : DrAt w B D Z P pages size lost zs) : w.cell? ⟨D, 3, none⟩ = some (.int .i64 (size : Nat)) := h.drv.cell 3
theorem DrAt.c4 (h : DrAt w B D Z P pages size lost zs) : w.cell? ⟨D, 4, none⟩ = some (.bool lost) := h.drv.cell 4
theorem DrAt.z0 (h : DrAt w B D Z P pages size lost zs) (i : Nat) (hi : i < zs.length) : w.cell? ⟨Z, i * 2, none⟩ = some (.slice zs[i].A zs[i].pg.length zs[i].c) := by
  rw [h.zon.cell, List.getElem?_toArray, (zcells_get zs i hi).1]
theorem DrAt.z1 (h : DrAt w B D Z P pages size lost zs) (i : Nat) (hi : i < zs.length) : w.cell? ⟨Z, i * 2 + 1, none⟩ = some (.int .i64 (zs[i].fl : Nat)) := by
  rw [h.zon.cell, List.getElem?_toArray, (zcells_get zs i hi).2]
end

theorem ZRow.below {w w1 : World} {B m : Nat} {z : ZS} (h : ZRow w B m z) (hb : Below w.heap.size w w1) : ZRow w1 B m z := h.keep (S := fun _ => False) (.of_below hb) (fun _ _ h => h) (fun _ h => h.elim)
theorem ZRow.drew {w : World} {B m : Nat} {z : ZS} (h : ZRow w B m z) : ZRow w.drew B m z := h.keep (S := fun _ => False) (Chg.drew (Chg.refl _ _)) (fun _ _ h => h) (fun _ h => h.elim)
theorem DrAt.drew {w : World} {B D Z P pages size : Nat} {lost : Bool} {zs : List ZS} (h : DrAt w B D Z P pages size lost zs) : DrAt w.drew B D Z P pages size lost zs := h.keep (S := fun _ => False) (Chg.drew (Chg.refl _ _)) (fun _ h => h.elim) (fun _ _ h => h)
theorem Has.not8 {w : World} {k : Nat} {t : TypeId} (h : Has w k t) (ht : t ≠ 5) : ¬ Has w k 5 := fun h' => (h.ne h' ht) rfl
/-- a turn of the power alone leaves a drive -/
theorem DrAt.keepP {w w1 : World} {B D Z P pages size : Nat} {lost : Bool} {zs : List ZS} (h : DrAt w B D Z P pages size lost zs) {Q : Nat} (hQ : Has w Q 144) (hc : Chg (fun k => k = Q) w w1) : DrAt w1 B D Z P pages size lost zs := by
  refine h.keep hc (fun k e => by rw [e]; exact hQ.not8 (by decide)) fun k hk e => ?_
  subst e
  rcases hk with rfl | rfl | ⟨z, hz, ad, hA, rfl⟩
  · exact (h.drv.has.ne hQ (by decide)) rfl
  · exact (h.zon.has.ne hQ (by decide)) rfl
  · obtain ⟨i, hi, rfl⟩ := List.getElem_of_mem hz
    exact (((h.rows i hi).has ad hA).2.ne hQ (by decide)) rfl
theorem zcells_set1 (zs : List ZS) (n : Nat) (hn : n < zs.length) (A' : Option Addr) (c' : Nat) (pg' : List Sb) : zcells (zs.set n ⟨A', c', pg', zs[n].fl⟩) = (zcells zs).set (n * 2) (.slice A' pg'.length c') := by
  rw [zcells_set zs n hn]
  have h := (zcells_get zs n hn).2
  apply List.ext_getElem?
  intro i
  by_cases e : i = n * 2 + 1
  · subst e
    have hl : n * 2 + 1 < (zcells zs).length := (List.getElem?_eq_some_iff.1 h).1
    rw [List.getElem?_set_self (by simpa using hl), List.getElem?_set_ne (by omega), h]
  · rw [List.getElem?_set_ne (by omega)]

/-- a page has been appended to zone n -/
theorem DrAt.appended {w w' : World} {B D Z P pages size n : Nat} {lost : Bool} {zs : List ZS} (h : DrAt w B D Z P pages size lost zs) (hn : n < zs.length) (hfull : zs[n].pg.length < pages) (A' : Option Addr) (c' : Nat) (s : Sb)
    (ho : w'.ownsRow B 38 1 (.slice A' (zs[n].pg.length + 1) c') (zs[n].pg.length + 1) (zs[n].pg.map Sb.val ++ [s.val])) (hc : Chg (fun k => ∃ ad, zs[n].A = some ad ∧ k = ad.block) w w')
    (hA : ∀ ad, A' = some ad → (∃ ad0, zs[n].A = some ad0 ∧ ad.block = ad0.block) ∨ w.heap.size ≤ ad.block) (hs : PgOk w' s) :
    DrAt (w'.setCell ⟨Z, n * 2, none⟩ (.slice A' (zs[n].pg.length + 1) c')) B D Z P pages size lost (zs.set n ⟨A', c', zs[n].pg ++ [s], zs[n].fl⟩) := by
  have hS8 : ∀ k, (∃ ad, zs[n].A = some ad ∧ k = ad.block) → ¬ Has w k 5 := by
    rintro k ⟨ad, e, rfl⟩
    exact ((h.rows n hn).has ad e).2.not8 (by decide)
  have hD : ¬ ∃ ad, zs[n].A = some ad ∧ D = ad.block := by
    rintro ⟨ad, e, rfl⟩
    exact (h.drv.has.ne ((h.rows n hn).has ad e).2 (by decide)) rfl
  have hZ : ¬ ∃ ad, zs[n].A = some ad ∧ Z = ad.block := by
    rintro ⟨ad, e, rfl⟩
    exact (h.zon.has.ne ((h.rows n hn).has ad e).2 (by decide)) rfl
  have d1 := h.drv.keep hc hD
  have z1 := h.zon.keep hc hZ
  have hZD : D ≠ Z := d1.has.ne z1.has (by decide)
  have hcz : Chg (fun k => k = Z) w' (w'.setCell ⟨Z, n * 2, none⟩ (.slice A' (zs[n].pg.length + 1) c')) := Chg.set (S := fun k => k = Z) (Chg.refl _ _) rfl _ _
  have hZ8 : ∀ k, k = Z → ¬ Has w' k 5 := fun k e => by rw [e]; exact z1.has.not8 (by decide)
  have hAh : ∀ ad, A' = some ad → B ≤ ad.block ∧ Has w' ad.block 38 := by
    intro ad e
    rcases ho.2 with ⟨h0, _⟩ | ⟨g, cap, cur, h0, hg1, hg2, _⟩
    · injection h0 with _ h0 _; omega
    · injection h0 with h0 _ _
      rw [e] at h0
      injection h0 with h0
      subst h0
      exact ⟨hg1, _, _, hg2⟩
  have hAZ : ∀ ad, A' = some ad → ¬ ad.block = Z := fun ad e e' => ((hAh ad e).2.ne z1.has (by decide)) e'
  refine ⟨?_, ?_, h.low, ⟨h.most.1, by simpa using h.most.2⟩, fun i hi => ?_, fun i j hi hj hij a b ha hb => ?_⟩
  · simp only [List.length_set]
    exact d1.keep hcz hZD
  · rw [zcells_set1 zs n hn]
    have := z1.set (n * 2) (.slice A' (zs[n].pg.length + 1) c')
    simpa using this
  · have hi' : i < zs.length := by simpa using hi
    by_cases e : i = n
    · subst e
      rw [List.getElem_set_self]
      refine ZRow.keep (S := fun k => k = Z) (w := w') ⟨.inl ?_, hAh, fun x hx => ?_, by simp; omega, by have := (h.rows i hi').fl; simp; omega⟩ hcz hAZ hZ8
      · simpa using ho
      · rcases List.mem_append.1 hx with hx | hx
        · exact ((h.rows i hi').pages x hx).keep hc hS8
        · rw [List.mem_singleton.1 hx]; exact hs
    · rw [List.getElem_set_ne (by omega)]
      refine ((h.rows i hi').keep hc (fun ad hA1 => ?_) hS8).keep hcz (fun ad hA1 e' => ?_) hZ8
      · rintro ⟨ad2, h2, h3⟩
        exact h.apart i n hi' hn e ad ad2 hA1 h2 h3
      · refine (((h.rows i hi').has ad hA1).2.keep hc ?_).ne z1.has (by decide) e'
        rintro ⟨ad2, h2, h3⟩
        exact h.apart i n hi' hn e ad ad2 hA1 h2 h3
  · have hi' : i < zs.length := by simpa using hi
    have hj' : j < zs.length := by simpa using hj
    have key : ∀ i (hi : i < zs.length), i ≠ n → ∀ a b, zs[i].A = some a → A' = some b → a.block ≠ b.block := by
      intro i hi hin a b ha hb
      rcases hA b hb with ⟨ad0, h0, h1⟩ | h1
      · rw [h1]; exact h.apart i n hi hn hin a ad0 ha h0
      · have := ((h.rows i hi).has a ha).2.lt
        omega
    by_cases ei : i = n
    · subst ei
      rw [List.getElem_set_self] at ha
      rw [List.getElem_set_ne (by omega)] at hb
      exact fun e => key j hj' (by omega) b a hb ha e.symm
    · rw [List.getElem_set_ne (by omega)] at ha
      by_cases ej : j = n
      · subst ej
        rw [List.getElem_set_self] at hb
        exact key i hi' ei a b ha hb
      · rw [List.getElem_set_ne (by omega)] at hb
        exact h.apart i j hi' hj' hij a b ha hb

theorem newPower_any (w : World) : Calls Try.prog 39 #[] w fun e w' => e = .returned (.pointer (some ⟨w.heap.size, 0, none⟩)) ∧ PwAt w' w.heap.size false 0 (.slice none 0 0) 0 (.slice none 0 0) ∧ Below w.heap.size w w' := by
  go_enter Try.func39, Try.ntmps39
  go_wp2
  go_ret
  exact ⟨rfl, ⟨Blk.new w 144 _⟩, (Below.refl _ _).alloc (Nat.le_refl _) _⟩

theorem off_any (w : World) (P : Nat) (off : Bool) (armed writes : Nat) (picks devs : Value) (h : PwAt w P off armed picks writes devs) :
    Calls Try.prog 43 #[.pointer (some ⟨P, 0, none⟩)] w fun e w' => e = .returned (.bool off) ∧ w = w' := by
  have c0 : w.cell? ⟨P, 0, none⟩ = some (.bool off) := h.blk.cell 0
  go_enter Try.func43, Try.ntmps43
  go_wp2
  go_ret
  exact ⟨rfl, rfl⟩
theorem writes_any (w : World) (P : Nat) (off : Bool) (armed writes : Nat) (picks devs : Value) (h : PwAt w P off armed picks writes devs) :
    Calls Try.prog 45 #[.pointer (some ⟨P, 0, none⟩)] w fun e w' => e = .returned (.int .i64 (writes : Nat)) ∧ w = w' := by
  have c3 : w.cell? ⟨P, 3, none⟩ = some (.int .i64 (writes : Nat)) := h.blk.cell 3
  go_enter Try.func45, Try.ntmps45
  go_wp2
  go_ret
  exact ⟨rfl, rfl⟩
theorem on_any (w : World) (P : Nat) (off : Bool) (armed writes : Nat) (picks devs : Value) (h : PwAt w P off armed picks writes devs) :
    Calls Try.prog 44 #[.pointer (some ⟨P, 0, none⟩)] w fun e w' => e = .returned (.tuple #[]) ∧ PwAt w' P false armed picks writes devs ∧ Chg (fun k => k = P) w w' := by
  have c0 : w.cell? ⟨P, 0, none⟩ = some (.bool off) := h.blk.cell 0
  have f0 : w.frozen? ⟨P, 0, none⟩ = false := h.blk.frozen 0
  go_enter Try.func44, Try.ntmps44
  go_wp2
  go_end0
  exact ⟨rfl, ⟨by simpa using h.blk.set 0 (.bool false)⟩, Chg.set (S := fun k => k = P) (Chg.refl _ _) rfl 0 _⟩

/-- why nothing can be done -/
def readyE (off lost : Bool) : Nat := if off then 8 else if lost then 7 else 0
theorem ready_any (w : World) (B D Z P pages size : Nat) (lost : Bool) (zs : List ZS) (off : Bool) (armed writes : Nat) (picks devs : Value) (h : DrAt w B D Z P pages size lost zs) (hp : PwAt w P off armed picks writes devs) :
    Calls Try.prog 82 #[.pointer (some ⟨D, 0, none⟩)] w fun e w' => e = .returned (.int .i64 (readyE off lost : Nat)) ∧ w = w' := by
  have c0 := h.c0
  have c4 := h.c4
  have ho := fun W => off_any W P off armed writes picks devs
  cases off <;> cases lost
  all_goals
    go_enter Try.func82, Try.ntmps82
    go_wp2_with (go_at_call 43; refine (ho _ hp).mono ?_; rintro e w1 ⟨rfl, rfl⟩)
    go_ret
    exact ⟨rfl, rfl⟩

/-- why a zone can't be told -/
def zoneE (off lost : Bool) (n : Int) (k : Nat) : Nat := if readyE off lost ≠ 0 then readyE off lost else if n < 0 ∨ (k : Int) ≤ n then 1 else 0
def ZonePost (w : World) (Z : Nat) (n : Int) (E : Nat) (e : Ending) (w' : World) : Prop :=
  (E ≠ 0 → e = .returned (.tuple #[.pointer none, .int .i64 (E : Nat)])) ∧ (E = 0 → e = .returned (.tuple #[.pointer (some ⟨Z, n.toNat * 2, none⟩), .int .i64 0])) ∧ w = w'
theorem zone_any (w : World) (B D Z P pages size : Nat) (lost : Bool) (zs : List ZS) (off : Bool) (armed writes : Nat) (picks devs : Value) (n : Int) (h : DrAt w B D Z P pages size lost zs) (hp : PwAt w P off armed picks writes devs) :
    Calls Try.prog 79 #[.pointer (some ⟨D, 0, none⟩), .int .i64 n] w (ZonePost w Z n (zoneE off lost n zs.length)) := by
  have c1 := h.c1
  have hr := fun W hW hW2 => ready_any W B D Z P pages size lost zs off armed writes picks devs hW hW2
  unfold zoneE
  generalize hre : readyE off lost = R at *
  clear hre
  by_cases hR : R = 0
  · subst hR
    rw [if_neg (by simp)]
    by_cases hn : n < 0
    · rw [if_pos (.inl hn)]
      go_enter Try.func79, Try.ntmps79
      go_wp2_with (go_at_call 82; refine (hr _ h hp).mono ?_; rintro e w1 ⟨rfl, rfl⟩)
      go_ret2
      exact ⟨fun _ => rfl, (fun h => by simp at h), rfl⟩
    · obtain ⟨m, rfl⟩ : ∃ m : Nat, n = (m : Int) := ⟨n.toNat, by omega⟩
      by_cases hk : zs.length ≤ m
      · rw [if_pos (.inr (by omega))]
        have k1 : decide (zs.length ≤ m) = true := by simpa using hk
        clear hk
        go_enter Try.func79, Try.ntmps79
        go_wp2_with (go_at_call 82; refine (hr _ h hp).mono ?_; rintro e w1 ⟨rfl, rfl⟩)
        go_ret2
        exact ⟨fun _ => rfl, (fun h => by simp at h), rfl⟩
      · rw [if_neg (by omega)]
        have k1 : decide (zs.length ≤ m) = false := by simpa using hk
        have k2 : (m : Int) < (zs.length : Int) := by omega
        clear hk
        go_enter Try.func79, Try.ntmps79
        go_wp2_with (go_at_call 82; refine (hr _ h hp).mono ?_; rintro e w1 ⟨rfl, rfl⟩)
        go_ret2
        exact ⟨fun h => absurd rfl h, fun _ => rfl, rfl⟩
  · rw [if_pos hR]
    have k1 : ((R : Int) != 0) = true := by simp; omega
    have HR := Lib.hid hR
    clear hR
    go_enter Try.func79, Try.ntmps79
    go_wp2_with (go_at_call 82; refine (hr _ h hp).mono ?_; rintro e w1 ⟨rfl, rfl⟩)
    go_ret2
    exact ⟨fun _ => rfl, fun h => absurd h HR.out, rfl⟩
end Go.Proofs.Ytppfjdohajomoaa
