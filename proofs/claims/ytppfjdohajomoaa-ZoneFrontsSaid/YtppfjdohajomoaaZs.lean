/- The power's law over values. -/
import Derived.Test.YtppfjdohajomoaaZq
namespace Go.Proofs.Ytppfjdohajomoaa
open Go.RowKit
set_option maxHeartbeats 1000000
set_option maxRecDepth 100000

def PD (i : Nat) (d : DV) : Prop := d.pages = 300 ∧ d.size = 32 ∧ d.lost = false ∧ ∃ pg, d.zs = [(pg, 0)] ∧ pg.length ≤ i
structure PSt (s : St) (m i : Nat) (Ds : List Nat) : Prop where
  pk : s.picks = []
  dl : s.ds.map DV.D = Ds
  d : ∀ d ∈ s.ds, PD i d
  st : (i < m ∧ s.off = false ∧ s.armed = m - i ∧ s.writes = i) ∨ (m ≤ i ∧ s.off = true ∧ s.armed = 0 ∧ s.writes = m - 1)
theorem PD.mono {i j : Nat} {d : DV} (h : PD i d) (hij : i ≤ j) : PD j d := by
  obtain ⟨h1, h2, h3, pg, h4, h5⟩ := h
  exact ⟨h1, h2, h3, pg, h4, by omega⟩
theorem PD.cut {i : Nat} {d : DV} (h : PD i d) : PD i (d.cut []) := by
  obtain ⟨h1, h2, h3, pg, h4, h5⟩ := h
  by_cases e : pg.length = 0
  · exact ⟨h1, h2, h3, pg, by simp [DV.cut, h4, cutP, e], h5⟩
  · exact ⟨h1, h2, h3, [], by simp [DV.cut, h4, cutP, e, keptN], by simp⟩

theorem appendR_power {s : St} {i : Nat} {k : Nat} {d : DV} (hd : s.ds[k]? = some d) (hp : PD i d) (hi : i < 300) (ho : s.off = false) :
    appendR s k 0 zer = if s.armed = 1 then (8, s.cut) else (0, { s.wrote with ds := s.ds.set k { d with zs := [((d.zs.map Prod.fst).flatten ++ [zer], 0)] } }) := by
  obtain ⟨h1, h2, h3, pg, h4, h5⟩ := hp
  have e : ¬ pg.length = 300 := by omega
  simp [appendR, hd, h1, h2, h3, h4, ho, zoneE, readyE, zer_len, e]

theorem PSt.step {s : St} {m i : Nat} {Ds : List Nat} (h : PSt s m i Ds) (hm : 1 ≤ m) (hi : i < 250) (k : Nat) (hk : k < Ds.length) :
    PSt (appendR s k 0 zer).2 m (i + 1) Ds ∧ ((appendR s k 0 zer).1 = 0 ↔ i + 1 < m) ∧ (appendR s k 0 zer).2.off = decide (m ≤ i + 1) := by
  have hk' : k < s.ds.length := by have := h.dl; rw [← this] at hk; simpa using hk
  have hd : s.ds[k]? = some s.ds[k] := List.getElem?_eq_getElem hk'
  have hp := h.d _ (List.getElem_mem hk')
  have hmap : ∀ f : DV → DV, (∀ d, (f d).D = d.D) → (s.ds.map f).map DV.D = Ds := by
    intro f hf
    rw [← h.dl, List.map_map]
    exact List.map_congr_left fun d _ => hf d
  rcases h.st with ⟨h1, ho, ha, hw⟩ | ⟨h1, ho, ha, hw⟩
  · rw [appendR_power hd hp (by omega) ho]
    by_cases e : s.armed = 1
    · rw [if_pos e]
      refine ⟨⟨h.pk, hmap _ fun _ => rfl, fun d' hd' => ?_, .inr ⟨by omega, rfl, rfl, ?_⟩⟩, ⟨fun h => by simp at h, fun h => by omega⟩, ?_⟩
      · simp only [St.cut, List.mem_map] at hd'
        obtain ⟨d0, hd0, rfl⟩ := hd'
        rw [h.pk]
        exact ((h.d d0 hd0).mono (by omega)).cut
      · show s.writes = m - 1
        omega
      · show true = decide (m ≤ i + 1)
        simp; omega
    · rw [if_neg e]
      refine ⟨⟨h.pk, ?_, fun d' hd' => ?_, .inl ⟨by omega, ho, ?_, ?_⟩⟩, ⟨fun _ => by omega, fun _ => rfl⟩, ?_⟩
      · simp only [List.map_set]
        rw [h.dl]
        have : Ds[k] = s.ds[k].D := by simp [← h.dl]
        rw [← this, List.set_getElem_self]
      · rcases List.mem_or_eq_of_mem_set hd' with h5 | rfl
        · exact (h.d d' h5).mono (by omega)
        · obtain ⟨p1, p2, p3, pg, p4, p5⟩ := hp
          refine ⟨p1, p2, p3, _, rfl, ?_⟩
          simp only [p4, List.map_cons, List.map_nil, List.flatten_cons, List.flatten_nil, List.append_nil, List.length_append, List.length_cons, List.length_nil]
          omega
      · show s.armed - 1 = m - (i + 1)
        omega
      · show s.writes + 1 = i + 1
        omega
      · show s.off = decide (m ≤ i + 1)
        rw [ho]; simp; omega
  · have e : appendR s k 0 zer = (8, s) := by
      simp [appendR, hd, ho, zoneE, readyE]
    rw [e]
    refine ⟨⟨h.pk, h.dl, fun d' hd' => (h.d d' hd').mono (by omega), .inr ⟨by omega, ho, ha, hw⟩⟩, ⟨fun h => by simp at h, fun h => by omega⟩, ?_⟩
    show s.off = _
    rw [ho]; simp; omega

/-- the last write, the power on again -/
theorem PSt.last {s : St} {m i : Nat} {Ds : List Nat} (h : PSt s m i Ds) (hi : i < 250) (k : Nat) (hk : k < Ds.length) :
    (s.off = decide (m ≤ i)) ∧ (i + 1 = m → (appendR { s with off := false } k 0 zer).1 ≠ 0 ∧ (appendR { s with off := false } k 0 zer).2.off = true) ∧
      (i + 1 ≠ m → (appendR { s with off := false } k 0 zer).1 = 0 ∧ (appendR { s with off := false } k 0 zer).2.writes = (if m ≤ i then m - 1 else i) + 1) := by
  have hk' : k < s.ds.length := by have := h.dl; rw [← this] at hk; simpa using hk
  have hd : s.ds[k]? = some s.ds[k] := List.getElem?_eq_getElem hk'
  have hp := h.d _ (List.getElem_mem hk')
  have ha := appendR_power (s := { s with off := false }) hd hp (by omega) rfl
  rw [ha]
  rcases h.st with ⟨h1, ho, ha, hw⟩ | ⟨h1, ho, ha, hw⟩
  · refine ⟨by rw [ho]; simp; omega, fun e => ?_, fun e => ?_⟩
    · rw [if_pos (by show s.armed = 1; omega)]
      exact ⟨by simp, rfl⟩
    · rw [if_neg (by show ¬ s.armed = 1; omega), if_neg (by omega)]
      exact ⟨rfl, by show s.writes + 1 = _; omega⟩
  · refine ⟨by rw [ho]; simp; omega, fun e => by omega, fun e => ?_⟩
    rw [if_neg (by show ¬ s.armed = 1; omega), if_pos h1]
    exact ⟨rfl, by show s.writes + 1 = _; omega⟩
end Go.Proofs.Ytppfjdohajomoaa
