/- Drives on a power, looked at as values: more contracts. -/
import Derived.Test.YtppfjdohajomoaaZo
namespace Go.Proofs.Ytppfjdohajomoaa
open Go.RowKit
set_option maxHeartbeats 4000000
set_option maxRecDepth 100000

section
variable {F : Nat → Prop} {w w1 : World} {B P : Nat} {off : Bool} {armed : Nat} {picks : List Int} {writes : Nat} {ds : List Dr} {vA : Option Addr} {vc : Nat} {s : St}
theorem pw_off (h : Pow w B P s F) : Calls Try.prog 43 #[.pointer (some ⟨P, 0, none⟩)] w fun e w' => e = .returned (.bool s.off) ∧ w = w' := by
  obtain ⟨ds, vA, vc, hs, hv, hB, hok, hF⟩ := h
  obtain ⟨pA, pc, h1, h2, h3, h4⟩ := hs.pw
  exact off_any w P s.off s.armed s.writes _ _ h1
theorem pw_writes (h : Pow w B P s F) : Calls Try.prog 45 #[.pointer (some ⟨P, 0, none⟩)] w fun e w' => e = .returned (.int .i64 (s.writes : Nat)) ∧ w = w' := by
  obtain ⟨ds, vA, vc, hs, hv, hB, hok, hF⟩ := h
  obtain ⟨pA, pc, h1, h2, h3, h4⟩ := hs.pw
  exact writes_any w P s.off s.armed s.writes _ _ h1

/-- a turn of the power alone -/
theorem Sys.turn {off1 : Bool} {armed1 writes1 : Nat} (h : Sys w B P off armed picks writes ds vA vc) {pA : Option Addr} {pc : Nat} (hr : Rd w pA (ints picks)) (hpc : picks.length ≤ pc) (hph : ∀ ad, pA = some ad → Has w ad.block 3)
    (hp1 : PwAt w1 P off1 armed1 (.slice pA picks.length pc) writes1 (.slice vA ds.length vc)) (hc : Chg (fun k => k = P) w w1) : Sys w1 B P off1 armed1 picks writes1 ds vA vc := by
  obtain ⟨_, _, h1, _⟩ := h.pw
  have hPh := h1.blk.has
  have no : ∀ t, t ≠ 144 → ∀ k, Has w k t → ¬ k = P := fun t ht k hh e => ((e ▸ hh : Has w P t).ne hPh ht) rfl
  exact ⟨⟨pA, pc, hp1, hr.keepC hc fun ad e => no _ (by decide) _ (hph ad e), hpc, fun ad e => (hph ad e).keep hc (no _ (by decide) _ (hph ad e))⟩, h.low, h.row.keepC hc fun ad e => no _ (by decide) _ (h.has ad e).2,
    fun ad e => ⟨(h.has ad e).1, (h.has ad e).2.keep hc (no _ (by decide) _ (h.has ad e).2)⟩, fun d hd => DrAt.keepP (h.drv d hd) hPh hc, h.apart, h.few, h.pks⟩

theorem pw_on (h : Pow w B P s F) : Calls Try.prog 44 #[.pointer (some ⟨P, 0, none⟩)] w fun e w' => e = .returned (.tuple #[]) ∧ Pow w' B P { s with off := false } F ∧ ChgT B w w' := by
  obtain ⟨ds, vA, vc, hs, hv, hB, hok, hF⟩ := h
  obtain ⟨pA, pc, h1, h2, h3, h4⟩ := hs.pw
  refine (on_any w P s.off s.armed s.writes _ _ h1).mono ?_
  rintro e w' ⟨rfl, hp, hc⟩
  exact ⟨rfl, ⟨ds, vA, vc, hs.turn h2 h3 h4 hp hc, hv, Nat.le_trans hB hc.size, ⟨hok.armed, hok.picks, hok.size⟩, hF⟩, ChgT.of hc fun k _ e => by rw [e]; exact hs.footP⟩

theorem pw_arm (h : Pow w B P s F) (n : Int) (hn : n ≤ 9223372036854775807) (A : Option Addr) (c : Nat) (l : List Int) (hr : Rd w A (ints l)) (hl : l.length ≤ 1000000) (hk : ∀ x ∈ l, x ≤ 9223372036854775807) :
    Calls Try.prog 41 #[.pointer (some ⟨P, 0, none⟩), .int .i64 n, .slice A l.length c] w fun e w' => e = .returned (.tuple #[]) ∧ Pow w' B P { s with armed := (max n 1).toNat, picks := l } F ∧ ChgT B w w' := by
  obtain ⟨ds, vA, vc, hs, hv, hB, hok, hF⟩ := h
  refine (arm_ok n A c l hs hr hl hk).mono ?_
  rintro e w' ⟨rfl, hs', hc⟩
  exact ⟨rfl, ⟨ds, vA, vc, hs', hv, Nat.le_trans hB hc.size, ⟨by simp only; omega, hl, hok.size⟩, hF⟩, ChgT.of hc fun k _ e => by rw [e]; exact hs.footP⟩

theorem pw_read (h : Pow w B P s F) (i : Nat) (d : DV) (hd : s.ds[i]? = some d) (m k : Nat) (z : List (List UInt8) × Nat) (hz : d.zs[m]? = some z) (l : List UInt8) (hl : z.1[k]? = some l) (hll : l.length ≤ 140737488351232) (ho : s.off = false) (hlo : d.lost = false) :
    Calls Try.prog 49 #[.pointer (some ⟨d.D, 0, none⟩), .int .i64 (m : Nat), .int .i64 (k : Nat)] w fun e w' => ∃ A' c', e = .returned (.tuple #[.slice A' l.length c', .int .i64 0]) ∧
      w'.ownsRow w.heap.size 5 1 (.slice A' l.length c') l.length (byts l) ∧ Below w.heap.size w w' := by
  obtain ⟨ds, vA, vc, hs, hv, hB, hok, hF⟩ := h
  have hi' : i < ds.length := by
    rw [← hv] at hd
    have := (List.getElem?_eq_some_iff.1 hd).1
    simpa using this
  have hdv := vw_get hv i hi'
  rw [hdv] at hd
  injection hd with hd
  subst hd
  have hD := hs.drv _ (List.getElem_mem hi')
  obtain ⟨pA, pc, h1, h2, h3, h4⟩ := hs.pw
  simp only [Dr.vw, List.getElem?_map, Option.map_eq_some_iff] at hz
  obtain ⟨z', hz', rfl⟩ := hz
  obtain ⟨hm, rfl⟩ := List.getElem?_eq_some_iff.1 hz'
  simp only [ZS.vw, List.getElem?_map, Option.map_eq_some_iff] at hl
  obtain ⟨sb, hsb, rfl⟩ := hl
  obtain ⟨hk, rfl⟩ := List.getElem?_eq_some_iff.1 hsb
  have eL : ds[i].vw.lost = ds[i].lost := rfl
  rw [eL] at hlo
  rw [ho] at h1
  unfold Dr.at_ at hD
  rw [hlo] at hD
  exact read_ok w B ds[i].D ds[i].Z P ds[i].pages ds[i].size m k ds[i].zs s.armed s.writes _ _ hD h1 hm hk hll

theorem pw_cut (h : Pow w B P s F) (i : Nat) (d : DV) (hd : s.ds[i]? = some d) (A : Option Addr) (c : Nat) (p : List Int) (hp : Rd w A (ints p)) (hpc : p.length ≤ c) (hph : p ≠ [] → ∀ ad, A = some ad → ad.block < B) (hpx : ∀ x ∈ p, x ≤ 9223372036854775807) (hpl : p.length ≤ 1000000) :
    Calls Try.prog 47 #[.pointer (some ⟨d.D, 0, none⟩), .slice A p.length c] w fun e w' => e = .returned (.tuple #[]) ∧ Pow w' B P { s with ds := s.ds.set i (d.cut p) } F ∧ ChgT B w w' := by
  obtain ⟨ds, vA, vc, hs, hv, hB, hok, hF⟩ := h
  have hi' : i < ds.length := by
    rw [← hv] at hd
    have := (List.getElem?_eq_some_iff.1 hd).1
    simpa using this
  have hdv := vw_get hv i hi'
  have hsz := hok.size _ (List.mem_of_getElem? hd)
  rw [hdv] at hd
  injection hd with hd
  subst hd
  have hD := hs.drv _ (List.getElem_mem hi')
  obtain ⟨pA, pc, h1, h2, h3, h4⟩ := hs.pw
  have hDh := (show DrAt w B ds[i].D ds[i].Z P ds[i].pages ds[i].size ds[i].lost ds[i].zs from hD)
  refine (cut_any w B ds[i].D ds[i].Z P ds[i].pages ds[i].size ds[i].lost ds[i].zs A c p hD hp hpc (fun hn ad e e' => by have := hph hn ad e; have := hDh.low.2; omega) hpx (by omega)).mono ?_
  rintro e w' ⟨rfl, hD', hc⟩
  have hsys := hs.put (S := fun k => k = ds[i].Z) h1 h2 h3 h4 (h1.keepZ (h1.blk.has.ne hDh.zon.has (by decide)) hc) i hi' (cutD p ds[i]) rfl hD' hc (fun k e => .inr (by rw [e]; exact .inr (.inl rfl))) (fun k e => .inl (cutD_S _ _ _ e))
  refine ⟨rfl, ⟨_, vA, vc, hsys, ?_, Nat.le_trans hB hc.size, ⟨hok.armed, hok.picks, fun d' hd' => ?_⟩, fun k hk => ?_⟩, ChgT.of hc fun k _ e => by rw [e]; exact hs.footD (List.getElem_mem hi') _ (.inr (.inl rfl))⟩
  · rw [List.map_set, hv]
    congr 1
    simp only [Dr.vw, cutD, DV.cut, cutP_vw]
  · rcases List.mem_or_eq_of_mem_set hd' with h5 | rfl
    · exact hok.size d' h5
    · exact hsz
  · rcases Pg.set hk with h5 | h5
    · exact hF k h5
    · exact hF k (PgD.of (List.getElem_mem hi') (PgD.cut h5))

theorem pw_none (w : World) : Calls Try.prog 39 #[] w fun e w' => e = .returned (.pointer (some ⟨w.heap.size, 0, none⟩)) ∧ Pow w' w.heap.size w.heap.size ⟨false, 0, [], 0, []⟩ (fun _ => False) ∧ Below w.heap.size w w' := by
  refine (newPower_any w).mono ?_
  rintro e w' ⟨rfl, hp, hb⟩
  exact ⟨rfl, ⟨[], none, 0, Sys.new w w' hp, rfl, hb.size, ⟨by simp, by simp, by simp⟩, fun k ⟨d, hd, _⟩ => by cases hd⟩, hb⟩
theorem pw_new (h : Pow w B P s F) (zones pages size : Nat) (hz : 1 ≤ zones) (hz2 : zones ≤ 4096) (hp : 1 ≤ pages) (hp2 : pages ≤ 4096) (hs : 32 ≤ size) (hs2 : size ≤ 65536) (hf : s.ds.length + 1 ≤ 1000) :
    Calls Try.prog 40 #[.pointer (some ⟨P, 0, none⟩), .int .i64 (zones : Nat), .int .i64 (pages : Nat), .int .i64 (size : Nat)] w fun e w' => ∃ D, e = .returned (.tuple #[.pointer (some ⟨D, 0, none⟩), .int .i64 0]) ∧
      Pow w' B P { s with ds := s.ds ++ [⟨D, pages, size, false, List.replicate zones ([], 0)⟩] } F ∧ ChgT B w w' := by
  obtain ⟨ds, vA, vc, hsy, hv, hB, hok, hF⟩ := h
  refine (new_ok zones pages size hsy hz hz2 hp hp2 hs hs2 (by rw [← hv] at hf; simpa using hf) hB).mono ?_
  rintro e w' ⟨D, Z, rfl, vA', vc', hs', hc, _, _⟩
  refine ⟨D, rfl, ⟨_, vA', vc', hs', ?_, Nat.le_trans hB hc.size, ⟨hok.armed, hok.picks, fun d hd => ?_⟩, fun k hk => ?_⟩, ChgT.of hc fun k _ e => ?_⟩
  · rw [List.map_append, hv]
    simp [Dr.vw, zs0, ZS.vw]
  · rcases List.mem_append.1 hd with h5 | h5
    · exact hok.size d h5
    · rw [List.mem_singleton.1 h5]
      exact ⟨by simp only; omega, hs2⟩
  · obtain ⟨d, hd, z, hz, sb, hsb, _⟩ := hk
    rcases List.mem_append.1 hd with h5 | h5
    · exact hF k ⟨d, h5, z, hz, sb, hsb, by assumption⟩
    · rw [List.mem_singleton.1 h5] at hz
      simp only [zs0] at hz
      rw [List.eq_of_mem_replicate hz] at hsb
      cases hsb
  · rcases e with rfl | ⟨ad, e, rfl⟩
    · exact hsy.footP
    · exact hsy.footA ad e
end
end Go.Proofs.Ytppfjdohajomoaa
