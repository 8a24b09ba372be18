/- Drives on a power, looked at as values: the contracts. -/
import Derived.Test.YtppfjdohajomoaaZn
namespace Go.Proofs.Ytppfjdohajomoaa
open Go.RowKit
set_option maxHeartbeats 4000000
set_option maxRecDepth 100000

theorem readyE_zero {off lost : Bool} (h : readyE off lost = 0) : off = false ∧ lost = false := by
  unfold readyE at h
  cases off <;> cases lost <;> simp at h ⊢
theorem zoneE_zero {off lost : Bool} {n : Int} {k : Nat} (h : zoneE off lost n k = 0) : off = false ∧ lost = false ∧ ∃ m : Nat, n = (m : Int) ∧ m < k := by
  unfold zoneE at h
  by_cases h1 : readyE off lost ≠ 0
  · rw [if_pos h1] at h; exact absurd h h1
  · rw [if_neg h1] at h
    have h0 := readyE_zero (Classical.not_not.1 h1)
    by_cases h2 : n < 0 ∨ (k : Int) ≤ n
    · rw [if_pos h2] at h; cases h
    · exact ⟨h0.1, h0.2, n.toNat, by omega, by omega⟩

def appendR (s : St) (i : Nat) (n : Int) (l : List UInt8) : Nat × St :=
  match s.ds[i]? with
  | none => (0, s)
  | some d =>
    if zoneE s.off d.lost n d.zs.length ≠ 0 then (zoneE s.off d.lost n d.zs.length, s)
    else if l.length ≠ d.size then (1, s)
    else match d.zs[n.toNat]? with
      | none => (0, s)
      | some z => if z.1.length = d.pages then (5, s) else if s.armed = 1 then (8, s.cut) else (0, { s.wrote with ds := s.ds.set i { d with zs := d.zs.set n.toNat (z.1 ++ [l], z.2) } })
def flushR (s : St) (i : Nat) : Nat × St :=
  match s.ds[i]? with
  | none => (0, s)
  | some d => if readyE s.off d.lost ≠ 0 then (readyE s.off d.lost, s) else if s.armed = 1 then (8, s.cut) else (0, { s.wrote with ds := s.ds.set i { d with zs := d.zs.map fun z => (z.1, z.1.length) } })
def pointerR (s : St) (i : Nat) (n : Int) : Nat × Nat :=
  match s.ds[i]? with
  | none => (0, 0)
  | some d => if zoneE s.off d.lost n d.zs.length ≠ 0 then (0, zoneE s.off d.lost n d.zs.length) else match d.zs[n.toNat]? with
    | none => (0, 0)
    | some z => (z.1.length, 0)

theorem cutS_pages : ∀ (p : List Int) (zs : List ZS) z, z ∈ cutS p zs → ∃ y ∈ zs, ∀ sb ∈ z.pg, sb ∈ y.pg
  | p, [], z, h => by cases p <;> simp [cutS] at h
  | p, y :: r, z, h => by
    rw [cutS] at h
    split at h
    · rcases List.mem_cons.1 h with h1 | h1
      · exact ⟨y, by simp, by rw [h1]; exact fun _ h => h⟩
      · obtain ⟨x, hx, e⟩ := cutS_pages p r z h1
        exact ⟨x, by simp [hx], e⟩
    · rcases List.mem_cons.1 h with h1 | h1
      · exact ⟨y, by simp, by rw [h1]; exact fun _ h => List.mem_of_mem_take h⟩
      · obtain ⟨x, hx, e⟩ := cutS_pages p.tail r z h1
        exact ⟨x, by simp [hx], e⟩
def PgD (d : Dr) (k : Nat) : Prop := ∃ z ∈ d.zs, ∃ sb ∈ z.pg, ∃ ad, sb.A = some ad ∧ k = ad.block
theorem PgD.cut {p : List Int} {d : Dr} {k : Nat} (h : PgD (cutD p d) k) : PgD d k := by
  obtain ⟨z, hz, sb, hsb, ad, hA, rfl⟩ := h
  obtain ⟨y, hy, hs⟩ := cutS_pages p d.zs z hz
  exact ⟨y, hy, sb, hs sb hsb, ad, hA, rfl⟩
theorem Pg.set {ds : List Dr} {i : Nat} {d1 : Dr} {k : Nat} (h : Pg (ds.set i d1) k) : Pg ds k ∨ PgD d1 k := by
  obtain ⟨d, hd, z, hz, sb, hsb, ad, hA, rfl⟩ := h
  rcases List.mem_or_eq_of_mem_set hd with h1 | rfl
  · exact .inl ⟨d, h1, z, hz, sb, hsb, ad, hA, rfl⟩
  · exact .inr ⟨z, hz, sb, hsb, ad, hA, rfl⟩
theorem PgD.of {ds : List Dr} {d : Dr} (hd : d ∈ ds) {k : Nat} (h : PgD d k) : Pg ds k := ⟨d, hd, h⟩
theorem Pg.cut {p : List Int} {ds : List Dr} {k : Nat} (h : Pg (cutDs p ds ds.length) k) : Pg ds k := by
  obtain ⟨d, hd, h1⟩ := h
  simp only [cutDs, List.take_length, List.drop_length, List.append_nil, List.mem_map] at hd
  obtain ⟨d', hd', rfl⟩ := hd
  exact ⟨d', hd', PgD.cut h1⟩

section
variable {F : Nat → Prop} {w w1 : World} {B P : Nat} {off : Bool} {armed : Nat} {picks : List Int} {writes : Nat} {ds : List Dr} {vA : Option Addr} {vc : Nat} {s : St}
theorem vw_get (hv : ds.map Dr.vw = s.ds) (i : Nat) (hi : i < ds.length) : s.ds[i]? = some ds[i].vw := by
  rw [← hv, List.getElem?_map, List.getElem?_eq_getElem hi]; rfl
theorem St.ok.cut (h : s.ok) : s.cut.ok := ⟨by simp [St.cut], h.picks, fun d hd => by
  simp only [St.cut, List.mem_map] at hd
  obtain ⟨d', hd', rfl⟩ := hd
  exact h.size d' hd'⟩
theorem St.ok.put (h : s.ok) {i : Nat} {d : DV} (hd : s.ds[i]? = some d) (zs : List (List (List UInt8) × Nat)) : St.ok { s.wrote with ds := s.ds.set i { d with zs := zs } } := by
  refine ⟨?_, h.picks, fun d' hd' => ?_⟩
  · have := h.armed
    simp only [St.wrote]
    omega
  · rcases List.mem_or_eq_of_mem_set hd' with h1 | rfl
    · exact h.size d' h1
    · exact h.size d (List.mem_of_getElem? hd)

theorem down_cut (h : Sys w B P s.off s.armed s.picks s.writes ds vA vc) (hv : ds.map Dr.vw = s.ds) (hB : B ≤ w.heap.size) (hok : s.ok) (hF : ∀ k, Pg ds k → F k) (ho : s.off = false) (ha : s.armed = 1) (k : Nat) :
    Calls Try.prog 80 #[.pointer (some ⟨P, 0, none⟩)] (w.drewN k) fun e w' => e = .returned (.bool false) ∧ Pow w' B P s.cut F ∧ ChgT B w w' := by
  have hb : Below w.heap.size w (w.drewN k) := below_drewN (Below.refl _ _) k
  have h' := h.below hb
  rw [ho, ha] at h'
  refine (write_cut h' hok.picks).mono ?_
  rintro e w' ⟨rfl, hs, hc⟩
  have hT : ChgT B (w.drewN k) w' := ChgT.of hc fun j _ hj => by
    rcases hj with rfl | ⟨d, hd, rfl⟩
    · exact h'.footP
    · exact h'.footD hd _ (.inr (.inl rfl))
  refine ⟨rfl, ⟨_, vA, vc, hs, ?_, Nat.le_trans hB (Nat.le_trans hb.size hc.size), hok.cut, fun k hk => hF k (Pg.cut hk)⟩, (ChgT.of_below hb).trans hT⟩
  rw [cutDs_vw, hv]
  rfl

theorem pw_append (h : Pow w B P s F) (i : Nat) (hi : i < s.ds.length) (n : Int) (A : Option Addr) (c : Nat) (l : List UInt8) (hl : Rd w A (byts l)) (hl8 : ∀ ad, A = some ad → Has w ad.block 5) (hw : s.writes ≤ 4611686018427387904) :
    Calls Try.prog 42 #[.pointer (some ⟨s.ds[i].D, 0, none⟩), .int .i64 n, .slice A l.length c] w fun e w' => e = .returned (.int .i64 ((appendR s i n l).1 : Nat)) ∧ Pow w' B P (appendR s i n l).2 (FN F w w') ∧ ChgT B w w' := by
  have h0 := h
  obtain ⟨ds, vA, vc, hs, hv, hB, hok, hF⟩ := h
  have hi' : i < ds.length := by rw [← hv] at hi; simpa using hi
  have hdv := vw_get hv i hi'
  have hdv' : s.ds[i] = ds[i].vw := by rw [List.getElem?_eq_getElem hi] at hdv; injection hdv
  have hd := hs.drv _ (List.getElem_mem hi')
  obtain ⟨pA, pc, h1, h2, h3, h4⟩ := hs.pw
  have hsz := hok.size _ (List.mem_of_getElem? hdv)
  have hput := fun zs => hok.put hdv zs
  simp only [appendR, hdv, hdv'] at hput ⊢
  have hzl : ds[i].vw.zs.length = ds[i].zs.length := by simp [Dr.vw]
  rw [hzl]
  change Calls _ _ #[.pointer (some ⟨ds[i].D, 0, none⟩), _, _] _ _
  have eL : ds[i].vw.lost = ds[i].lost := rfl
  have eS : ds[i].vw.size = ds[i].size := rfl
  have eP : ds[i].vw.pages = ds[i].pages := rfl
  rw [eS] at hsz
  rw [eL, eS, eP]
  by_cases hE : zoneE s.off ds[i].lost n ds[i].zs.length ≠ 0
  · rw [if_pos hE]
    refine (append_zone hd h1 n hE _).mono ?_
    rintro e w' ⟨rfl, rfl⟩
    exact ⟨rfl, h0.mono fun k hk => .inl hk, ChgT.refl _ _⟩
  rw [if_neg hE]
  have hE := Classical.not_not.1 hE
  obtain ⟨ho, hlo, m, rfl, hm⟩ := zoneE_zero hE
  by_cases hls : l.length ≠ ds[i].size
  · rw [if_pos hls]
    refine (append_len hd h1 m hE A _ c hls).mono ?_
    rintro e w' ⟨rfl, rfl⟩
    exact ⟨rfl, h0.mono fun k hk => .inl hk, ChgT.refl _ _⟩
  rw [if_neg hls]
  have hls := Classical.not_not.1 hls
  have hzg : ds[i].vw.zs[(m : Int).toNat]? = some ds[i].zs[m].vw := by
    rw [Int.toNat_natCast]
    simp only [Dr.vw, List.getElem?_map, List.getElem?_eq_getElem hm, Option.map_some]
  have hzp : ds[i].zs[m].vw.1.length = ds[i].zs[m].pg.length := by simp [ZS.vw]
  rw [hzg]
  simp only [hzp]
  by_cases hfull : ds[i].zs[m].pg.length = ds[i].pages
  · rw [if_pos hfull]
    refine (append_full hd h1 m hm hE A _ c hls hfull).mono ?_
    rintro e w' ⟨rfl, k, rfl⟩
    exact ⟨rfl, (h0.drewN k).mono fun k hk => .inl hk, (ChgT.refl _ _).drewN k⟩
  rw [if_neg hfull]
  by_cases ha : s.armed = 1
  · rw [if_pos ha]
    refine (append_down hd h1 m hm hE A _ c hls hfull (Q := fun w' => Pow w' B P s.cut F ∧ ChgT B w w') fun k => down_cut hs hv hB hok hF ho ha k).mono ?_
    rintro e w' ⟨rfl, hp, hc⟩
    exact ⟨rfl, hp.mono fun k hk => .inl hk, hc⟩
  rw [if_neg ha]
  rw [ho] at h1 hs
  have hd' := hd
  unfold Dr.at_ at hd'
  rw [hlo] at hd'
  refine (append_ok w B ds[i].D ds[i].Z P ds[i].pages ds[i].size m ds[i].zs s.armed s.writes _ _ A c l hd' h1 hm hl hl8 hls hsz hfull hB ha hok.armed hw h1.blk.has).mono ?_
  rintro e w' ⟨rfl, A', c', sb, rfl, hD, hP, hc, hA, hN⟩
  have hsys := hs.put h1 h2 h3 h4 hP i hi' { ds[i] with zs := ds[i].zs.set m ⟨A', c', ds[i].zs[m].pg ++ [sb], ds[i].zs[m].fl⟩ } rfl (by show DrAt _ _ _ _ _ _ _ ds[i].lost _; rw [hlo]; exact hD) hc (fun k hk => ?_) (fun k hk => ?_)
  · refine ⟨rfl, ⟨_, vA, vc, by rw [← ho] at hsys; exact hsys, ?_, Nat.le_trans hB hc.size, hput _, fun k hk => ?_⟩, ChgT.of hc fun k _ hk => ?_⟩
    · rw [List.map_set, hv]
      simp only [Dr.vw, Int.toNat_natCast, List.map_set, ZS.vw, List.map_append, List.map_cons, List.map_nil]
    · rcases Pg.set hk with h5 | ⟨z, hz, sb', hsb, ad, hA', rfl⟩
      · exact .inl (hF k h5)
      · rcases List.mem_or_eq_of_mem_set hz with h6 | rfl
        · exact .inl (hF _ ⟨ds[i], List.getElem_mem hi', z, h6, sb', hsb, ad, hA', rfl⟩)
        · rcases List.mem_append.1 hsb with h7 | h7
          · exact .inl (hF _ ⟨ds[i], List.getElem_mem hi', _, List.getElem_mem hm, sb', h7, ad, hA', rfl⟩)
          · rw [List.mem_singleton.1 h7] at hA'
            exact .inr (hN ad hA')
    · rcases hk with rfl | rfl | ⟨ad, hA', rfl⟩
      · exact hs.footP
      · exact hs.footD (List.getElem_mem hi') _ (.inr (.inl rfl))
      · exact hs.footD (List.getElem_mem hi') _ (.inr (.inr ⟨_, List.getElem_mem hm, ad, hA', rfl⟩))
  · rcases hk with rfl | rfl | ⟨ad, hA', rfl⟩
    · exact .inl rfl
    · exact .inr (.inr (.inl rfl))
    · exact .inr (.inr (.inr ⟨_, List.getElem_mem hm, ad, hA', rfl⟩))
  · rcases hk with rfl | rfl | ⟨z, hz, ad, hA', rfl⟩
    · exact .inl (.inl rfl)
    · exact .inl (.inr (.inl rfl))
    · rcases List.mem_or_eq_of_mem_set hz with h5 | rfl
      · exact .inl (.inr (.inr ⟨z, h5, ad, hA', rfl⟩))
      · rcases hA ad hA' with ⟨ad0, e0, e1⟩ | h5
        · exact .inl (.inr (.inr ⟨_, List.getElem_mem hm, ad0, e0, e1⟩))
        · exact .inr h5

theorem flz_vw (zs : List ZS) : (zs.map flz).map ZS.vw = (zs.map ZS.vw).map fun z => (z.1, z.1.length) := by
  simp [flz, ZS.vw, Function.comp_def]
theorem pw_flush (h : Pow w B P s F) (i : Nat) (hi : i < s.ds.length) (hw : s.writes ≤ 4611686018427387904) :
    Calls Try.prog 46 #[.pointer (some ⟨s.ds[i].D, 0, none⟩)] w fun e w' => e = .returned (.int .i64 ((flushR s i).1 : Nat)) ∧ Pow w' B P (flushR s i).2 F ∧ ChgT B w w' := by
  have h0 := h
  obtain ⟨ds, vA, vc, hs, hv, hB, hok, hF⟩ := h
  have hi' : i < ds.length := by rw [← hv] at hi; simpa using hi
  have hdv := vw_get hv i hi'
  have hdv' : s.ds[i] = ds[i].vw := by rw [List.getElem?_eq_getElem hi] at hdv; injection hdv
  have hd := hs.drv _ (List.getElem_mem hi')
  obtain ⟨pA, pc, h1, h2, h3, h4⟩ := hs.pw
  have hput := fun zs => hok.put hdv zs
  simp only [flushR, hdv, hdv'] at hput ⊢
  change Calls _ _ #[.pointer (some ⟨ds[i].D, 0, none⟩)] _ _
  have eL : ds[i].vw.lost = ds[i].lost := rfl
  rw [eL]
  by_cases hE : readyE s.off ds[i].lost ≠ 0
  · rw [if_pos hE]
    refine (flush_no hd h1 hE).mono ?_
    rintro e w' ⟨rfl, rfl⟩
    exact ⟨rfl, h0, ChgT.refl _ _⟩
  rw [if_neg hE]
  have hE := Classical.not_not.1 hE
  obtain ⟨ho, hlo⟩ := readyE_zero hE
  by_cases ha : s.armed = 1
  · rw [if_pos ha]
    have hdc := down_cut hs hv hB hok hF ho ha 0
    refine (flush_down hd h1 hE (Q := fun w' => Pow w' B P s.cut F ∧ ChgT B w w') hdc).mono ?_
    rintro e w' ⟨rfl, hp, hc⟩
    exact ⟨rfl, hp, hc⟩
  rw [if_neg ha]
  rw [ho] at h1 hs
  have hd' := hd
  unfold Dr.at_ at hd'
  rw [hlo] at hd'
  refine (flush_ok w B ds[i].D ds[i].Z P ds[i].pages ds[i].size ds[i].zs s.armed s.writes _ _ hd' h1 ha hok.armed hw).mono ?_
  rintro e w' ⟨rfl, hD, hP, hc⟩
  have hsys := hs.put h1 h2 h3 h4 hP i hi' { ds[i] with zs := ds[i].zs.map flz } rfl (by show DrAt _ _ _ _ _ _ _ ds[i].lost _; rw [hlo]; exact hD) hc (fun k hk => ?_) (fun k hk => ?_)
  · refine ⟨rfl, ⟨_, vA, vc, by rw [← ho] at hsys; exact hsys, ?_, Nat.le_trans hB hc.size, hput _, fun k hk => ?_⟩, ChgT.of hc fun k _ hk => ?_⟩
    · rw [List.map_set, hv]
      simp only [Dr.vw, flz_vw]
    · rcases Pg.set hk with h5 | ⟨z, hz, sb', hsb, ad, hA', rfl⟩
      · exact hF k h5
      · obtain ⟨y, hy, rfl⟩ := List.mem_map.1 hz
        exact hF _ ⟨ds[i], List.getElem_mem hi', y, hy, sb', hsb, ad, hA', rfl⟩
    · rcases hk with rfl | rfl
      · exact hs.footP
      · exact hs.footD (List.getElem_mem hi') _ (.inr (.inl rfl))
  · rcases hk with rfl | rfl
    · exact .inl rfl
    · exact .inr (.inr (.inl rfl))
  · rcases hk with rfl | rfl | ⟨z, hz, ad, hA', rfl⟩
    · exact .inl (.inl rfl)
    · exact .inl (.inr (.inl rfl))
    · obtain ⟨y, hy, rfl⟩ := List.mem_map.1 hz
      exact .inl (.inr (.inr ⟨y, hy, ad, hA', rfl⟩))

theorem pw_pointer (h : Pow w B P s F) (i : Nat) (hi : i < s.ds.length) (n : Int) :
    Calls Try.prog 48 #[.pointer (some ⟨s.ds[i].D, 0, none⟩), .int .i64 n] w fun e w' => e = .returned (.tuple #[.int .i64 ((pointerR s i n).1 : Nat), .int .i64 ((pointerR s i n).2 : Nat)]) ∧ w = w' := by
  obtain ⟨ds, vA, vc, hs, hv, hB, hok, hF⟩ := h
  have hi' : i < ds.length := by rw [← hv] at hi; simpa using hi
  have hdv := vw_get hv i hi'
  have hdv' : s.ds[i] = ds[i].vw := by rw [List.getElem?_eq_getElem hi] at hdv; injection hdv
  have hd := hs.drv _ (List.getElem_mem hi')
  obtain ⟨pA, pc, h1, h2, h3, h4⟩ := hs.pw
  simp only [pointerR, hdv, hdv']
  have hzl : ds[i].vw.zs.length = ds[i].zs.length := by simp [Dr.vw]
  rw [hzl]
  change Calls _ _ #[.pointer (some ⟨ds[i].D, 0, none⟩), _] _ _
  have eL : ds[i].vw.lost = ds[i].lost := rfl
  rw [eL]
  by_cases hE : zoneE s.off ds[i].lost n ds[i].zs.length ≠ 0
  · rw [if_pos hE]
    refine (pointer_no hd h1 n hE).mono ?_
    rintro e w' ⟨rfl, rfl⟩
    exact ⟨rfl, rfl⟩
  rw [if_neg hE]
  have hE := Classical.not_not.1 hE
  obtain ⟨ho, hlo, m, rfl, hm⟩ := zoneE_zero hE
  have hzg : ds[i].vw.zs[(m : Int).toNat]? = some ds[i].zs[m].vw := by
    rw [Int.toNat_natCast]
    simp only [Dr.vw, List.getElem?_map, List.getElem?_eq_getElem hm, Option.map_some]
  have hzp : ds[i].zs[m].vw.1.length = ds[i].zs[m].pg.length := by simp [ZS.vw]
  rw [hzg]
  simp only [hzp]
  rw [ho] at h1
  unfold Dr.at_ at hd
  rw [hlo] at hd
  exact pointer_ok w B ds[i].D ds[i].Z P ds[i].pages ds[i].size m ds[i].zs s.armed s.writes _ _ hd h1 hm
end
end Go.Proofs.Ytppfjdohajomoaa
