/- Power: a write that is no cut; a drive's pages are appended. -/
import Derived.Test.YtppfjdohajomoaaZc
import Derived.Test.YtppfjdohajomoaaFe
import Derived.Deep.RegionLaw
import Derived.Deep.RegionWith
namespace Go.Proofs.Ytppfjdohajomoaa
open Go.RowKit
set_option maxHeartbeats 2000000
set_option maxRecDepth 100000

theorem write_off (w : World) (P : Nat) (armed writes : Nat) (picks devs : Value) (h : PwAt w P true armed picks writes devs) :
    Calls Try.prog 80 #[.pointer (some ⟨P, 0, none⟩)] w fun e w' => e = .returned (.bool false) ∧ w = w' := by
  have c0 : w.cell? ⟨P, 0, none⟩ = some (.bool true) := h.blk.cell 0
  go_enter Try.func80, Try.ntmps80
  go_wp2
  go_ret
  exact ⟨rfl, rfl⟩
theorem write_ok (w : World) (P : Nat) (armed writes : Nat) (picks devs : Value) (h : PwAt w P false armed picks writes devs) (ha : armed ≠ 1) (ha2 : armed ≤ 9223372036854775807) (hw : writes ≤ 4611686018427387904) :
    Calls Try.prog 80 #[.pointer (some ⟨P, 0, none⟩)] w fun e w' => e = .returned (.bool true) ∧ PwAt w' P false (armed - 1) picks (writes + 1) devs ∧ Chg (fun k => k = P) w w' := by
  have c0 : w.cell? ⟨P, 0, none⟩ = some (.bool false) := h.blk.cell 0
  have c1 : w.cell? ⟨P, 1, none⟩ = some (.int .i64 (armed : Nat)) := h.blk.cell 1
  have c3 : w.cell? ⟨P, 3, none⟩ = some (.int .i64 (writes : Nat)) := h.blk.cell 3
  have f1 : w.frozen? ⟨P, 1, none⟩ = false := h.blk.frozen 1
  have f3 : w.frozen? ⟨P, 3, none⟩ = false := h.blk.frozen 3
  have k1 : ((armed : Int) == 1) = false := by simp; omega
  have hblk := h.blk
  go_enter Try.func80, Try.ntmps80
  go_wp2
  · go_ret
    have e : ((armed - 1 : Nat) : Int) = 0 := by omega
    refine ⟨rfl, ⟨?_⟩, Chg.set (S := fun k => k = P) (Chg.set (S := fun k => k = P) (Chg.refl _ _) rfl 1 _) rfl 3 _⟩
    rw [e]
    simpa using (hblk.set 1 (.int .i64 0)).set 3 (.int .i64 ((writes : Int) + 1))
  · go_ret
    have e : ((armed - 1 : Nat) : Int) = (armed : Int) - 1 := by omega
    refine ⟨rfl, ⟨?_⟩, Chg.set (S := fun k => k = P) (Chg.set (S := fun k => k = P) (Chg.refl _ _) rfl 1 _) rfl 3 _⟩
    rw [e]
    simpa using (hblk.set 1 (.int .i64 ((armed : Int) - 1))).set 3 (.int .i64 ((writes : Int) + 1))

theorem slPg : SlT Try.prog 37 38 (.slice none 0 0) 1 24 := ⟨Try.underlying37, by kernel_rfl, rfl, by decide⟩

theorem PgOk.of_own {w : World} {base c : Nat} {A : Option Addr} {l : List UInt8} (h : w.ownsRow base 5 1 (.slice A l.length c) l.length (byts l)) : PgOk w ⟨A, c, l⟩ := by
  refine ⟨Rd.of_own h, (own_cap h).1, fun ad e => ?_⟩
  rcases h.2 with ⟨h0, _⟩ | ⟨g, cap, cur, h0, _, hg, _⟩
  · injection h0 with h0 _ _
    rw [show A = some ad from e] at h0
    cases h0
  · injection h0 with h0 _ _
    rw [show A = some ad from e] at h0
    injection h0 with h0
    subst h0
    exact ⟨_, _, hg⟩

theorem append_ok (w : World) (B D Z P pages size n : Nat) (zs : List ZS) (armed writes : Nat) (picks devs : Value) (A : Option Addr) (c : Nat) (l : List UInt8)
    (h : DrAt w B D Z P pages size false zs) (hp : PwAt w P false armed picks writes devs) (hn : n < zs.length) (hl : Rd w A (byts l)) (hl8 : ∀ ad, A = some ad → Has w ad.block 5) (hls : l.length = size) (hlp : 0 < size ∧ size ≤ 65536)
    (hfull : zs[n].pg.length ≠ pages) (hB : B ≤ w.heap.size) (ha : armed ≠ 1) (ha2 : armed ≤ 9223372036854775807) (hw : writes ≤ 4611686018427387904) (hPh : Has w P 144) :
    Calls Try.prog 42 #[.pointer (some ⟨D, 0, none⟩), .int .i64 (n : Nat), .slice A l.length c] w fun e w' => e = .returned (.int .i64 0) ∧ ∃ A' c' s, s.l = l ∧ DrAt w' B D Z P pages size false (zs.set n ⟨A', c', zs[n].pg ++ [s], zs[n].fl⟩) ∧
      PwAt w' P false (armed - 1) picks (writes + 1) devs ∧ Chg (fun k => k = P ∨ k = Z ∨ ∃ ad, zs[n].A = some ad ∧ k = ad.block) w w' ∧ (∀ ad, A' = some ad → (∃ ad0, zs[n].A = some ad0 ∧ ad.block = ad0.block) ∨ w.heap.size ≤ ad.block) ∧ (∀ ad, s.A = some ad → w.heap.size ≤ ad.block ∧ ad.block < w'.heap.size) := by
  have hzn := fun W hW hW2 => zone_any W B D Z P pages size false zs false armed writes picks devs (n : Nat) hW hW2
  have hzE : zoneE false false (n : Int) zs.length = 0 := by unfold zoneE; rw [if_neg (by simp [readyE]), if_neg (by omega)]
  rw [hzE] at hzn
  have hwr := fun W hW => write_ok W P armed writes picks devs hW ha ha2 hw
  clear hzE
  have c0 := h.c0
  have c2 := h.c2
  have c3 := h.c3
  have z0 := h.z0 n hn
  have k1 : ((l.length : Int) != (size : Int)) = false := by rw [hls]; simp
  have k2 : ((zs[n].pg.length : Int) == (pages : Int)) = false := by simp; omega
  have hrow := h.rows n hn
  have hlt : zs[n].pg.length < pages := by have := hrow.few; omega
  have hpg : zs[n].pg.length ≤ 4096 := by have := h.most.1; omega
  have happ := fun (w0 w' : World) (h0 : DrAt w0 B D Z P pages size false zs) => h0.appended (w' := w') hn hlt
  have hZl := h.zon.lt
  generalize hzz : zs[n] = z at *
  have HZ := Lib.hid hzz
  have HLS := Lib.hid hls
  clear hzz hls hfull hlt
  go_enter Try.func42, Try.ntmps42
  go_upto_region 6 with (first
    | (go_at_call 79; refine (hzn _ h hp).mono ?_; rintro e w1 ⟨_, he, rfl⟩; obtain rfl := he rfl))
  go_quiet (fail)
  have h1 := h.keep (S := fun _ => False) ((Chg.refl _ w).drewN nq) (fun _ h => h.elim) (fun _ _ h => h)
  have hp1 : PwAt (w.drewN nq) P false armed picks writes devs := ⟨hp.blk.drewN nq⟩
  have hl1 := hl.drewN nq
  have hPh1 : Has (w.drewN nq) P 144 := hPh
  have hbN : Below w.heap.size w (w.drewN nq) := below_drewN (Below.refl _ _) nq
  have hszN : (w.drewN nq).heap.size = w.heap.size := rfl
  go_upto_region 10 with (go_at_call 80; refine (hwr _ hp1).mono ?_; rintro e w2 ⟨rfl, hp2, hch2⟩)
  have h2 := h1.keepP hPh1 hch2
  have hch2' : Chg (fun k => k = P) w w2 := ((Chg.refl _ w).drewN nq).trans hch2
  have hr2 := hrow.keep hch2' (fun ad e e' => ((hrow.has ad e).2.ne hPh (by decide)) e') (fun k e => by rw [e]; exact hPh.not8 (by decide))
  have hl2 := hl.keepC hch2' fun ad e e' => ?_
  · have hcl := clone_any A c l w2.drew hl2.drew (by rw [HLS.out]; omega)
    have y0 : w2.cell? ⟨Z, n * 2, none⟩ = some (.slice z.A z.pg.length z.c) := by have := h2.z0 n hn; rw [HZ.out] at this; exact this
    have hB2 : B ≤ w2.heap.size := Nat.le_trans hB hch2'.size
    have hy : ∀ W, Blk W Z 154 (zcells zs).toArray → W.cell? ⟨Z, n * 2, none⟩ = some (.slice z.A z.pg.length z.c) := fun W hW => by
      rw [hW.cell, List.getElem?_toArray, (zcells_get zs n hn).1, HZ.out]
    have hPno : ¬ ∃ ad, z.A = some ad ∧ P = ad.block := by
      rintro ⟨ad, e, rfl⟩
      exact ((hr2.has ad e).2.ne hp2.blk.has (by decide)) rfl
    have hPZ : P ≠ Z := hp2.blk.has.ne h2.zon.has (by decide)
    have hr2d := hr2.drew
    have hZno : ¬ ∃ ad, z.A = some ad ∧ Z = ad.block := by
      rintro ⟨ad, e, rfl⟩
      exact (h2.zon.has.ne (hr2.has ad e).2 (by decide)) rfl
    have h2d := h2.drew
    clear hzn hwr h hp h1 hp1 hl hl1 hPh1 z0 c0 c2 c3
    go_region_law (first
      | (refine step_apz _ rfl _ _ rfl slPg B z.A z.pg.length z.c (z.pg.map Sb.val) rfl (hap3.alloc _) (some ⟨w3.heap.size, 0, none⟩) (.slice A3 l.length c3) rfl (Rd.one w3 _ _) rfl (by unfold maxLen; omega) (by omega) (by have := hb3.size; simp at this ⊢; omega) ?_; intro A4 c4 w4 ho4 hc4 hA4; have zk := ((h2d.below hb3).zon.alloc (.cells #[.slice A3 l.length c3] 38)).keep hc4 hZno; have y4 := hy w4 zk; have f4 : w4.frozen? ⟨Z, n * 2, none⟩ = false := zk.frozen _)
      | (go_simp; go_at_call 81; (with_reducible refine hcl.mono ?_); rintro e w3 ⟨A3, c3, rfl, ho3, hb3⟩; have hap3 := (hr2d.below hb3).row; have y3 := hy w3 (h2d.below hb3).zon; have y3a := hy (w3.alloc (.cells #[.slice A3 l.length c3] 38)) ((h2d.below hb3).zon.alloc _)))
    all_goals
      go_wp2
      go_ret
      have d3a := (h2d.below hb3).below ((Below.refl _ _).alloc (Nat.le_refl _) (.cells #[.slice A3 l.length c3] 38))
      have hs4 : PgOk w4 ⟨A3, c3, l⟩ := ((PgOk.of_own ho3).keep (S := fun _ => False) (Chg.alloc (Chg.refl _ _) (.cells #[.slice A3 l.length c3] 38)) (fun _ h => h.elim)).keep hc4 (fun k ⟨ad, e, e'⟩ => by
        rw [e']; exact ((((hr2.has ad e).2.keep (S := fun _ => False) (Chg.drew (Chg.refl _ _)) (fun h => h)).keep (S := fun _ => False) (.of_below hb3) (fun h => h)).keep (S := fun _ => False) (Chg.alloc (Chg.refl _ _) _) (fun h => h)).not8 (by decide))
      have hd4 := happ _ w4 d3a A4 c4 ⟨A3, c3, l⟩ ho4 hc4 hA4 hs4
      have hp3 := (((hp2.blk.drew.below' hb3).alloc (.cells #[.slice A3 l.length c3] 38)).keep hc4 hPno)
      have hcw : Chg (fun k => k = P ∨ k = Z ∨ ∃ ad, z.A = some ad ∧ k = ad.block) w (w3.alloc (.cells #[.slice A3 l.length c3] 38)) := (((hch2'.mono fun k _ h => .inl h).drew).below hb3).alloc _
      refine ⟨rfl, A4, c4, ⟨A3, c3, l⟩, rfl, hd4, ⟨hp3.far (p := ⟨Z, n * 2, none⟩) hPZ _⟩, (hcw.trans (hc4.mono fun k _ h => .inr (.inr h))).set (.inr (.inl rfl)) _ _, fun ad e => ?_, fun ad e => ?_⟩
      · rcases hA4 ad e with h5 | h5
        · exact .inl h5
        · exact .inr (Nat.le_trans hcw.size h5)
      · have h5 := (own_cap ho3).2.2 ad e
        have h6 := hch2'.size
        have h7 := hc4.size
        have h8 : w2.drew.heap.size = w2.heap.size := rfl
        simp only [World.setCell, World.alloc, Array.size_push] at h7 ⊢
        constructor
        · omega
        · simp
          omega
  · exact ((hl8 ad e).ne hPh (by decide)) e'
end Go.Proofs.Ytppfjdohajomoaa
