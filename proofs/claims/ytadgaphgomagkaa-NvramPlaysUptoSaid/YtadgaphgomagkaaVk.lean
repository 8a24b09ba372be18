/- The reference's device: what is there, persisted. -/
import Derived.Test.YtadgaphgomagkaaVj
namespace Go.Proofs.Ytadgaphgomagkaa
open Go.RowKit
set_option maxHeartbeats 8000000
set_option maxRecDepth 100000

theorem own_set {w : World} {base : Nat} {e : TypeId} {n c : Nat} {A : Option Addr} {xs : List Value} (h : w.ownsRow base e 1 (.slice A n c) n xs) (i : Nat) (hi : i < n) :
    ∃ g, A = some ⟨g, 0, none⟩ ∧ base ≤ g ∧ Has w g e ∧ w.cell? ⟨g, i, none⟩ = xs[i]? ∧ w.frozen? ⟨g, i, none⟩ = false ∧ ∀ v : Value, (w.setCell ⟨g, i, none⟩ v).ownsRow base e 1 (.slice A n c) n (xs.set i v) := by
  obtain ⟨h1, h2⟩ := h
  rcases h2 with ⟨h0, hn⟩ | ⟨g, cap, cur, h0, hg1, hg2, hg3, hg4, hg5, hg6⟩
  · omega
  · injection h0 with e1 e2 e3
    subst e1 e3
    have hb : Blk w g e cur := hg2
    have hcur : i < cur.size := by omega
    refine ⟨g, rfl, hg1, hb.has, ?_, hb.frozen i, fun v => ⟨by rw [List.length_set]; exact h1, .inr ⟨g, c, cur.setIfInBounds i v, rfl, hg1, hb.set i v, hg3, hg4, by simpa using hg5, ?_⟩⟩⟩
    · rw [hb.cell, ← hg6, List.getElem?_take, if_pos (by omega)]
      simp
    · rw [← hg6]
      simp only [Array.toList_setIfInBounds, List.take_set]

theorem own_addr {w : World} {base : Nat} {e : TypeId} {size n c : Nat} {A : Option Addr} {xs : List Value} (h : w.ownsRow base e size (.slice A n c) n xs) : ∀ ad, A = some ad → ∃ g, ad = ⟨g, 0, none⟩ := by
  intro ad e'
  rcases h.2 with ⟨h0, _⟩ | ⟨g, cap, cur, h0, _⟩
  · injection h0 with h0 _ _; rw [e'] at h0; cases h0
  · injection h0 with h0 _ _
    rw [e'] at h0
    injection h0 with h0
    exact ⟨g, h0⟩
theorem addr_add (g o i : Nat) : (⟨g, o, none⟩ : Addr).add i = ⟨g, o + i, none⟩ := by
  by_cases h : i = 0
  · subst h; simp [Addr.add]
  · simp [Addr.add, h]

theorem now_any (w : World) (B R G : Nat) (kept : List UInt8) (L : List (Nat × UInt8)) (kA : Option Addr) (kc : Nat) (lA : Option Addr) (lc : Nat) (h : RfAt w B R G kept L kA kc lA lc) (hbl : kept.length ≤ 67108864) (hlt : ∀ p ∈ L, p.1 < kept.length) (n : Nat) (hn : n ≤ L.length) (hLs : L.length ≤ 2000000) :
    Calls Try.prog 56 #[.pointer (some ⟨R, 0, none⟩), .int .i64 (n : Nat)] w fun e w' => ∃ A' c', e = .returned (.slice A' kept.length c') ∧ w'.ownsRow w.heap.size 5 1 (.slice A' kept.length c') kept.length (byts (app kept (L.take n))) ∧ Below w.heap.size w w' := by
  have hown : (w.alloc (.cells #[] 5)).ownsRow w.heap.size 5 1 (.slice (some ⟨w.heap.size, 0, none⟩) 0 0) 0 [] := World.ownsRow_made w #[] 0 (Nat.le_refl _) (by unfold maxLen; omega) rfl
  have hk1 := h.kep.alloc (.cells #[] 5)
  have c0 : w.cell? ⟨R, 0, none⟩ = some (.slice kA kept.length kc) := h.dev.cell 0
  have c0a : (w.alloc (.cells #[] 5)).cell? ⟨R, 0, none⟩ = some (.slice kA kept.length kc) := (h.dev.alloc _).cell 0
  have HL := Lib.hid (byts_length kept)
  go_enter Try.func56, Try.ntmps56
  go_wp2_with (at_builtin; refine wpList_app _ rfl _ _ rfl slB w.heap.size (.slice (some ⟨w.heap.size, 0, none⟩) 0 0) 0 [] rfl hown kA kept.length kc (byts kept) rfl (by rw [HL.out, Nat.mul_one]) hk1 (byts_one kept) (by unfold maxLen; omega) (by omega) (by simp) ?_; intro A2 c2 w2 ho2 hg2)
  have ho2' : w2.ownsRow w.heap.size 5 1 (.slice A2 kept.length c2) kept.length (byts (app kept (L.take 0))) := by simpa [app] using ho2
  have hb2 : Below w.heap.size w w2 := ((Below.refl _ _).alloc (Nat.le_refl _) _).trans (hg2.toBelow (by simp) (by simp [Value.ownBlock]))
  clear ho2 hg2 c0a hk1 hown
  go_loopg [6] n (fun m s6 wr => ∃ (k : Nat), m = n - k ∧ k ≤ n ∧ s6 = .int .i64 (k : Nat) ∧ wr.ownsRow w.heap.size 5 1 (.slice A2 kept.length c2) kept.length (byts (app kept (L.take k))) ∧ Below w.heap.size w wr)
  case atStart => exact ⟨0, rfl, by omega, rfl, ho2', hb2⟩
  case round =>
    clear ho2' hb2 c0
    obtain ⟨k, rfl, hk, rfl, ho, hb⟩ := hrel
    by_cases hkn : k < n
    · have r1 : (k : Int) < (n : Int) := by omega
      have hkL : k < L.length := by omega
      have hlk := hlt _ (List.getElem_mem hkL)
      have hR := h.below hb
      obtain ⟨g, rfl, hg, _, hgc, hgf, hset⟩ := own_set ho L[k].1 hlk
      have hset1 := hset (byt L[k].2)
      rw [show (byts (app kept (L.take k))).set L[k].1 (byt L[k].2) = byts (app kept (L.take (k + 1))) from by rw [app_take kept L k hkL]; unfold byts; rw [List.map_set]] at hset1
      have hbS : Below w.heap.size w (wr.setCell ⟨g, L[k].1, none⟩ (byt L[k].2)) := Chg.toBelow (S := fun j => j = g) (Chg.set (S := fun j => j = g) (Chg.refl _ _) rfl _ _) hb (fun j e => by rw [e]; exact hg) hb.size
      obtain ⟨p1, p2⟩ := putCells_get L k hkL
      have hpl := putCells_length L
      have c1 : wr.drew.cell? ⟨R, 1, none⟩ = some (.slice lA L.length lc) := hR.dev.cell 1
      obtain ⟨al, rfl, _, hq1⟩ := (Rd.of_own hR.row).at_ (k := k * 2) (by omega)
      obtain ⟨gl, rfl⟩ := own_addr hR.row _ rfl
      obtain ⟨al2, e2, _, hq2⟩ := (Rd.of_own hR.row).at_ (k := k * 2 + 1) (by omega)
      injection e2 with e2
      subst e2
      rw [addr_add, Nat.zero_add] at hq1 hq2
      have hq1' : wr.drew.cell? ⟨gl, k * 2, none⟩ = some (.int .i64 (L[k].1 : Nat)) := by
        have : (putCells L)[k * 2]'(by omega) = .int .i64 (L[k].1 : Nat) := by
          rw [List.getElem?_eq_getElem (by omega)] at p1; injection p1
        rw [← this]; exact hq1
      have hq2' : wr.drew.cell? ⟨gl, k * 2 + 1, none⟩ = some (.int .u8 (L[k].2.toNat : Nat)) := by
        have : (putCells L)[k * 2 + 1]'(by omega) = .int .u8 (L[k].2.toNat : Nat) := by
          rw [List.getElem?_eq_getElem (by omega)] at p2; injection p2
        rw [← this]; exact hq2
      have r2 : (k : Int) < (L.length : Int) := by omega
      have r3 : (L[k].1 : Int) < (kept.length : Int) := by omega
      have gf : wr.drew.frozen? ⟨g, L[k].1, none⟩ = false := hgf
      have gc : ∃ v, wr.drew.cell? ⟨g, L[k].1, none⟩ = some v := ⟨_, by rw [show wr.drew.cell? ⟨g, L[k].1, none⟩ = wr.cell? ⟨g, L[k].1, none⟩ from rfl, hgc, List.getElem?_eq_getElem (by simp [byts, app_length]; omega)]⟩
      obtain ⟨v0, gc⟩ := gc
      have hkb : k ≤ 2000000 := by omega
      generalize L[k].1 = q at *
      generalize L[k].2 = u at *
      unfold byt at hset1 hbS
      clear hset hgc hgf p1 p2 hq1 hq2 hR
      go_upto_region 5 with fail
      go_region_law (fail)
      all_goals (go_wp2_with fail; go_roundg (n - (k + 1)); (case measure => omega); (case rel =>
        first
          | exact ⟨k + 1, rfl, by omega, by go_num, hset1, hbS⟩
          | exact ⟨k + 1, rfl, by omega, by go_num, own_below hset1 (Below.refl _ _).drew, hbS.drew⟩))
    · obtain rfl : k = n := by omega
      have r1 : ¬ (k : Int) < (k : Int) := by omega
      go_wp2_with fail
      go_ret
      exact ⟨A2, c2, rfl, ho, hb⟩

theorem all_any (w : World) (B R G : Nat) (kept : List UInt8) (L : List (Nat × UInt8)) (kA : Option Addr) (kc : Nat) (lA : Option Addr) (lc : Nat) (h : RfAt w B R G kept L kA kc lA lc) (hbl : kept.length ≤ 67108864) (hlt : ∀ p ∈ L, p.1 < kept.length) (hLs : L.length ≤ 2000000) :
    Calls Try.prog 30 #[.pointer (some ⟨R, 0, none⟩)] w fun e w' => ∃ A' c', e = .returned (.slice A' kept.length c') ∧ w'.ownsRow w.heap.size 5 1 (.slice A' kept.length c') kept.length (byts (app kept L)) ∧ Below w.heap.size w w' := by
  have hn := now_any w B R G kept L kA kc lA lc h hbl hlt L.length (Nat.le_refl _) hLs
  rw [List.take_length] at hn
  have c1 : w.cell? ⟨R, 1, none⟩ = some (.slice lA L.length lc) := h.dev.cell 1
  go_enter Try.func30, Try.ntmps30
  go_wp2_with (go_at_call 56; refine hn.mono ?_; rintro e w2 ⟨A2, c2, rfl, ho2, hb2⟩)
  go_ret
  exact ⟨A2, c2, rfl, ho2, hb2⟩
theorem refPersist_ok (w : World) (B R G : Nat) (kept : List UInt8) (L : List (Nat × UInt8)) (kA : Option Addr) (kc : Nat) (lA : Option Addr) (lc : Nat) (h : RfAt w B R G kept L kA kc lA lc) (hbl : kept.length ≤ 67108864) (hlt : ∀ p ∈ L, p.1 < kept.length) (hLs : L.length ≤ 2000000) (hG : G < w.heap.size) :
    Calls Try.prog 22 #[.pointer (some ⟨R, 0, none⟩)] w fun e w' => e = .returned (.tuple #[]) ∧ (∃ kA' kc', RfAt w' B R G (app kept L) [] kA' kc' none 0) ∧ ChgR B w w' := by
  have hal := all_any w B R G kept L kA kc lA lc h hbl hlt hLs
  go_enter Try.func22, Try.ntmps22
  go_wp2_with (go_at_call 30; refine hal.mono ?_; rintro e w2 ⟨A2, c2, rfl, ho2, hb2⟩; have h2 := h.below hb2; have f0 := h2.dev.frozen 0; have f1 := h2.dev.frozen 1; have x0 := h2.dev.cell 0; have x1 := h2.dev.cell 1)
  go_end0
  have hc : Chg (fun j => j = R) w2 ((w2.setCell ⟨R, 0, none⟩ (.slice A2 kept.length c2)).setCell ⟨R, 1, none⟩ (.slice none 0 0)) := Chg.set (S := fun j => j = R) (Chg.set (S := fun j => j = R) (Chg.refl _ _) rfl _ _) rfl _ _
  have hneR : ∀ ad, A2 = some ad → ad.block ≠ R := fun ad e => (own_has ho2 ad e).ne h2.dev.has (by decide)
  refine ⟨rfl, ⟨A2, c2, ?_, ?_, ?_, fun ad e => ⟨?_, ?_⟩, World.ownsRow_nil _ _ _ _, h.low⟩, (ChgR.of_below hb2).trans (ChgR.of hc fun j _ hj => ?_)⟩
  · have := (h2.dev.set 0 (.slice A2 kept.length c2)).set 1 (.slice none 0 0)
    rw [app_length]
    simpa using this
  · exact (Rd.of_own ho2).keepC hc hneR
  · rw [app_length]; exact (own_cap ho2).1
  · exact (own_has ho2 ad e).keep hc (hneR ad e)
  · have := ((own_cap ho2).2.2 ad e).1
    omega
  · rw [show j = R from hj]
    exact ⟨h.low, _, .inl rfl, h2.dev.has⟩
end Go.Proofs.Ytadgaphgomagkaa
