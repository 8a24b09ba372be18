/- Drives: Flush, Cut. -/
import Derived.Test.YtppfjdohajomoaaZe
namespace Go.Proofs.Ytppfjdohajomoaa
open Go.RowKit
set_option maxHeartbeats 4000000
set_option maxRecDepth 100000

def flz (z : ZS) : ZS := { z with fl := z.pg.length }
/-- the first k zones flushed -/
def flN (zs : List ZS) (k : Nat) : List ZS := (zs.take k).map flz ++ zs.drop k
theorem flN_length (zs : List ZS) (k : Nat) (h : k ≤ zs.length) : (flN zs k).length = zs.length := by simp [flN]; omega
theorem flN_zero (zs : List ZS) : flN zs 0 = zs := by simp [flN]
theorem flN_all (zs : List ZS) : flN zs zs.length = zs.map flz := by simp [flN]
theorem flN_get (zs : List ZS) (k : Nat) (h : k < zs.length) : (flN zs k)[k]'(by rw [flN_length _ _ (by omega)]; exact h) = zs[k] := by
  unfold flN
  rw [List.getElem_append_right (by simp; omega)]
  simp only [List.length_map, List.length_take, Nat.min_eq_left (show k ≤ zs.length by omega), Nat.sub_self, List.getElem_drop, Nat.add_zero]
theorem flN_succ (zs : List ZS) (k : Nat) (h : k < zs.length) : (flN zs k).set k (flz zs[k]) = flN zs (k + 1) := by
  unfold flN
  rw [List.set_append, if_neg (by simp; omega), List.length_map, List.length_take, Nat.min_eq_left (by omega), Nat.sub_self, List.take_succ_eq_append_getElem h, List.map_append, List.append_assoc]
  congr 1
  have hd : zs.drop k = zs[k] :: zs.drop (k + 1) := List.drop_eq_getElem_cons h
  rw [hd]
  rfl
theorem zcells_set2 (zs : List ZS) (n : Nat) (hn : n < zs.length) (v : Nat) : zcells (zs.set n { zs[n] with fl := v }) = (zcells zs).set (n * 2 + 1) (.int .i64 (v : Nat)) := by
  rw [zcells_set zs n hn]
  have h := (zcells_get zs n hn).1
  apply List.ext_getElem?
  intro i
  by_cases e : i = n * 2 + 1
  · subst e
    have hl : n * 2 + 1 < (zcells zs).length := by rw [zcells_length]; omega
    rw [List.getElem?_set_self (by simpa using hl), List.getElem?_set_self hl]
  · simp only [List.getElem?_set_ne (show n * 2 + 1 ≠ i by omega)]
    by_cases e' : i = n * 2
    · subst e'
      have hl : n * 2 < (zcells zs).length := by rw [zcells_length]; omega
      rw [List.getElem?_set_self hl, h]
    · rw [List.getElem?_set_ne (by omega)]

theorem flush_ok (w : World) (B D Z P pages size : Nat) (zs : List ZS) (armed writes : Nat) (picks devs : Value) (h : DrAt w B D Z P pages size false zs) (hp : PwAt w P false armed picks writes devs) (ha : armed ≠ 1) (ha2 : armed ≤ 9223372036854775807) (hw : writes ≤ 4611686018427387904) :
    Calls Try.prog 46 #[.pointer (some ⟨D, 0, none⟩)] w fun e w' => e = .returned (.int .i64 0) ∧ DrAt w' B D Z P pages size false (zs.map flz) ∧ PwAt w' P false (armed - 1) picks (writes + 1) devs ∧ Chg (fun k => k = P ∨ k = Z) w w' := by
  have hr := ready_any w B D Z P pages size false zs false armed writes picks devs h hp
  rw [show readyE false false = 0 from rfl] at hr
  have hwr := write_ok w P armed writes picks devs hp ha ha2 hw
  have c0 := h.c0
  go_enter Try.func46, Try.ntmps46
  go_upto_region 6 with (first
    | (go_at_call 82; refine hr.mono ?_; rintro e w1 ⟨rfl, rfl⟩)
    | (go_at_call 80; refine hwr.mono ?_; rintro e w2 ⟨rfl, hp2, hch2⟩))
  have h2 := h.keepP hp.blk.has hch2
  have hPZ : P ≠ Z := hp.blk.has.ne h.zon.has (by decide)
  have c1 := h2.c1
  have hzl := h.most.2
  clear hr hwr c0 h hp
  go_wp2
  clear c1
  go_loopg [21] zs.length (fun g s21 wr => ∃ k : Nat, g = zs.length - k ∧ s21 = .int .i64 (k : Nat) ∧ k ≤ zs.length ∧ DrAt wr B D Z P pages size false (flN zs k) ∧ PwAt wr P false (armed - 1) picks (writes + 1) devs ∧ Chg (fun k => k = P ∨ k = Z) w wr)
  case atStart => exact ⟨0, rfl, rfl, by omega, by rw [flN_zero]; exact h2, hp2, hch2.mono fun k _ h => .inl h⟩
  case round =>
    clear h2 hp2 hch2
    obtain ⟨k, rfl, rfl, hk, hD, hP, hc⟩ := hrel
    by_cases hkl : k < zs.length
    · have hlen := flN_length zs k hk
      have c1 := hD.c1
      have z0 := hD.z0 k (by omega)
      have z1 := hD.z1 k (by omega)
      have fz := hD.zon.frozen (k * 2 + 1)
      rw [flN_get zs k hkl] at z0 z1
      rw [hlen] at c1
      have hset := hD.zon.set (k * 2 + 1) (.int .i64 (zs[k].pg.length : Nat))
      have hz := hD.rows k (by omega)
      rw [flN_get zs k hkl] at hz
      have hput : ∀ w', Blk w' Z 154 (zcells ((flN zs k).set k (flz zs[k]))).toArray → Chg (fun k => k = Z) wr w' → DrAt w' B D Z P pages size false ((flN zs k).set k (flz zs[k])) := fun w' hb hc => hD.put (by omega) (flz zs[k]) (by rw [flN_get zs k hkl]; rfl) ⟨hz.row, hz.has, hz.pages, hz.few, Nat.le_refl _⟩ hb hc
      rw [flN_succ zs k hkl] at hput
      have hcells : (zcells (flN zs k)).set (k * 2 + 1) (.int .i64 (zs[k].pg.length : Nat)) = zcells (flN zs (k + 1)) := by
        rw [← flN_succ zs k hkl]
        have := zcells_set2 (flN zs k) k (by omega) zs[k].pg.length
        rw [flN_get zs k hkl] at this
        exact this.symm
      have hset' : Blk (wr.setCell ⟨Z, k * 2 + 1, none⟩ (.int .i64 (zs[k].pg.length : Nat))) Z 154 (zcells (flN zs (k + 1))).toArray := by
        rw [← hcells]
        simpa using hset
      have Hput := Lib.hid (hput _ hset' (Chg.set (S := fun k => k = Z) (Chg.refl _ _) rfl _ _))
      clear hput hset hset' hcells hz hlen
      have j1 : (k : Int) < (zs.length : Int) := by omega
      generalize zs[k] = z at *
      go_wp2_with fail
      go_region
      all_goals
        go_wp2
        go_roundg (zs.length - (k + 1))
        case measure => omega
        case rel => exact ⟨k + 1, rfl, by go_num, by omega, Hput.out.drew, ⟨(hP.blk.far (p := ⟨Z, k * 2 + 1, none⟩) hPZ _).drew⟩, (hc.set (.inr rfl) _ _).drew⟩
    · obtain rfl : k = zs.length := by omega
      rw [flN_all] at hD
      go_wp2
      go_ret
      exact ⟨rfl, hD, hP, hc⟩
end Go.Proofs.Ytppfjdohajomoaa
