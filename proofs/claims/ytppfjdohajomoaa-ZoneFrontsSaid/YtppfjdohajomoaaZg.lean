/- Drives: Cut. -/
import Derived.Test.YtppfjdohajomoaaZf
namespace Go.Proofs.Ytppfjdohajomoaa
open Go.RowKit
set_option maxHeartbeats 4000000
set_option maxRecDepth 100000

def ints (p : List Int) : List Value := p.map (Value.int .i64)
/-- how many pages of those that were not flushed are kept -/
def keptN (p : List Int) (n : Nat) : Nat := match p with | [] => 0 | x :: _ => if 0 ≤ x then (x % ((n : Int) + 1)).toNat else 0
theorem keptN_le (p : List Int) (n : Nat) : keptN p n ≤ n := by
  unfold keptN
  split
  · omega
  · split
    · rename_i x _ hx
      have h1 := Int.emod_nonneg x (show (n : Int) + 1 ≠ 0 by omega)
      have h2 := Int.emod_lt_of_pos x (show (0 : Int) < (n : Int) + 1 by omega)
      omega
    · omega
def cutz (z : ZS) (m : Nat) : ZS := ⟨z.A, m, z.pg.take m, m⟩
/-- zones cut -/
def cutS : List Int → List ZS → List ZS
  | _, [] => []
  | p, z :: r => if z.pg.length = z.fl then z :: cutS p r else cutz z (z.fl + keptN p (z.pg.length - z.fl)) :: cutS p.tail r

theorem ZRow.cut {w : World} {B m : Nat} {z : ZS} (h : ZRow w B m z) (n : Nat) (hn : n ≤ z.pg.length) (hA : z.A = none → n = 0) : ZRow w B m (cutz z n) := by
  have hrd : Rd w z.A (z.pg.map Sb.val) := by
    rcases h.row with h1 | ⟨A, h1, h2, h3, h4⟩
    · exact Rd.of_own h1
    · injection h1 with e1 _ _; rw [e1]; exact h4
  have hl : (cutz z n).pg.length = n := by simp [cutz]; omega
  refine ⟨?_, h.has, fun s hs => h.pages s (List.mem_of_mem_take hs), by rw [hl]; have := h.few; omega, by rw [hl]; exact Nat.le_refl _⟩
  rw [hl]
  refine .inr ⟨z.A, rfl, hA, by simp [cutz]; omega, ?_⟩
  have := hrd.take n
  simpa [cutz, List.map_take] using this
theorem ZRow.cap {w : World} {B m : Nat} {z : ZS} (h : ZRow w B m z) : z.pg.length ≤ z.c ∧ (z.A = none → z.pg.length = 0) := by
  rcases h.row with h1 | ⟨A, h1, h2, h3, h4⟩
  · refine ⟨(own_cap h1).1, fun e => ?_⟩
    rcases h1.2 with ⟨_, h0⟩ | ⟨g, cap, cur, h0, _⟩
    · exact h0
    · injection h0 with h0 _ _; rw [e] at h0; cases h0
  · injection h1 with e1 _ e2
    exact ⟨by omega, fun e => h2 (by rw [← e1]; exact e)⟩

theorem cut_set {zs dn : List ZS} {k : Nat} (hk : k < zs.length) (hd : dn.length = k) (z : ZS) : (dn ++ zs.drop k).set k z = (dn ++ [z]) ++ zs.drop (k + 1) := by
  have h : zs.drop k = zs[k] :: zs.drop (k + 1) := List.drop_eq_getElem_cons hk
  rw [List.set_append, if_neg (by omega), hd, Nat.sub_self, h, List.append_assoc]
  rfl
theorem cut_get {zs dn : List ZS} {k : Nat} (hk : k < zs.length) (hd : dn.length = k) : (dn ++ zs.drop k)[k]'(by simp; omega) = zs[k] := by
  rw [List.getElem_append_right (by omega)]
  simp [hd]
theorem Rd.nil_ints (w : World) (A : Option Addr) : Rd w A (ints []) := fun h => absurd rfl h
theorem Rd.tail {w : World} {A : Option Addr} {c : Nat} {x : Int} {p : List Int} (h : Rd w A (ints (x :: p))) (hc : (x :: p).length ≤ c) : Rd w (if c = 1 then A else A.map fun a => ⟨a.block, a.off + 1, none⟩) (ints p) := by
  have := h.drop 1 c (by simpa [ints] using hc)
  simpa [ints, Addr.add] using this

theorem cut_any (w : World) (B D Z P pages size : Nat) (lost : Bool) (zs : List ZS) (A : Option Addr) (c : Nat) (p : List Int) (h : DrAt w B D Z P pages size lost zs) (hp : Rd w A (ints p)) (hpc : p.length ≤ c) (hpZ : p ≠ [] → ∀ ad, A = some ad → ad.block ≠ Z) (hpx : ∀ x ∈ p, x ≤ 9223372036854775807) (_hpl : p.length ≤ 140737488351232) :
    Calls Try.prog 47 #[.pointer (some ⟨D, 0, none⟩), .slice A p.length c] w fun e w' => e = .returned (.tuple #[]) ∧ DrAt w' B D Z P pages size lost (cutS p zs) ∧ Chg (fun k => k = Z) w w' := by
  have c1 := h.c1
  have hzl := h.most.2
  have hpg := h.most.1
  generalize hR : cutS p zs = R
  have HR := Lib.hid hR
  clear hR
  go_enter Try.func47, Try.ntmps47
  go_wp2
  clear c1
  go_loopg [1, 13] zs.length (fun g s1 s13 wr => ∃ (k : Nat) (dn : List ZS) (p' : List Int) (A' : Option Addr) (c' : Nat), g = zs.length - k ∧ s13 = .int .i64 (k : Nat) ∧ k ≤ zs.length ∧ dn.length = k ∧ s1 = .slice A' p'.length c' ∧ Rd wr A' (ints p') ∧ p'.length ≤ c' ∧ (p' ≠ [] → ∀ ad, A' = some ad → ad.block ≠ Z) ∧ (∀ x ∈ p', x ≤ 9223372036854775807) ∧ p'.length ≤ p.length ∧
    DrAt wr B D Z P pages size lost (dn ++ zs.drop k) ∧ dn ++ cutS p' (zs.drop k) = R ∧ Chg (fun k => k = Z) w wr)
  case atStart => exact ⟨0, [], p, A, c, rfl, rfl, by omega, rfl, rfl, hp, hpc, hpZ, hpx, Nat.le_refl _, h, HR.out, Chg.refl _ _⟩
  case round =>
    clear HR h hp hpc hpZ hpx
    obtain ⟨k, dn, p', A', c', rfl, rfl, hk, hdn, rfl, hrp, hpc, hpZ, hpx, hpp, hD, hR, hc⟩ := hrel
    by_cases hkl : k < zs.length
    · have hlen : (dn ++ zs.drop k).length = zs.length := by simp; omega
      have c1 := hD.c1
      have z0 := hD.z0 k (by omega)
      have z1 := hD.z1 k (by omega)
      have hz := hD.rows k (by omega)
      have fz0 : wr.frozen? ⟨Z, k * 2, none⟩ = false := hD.zon.frozen _
      have fz1 : wr.frozen? ⟨Z, k * 2 + 1, none⟩ = false := hD.zon.frozen _
      have hz0l := (zcells_get (dn ++ zs.drop k) k (by omega)).1
      have hzll : k * 2 + 1 < (zcells (dn ++ zs.drop k)).length := by rw [zcells_length, hlen]; omega
      rw [cut_get hkl hdn] at z0 z1 hz hz0l
      rw [hlen] at c1
      have hdrop : zs.drop k = zs[k] :: zs.drop (k + 1) := List.drop_eq_getElem_cons hkl
      have hR2 : dn ++ cutS p' (zs[k] :: zs.drop (k + 1)) = R := by rw [← hdrop]; exact hR
      have hput : ∀ (z' : ZS) w', z'.A = zs[k].A → ZRow wr B pages z' → Blk w' Z 154 (zcells ((dn ++ zs.drop k).set k z')).toArray → Chg (fun k => k = Z) wr w' → DrAt w' B D Z P pages size lost ((dn ++ [z']) ++ zs.drop (k + 1)) := fun z' w' ha hz' hb hc => by
        rw [← cut_set hkl hdn z']
        exact hD.put (by omega) z' (by rw [cut_get hkl hdn]; exact ha) hz' hb hc
      have hcells : ∀ m, zcells ((dn ++ zs.drop k).set k (cutz zs[k] m)) = ((zcells (dn ++ zs.drop k)).set (k * 2) (.slice zs[k].A (zs[k].pg.take m).length m)).set (k * 2 + 1) (.int .i64 (m : Nat)) := fun m => zcells_set _ k (by omega) _
      have hd1 : (dn ++ [zs[k]]).length = k + 1 := by simp [hdn]
      have hzap : dn ++ zs.drop k = (dn ++ [zs[k]]) ++ zs.drop (k + 1) := by rw [hdrop, List.append_assoc]; rfl
      have j1 : (k : Int) < (zs.length : Int) := by omega
      have hcap := hz.cap
      have hfl := hz.fl
      have hfew := hz.few
      have hdl : ∀ z', (dn ++ [z']).length = k + 1 := fun z' => by simp [hdn]
      generalize zs[k] = z at *
      generalize hdk : dn ++ zs.drop k = cur at *
      rw [cutS] at hR2
      obtain ⟨n, hn⟩ : ∃ n, z.pg.length - z.fl = n := ⟨_, rfl⟩
      rw [hn] at hR2
      have hsub : (z.pg.length : Int) - (z.fl : Int) = (n : Int) := by omega
      have hwr : IntKind.i64.wrap (n : Int) = (n : Int) := IntWalk.i64_in _ (by omega)
      have HK := Lib.hid hdn
      have HDK := Lib.hid hdk
      have HZ0 := Lib.hid hz0l
      have HZL := Lib.hid hzll
      clear hz0l hzll
      clear hdrop hR hlen hdn hdk
      by_cases hn0 : n = 0
      · have k0 : ((n : Int) == 0) = true := by simp [hn0]
        rw [if_pos (by omega)] at hR2
        have HR2 := Lib.hid hR2
        have HZ := Lib.hid hzap
        have HD1 := Lib.hid hd1
        have HN := Lib.hid hn
        clear hR2 hzap hd1 hn hn0 hput hcells hdl
        go_wp2_with fail
        go_quiet (fail)
        go_wp2
        go_roundg (zs.length - (k + 1))
        case measure => omega
        case rel =>
          refine ⟨k + 1, dn ++ [z], p', A', c', rfl, by go_num, by omega, HD1.out, rfl, hrp.drewN _, hpc, hpZ, hpx, hpp, ?_, by rw [List.append_assoc]; exact HR2.out, hc.drewN _⟩
          rw [← HZ.out]
          exact hD.keep (S := fun _ => False) ((Chg.refl _ _).drewN _) (fun _ h => h.elim) (fun _ _ h => h)
      · have k0 : ((n : Int) == 0) = false := by simp [hn0]
        rw [if_neg (by omega)] at hR2
        have hkn := keptN_le p' n
        obtain ⟨kp, hkp⟩ : ∃ kp, keptN p' n = kp := ⟨_, rfl⟩
        rw [hkp] at hkn hR2
        obtain ⟨m, hm⟩ : ∃ m, z.fl + kp = m := ⟨_, rfl⟩
        rw [hm] at hR2
        have hmp : m ≤ z.pg.length := by omega
        have hm4 : m ≤ 4096 := by omega
        have hm' : (z.fl : Int) + (kp : Int) = (m : Int) := by omega
        have HM := Lib.hid hm
        have hput' := hput (cutz z m)
        have hcz := hz.cut m hmp (fun e => by have := hcap.2 e; omega)
        have hcl := hcells m
        have htl : (z.pg.take m).length = m := by rw [List.length_take]; omega
        rw [htl] at hcl
        have hm1 : (m : Int) ≤ (z.c : Int) := by have := hcap.1; omega
        have hlt := hdl (cutz z m)
        have HN := Lib.hid hn
        have HN0 := Lib.hid hn0
        have hn4 : n ≤ 4096 := by omega
        have HCL := Lib.hid hcl
        have HLT := Lib.hid hlt
        have HR2 := Lib.hid hR2
        have HTL := Lib.hid htl
        clear hput hcells hdl hm hn hn0 hR2 hzap hd1 hcl hlt htl
        rcases p' with _ | ⟨x, r⟩
        · have HKP := Lib.hid (show kp = 0 from by rw [← hkp]; rfl)
          obtain rfl : kp = 0 := HKP.out
          obtain rfl : m = z.fl := by omega
          clear hkp hm' HKP
          go_wp2_with fail
          go_quiet (fail)
          have hB5 := (hD.zon.drewN nq).set (k * 2 + 1) (.int .i64 (z.fl : Nat))
          have hW5 : Chg (fun k => k = Z) wr ((wr.drewN nq).setCell ⟨Z, k * 2 + 1, none⟩ (.int .i64 (z.fl : Nat))) := Chg.set (S := fun k => k = Z) (Chg.drewN (Chg.refl _ _) nq) rfl _ _
          go_upto_region 12 with fail
          generalize (wr.drewN nq).setCell ⟨Z, k * 2 + 1, none⟩ (.int .i64 (z.fl : Nat)) = W5 at *
          have hB5' : Blk W5 Z 154 ((zcells cur).set (k * 2 + 1) (.int .i64 (z.fl : Nat))).toArray := by simpa using hB5
          clear hB5
          have y0 : W5.cell? ⟨Z, k * 2, none⟩ = some (.slice z.A z.pg.length z.c) := by
            rw [hB5'.cell, List.getElem?_toArray, List.getElem?_set_ne (by omega)]
            exact HZ0.out
          have y1 : W5.cell? ⟨Z, k * 2 + 1, none⟩ = some (.int .i64 (z.fl : Nat)) := by
            rw [hB5'.cell, List.getElem?_toArray, List.getElem?_set_self HZL.out]
          have g0 : W5.frozen? ⟨Z, k * 2, none⟩ = false := hB5'.frozen _
          have hB6 := hB5'.set (k * 2) (.slice z.A z.fl z.fl)
          have hB6' : Blk (W5.setCell ⟨Z, k * 2, none⟩ (.slice z.A z.fl z.fl)) Z 154 (zcells (cur.set k (cutz z z.fl))).toArray := by
            rw [HCL.out, List.set_comm _ _ (by omega)]
            simpa using hB6
          have hD6 := Lib.hid (hput' _ rfl hcz hB6' (Chg.set (S := fun k => k = Z) hW5 rfl _ _))
          clear hB6 hB6' hput'
          go_region
          all_goals
            go_wp2
            go_roundg (zs.length - (k + 1))
            case measure => omega
            case rel =>
              refine ⟨k + 1, dn ++ [cutz z z.fl], [], A', c', rfl, by go_num, by omega, HLT.out, rfl, ?_, hpc, (fun h => absurd rfl h), hpx, hpp, hD6.out.drew, by rw [List.append_assoc]; exact HR2.out, (Chg.set (S := fun k => k = Z) (hc.trans hW5) rfl _ _).drew⟩
              exact Rd.nil_ints _ _
        · by_cases hx : 0 ≤ x
          · have HKP := Lib.hid (show ((kp : Nat) : Int) = x % ((n : Int) + 1) from by
              rw [← hkp]
              simp only [keptN, if_pos hx]
              have h1 := Int.emod_nonneg x (show (n : Int) + 1 ≠ 0 by omega)
              omega)
            have hkx : x % ((n : Int) + 1) = (kp : Int) := HKP.out.symm
            clear hkp
            obtain ⟨ad0, hA0, _, hcell0⟩ := hrp (by simp [ints])
            subst hA0
            have q0 : wr.cell? (ad0.add 0) = some (.int .i64 x) := hcell0 0 _ rfl
            have hq0 : ad0.add 0 = ad0 := by simp [Addr.add]
            rw [hq0] at q0
            have hrl : ((x :: r).length : Int) = (r.length : Int) + 1 := by simp
            have hrl2 : r.length + 1 ≤ c' := by simpa using hpc
            have hrl3 : r.length ≤ p.length := by simp at hpp; omega
            have hpx2 : ∀ x ∈ r, x ≤ 9223372036854775807 := fun y hy => hpx y (List.mem_cons_of_mem _ hy)
            have hx9 := hpx x List.mem_cons_self
            have hrt := hrp.tail hpc
            clear hcell0 hq0
            by_cases hc1 : c' = 1
            · subst hc1
              obtain rfl : r = [] := List.eq_nil_of_length_eq_zero (by omega)
              clear hrt
              go_wp2_with fail
              go_quiet (fail)
              have hB5 := (hD.zon.drewN nq).set (k * 2 + 1) (.int .i64 (m : Nat))
              have hW5 : Chg (fun k => k = Z) wr ((wr.drewN nq).setCell ⟨Z, k * 2 + 1, none⟩ (.int .i64 (m : Nat))) := Chg.set (S := fun k => k = Z) (Chg.drewN (Chg.refl _ _) nq) rfl _ _
              go_upto_region 12 with fail
              generalize (wr.drewN nq).setCell ⟨Z, k * 2 + 1, none⟩ (.int .i64 (m : Nat)) = W5 at *
              have hB5' : Blk W5 Z 154 ((zcells cur).set (k * 2 + 1) (.int .i64 (m : Nat))).toArray := by simpa using hB5
              clear hB5
              have y0 : W5.cell? ⟨Z, k * 2, none⟩ = some (.slice z.A z.pg.length z.c) := by
                rw [hB5'.cell, List.getElem?_toArray, List.getElem?_set_ne (by omega)]
                exact HZ0.out
              have y1 : W5.cell? ⟨Z, k * 2 + 1, none⟩ = some (.int .i64 (m : Nat)) := by
                rw [hB5'.cell, List.getElem?_toArray, List.getElem?_set_self HZL.out]
              have g0 : W5.frozen? ⟨Z, k * 2, none⟩ = false := hB5'.frozen _
              have hB6 := hB5'.set (k * 2) (.slice z.A m m)
              have hB6' : Blk (W5.setCell ⟨Z, k * 2, none⟩ (.slice z.A m m)) Z 154 (zcells (cur.set k (cutz z m))).toArray := by
                rw [HCL.out, List.set_comm _ _ (by omega)]
                simpa using hB6
              have hD6 := Lib.hid (hput' _ rfl hcz hB6' (Chg.set (S := fun k => k = Z) hW5 rfl _ _))
              clear hB6 hB6' hput'
              go_region
              all_goals
                go_wp2
                go_roundg (zs.length - (k + 1))
                case measure => omega
                case rel =>
                  refine ⟨k + 1, dn ++ [cutz z m], [], some ad0, 0, rfl, by go_num, by omega, HLT.out, rfl, ?_, by simp, (fun h => absurd rfl h), (by simp), hrl3, hD6.out.drew, by rw [List.append_assoc]; exact HR2.out, (Chg.set (S := fun k => k = Z) (hc.trans hW5) rfl _ _).drew⟩
                  exact Rd.nil_ints _ _
            · rw [if_neg hc1, Option.map_some] at hrt
              have hpZ2 : ∀ ad, (some ⟨ad0.block, ad0.off + 1, none⟩ : Option Addr) = some ad → ad.block ≠ Z := fun ad e => by
                injection e with e
                subst e
                exact hpZ (by simp) ad0 rfl
              go_wp2_with fail
              go_quiet (fail)
              have hB5 := (hD.zon.drewN nq).set (k * 2 + 1) (.int .i64 (m : Nat))
              have hW5 : Chg (fun k => k = Z) wr ((wr.drewN nq).setCell ⟨Z, k * 2 + 1, none⟩ (.int .i64 (m : Nat))) := Chg.set (S := fun k => k = Z) (Chg.drewN (Chg.refl _ _) nq) rfl _ _
              go_upto_region 12 with fail
              generalize (wr.drewN nq).setCell ⟨Z, k * 2 + 1, none⟩ (.int .i64 (m : Nat)) = W5 at *
              have hB5' : Blk W5 Z 154 ((zcells cur).set (k * 2 + 1) (.int .i64 (m : Nat))).toArray := by simpa using hB5
              clear hB5
              have y0 : W5.cell? ⟨Z, k * 2, none⟩ = some (.slice z.A z.pg.length z.c) := by
                rw [hB5'.cell, List.getElem?_toArray, List.getElem?_set_ne (by omega)]
                exact HZ0.out
              have y1 : W5.cell? ⟨Z, k * 2 + 1, none⟩ = some (.int .i64 (m : Nat)) := by
                rw [hB5'.cell, List.getElem?_toArray, List.getElem?_set_self HZL.out]
              have g0 : W5.frozen? ⟨Z, k * 2, none⟩ = false := hB5'.frozen _
              have hB6 := hB5'.set (k * 2) (.slice z.A m m)
              have hB6' : Blk (W5.setCell ⟨Z, k * 2, none⟩ (.slice z.A m m)) Z 154 (zcells (cur.set k (cutz z m))).toArray := by
                rw [HCL.out, List.set_comm _ _ (by omega)]
                simpa using hB6
              have hD6 := Lib.hid (hput' _ rfl hcz hB6' (Chg.set (S := fun k => k = Z) hW5 rfl _ _))
              clear hB6 hB6' hput'
              go_region
              all_goals
                go_wp2
                go_roundg (zs.length - (k + 1))
                case measure => omega
                case rel =>
                  refine ⟨k + 1, dn ++ [cutz z m], r, some ⟨ad0.block, ad0.off + 1, none⟩, c' - 1, rfl, by go_num, by omega, HLT.out, rfl, ?_, by omega, (fun _ => hpZ2), hpx2, hrl3, hD6.out.drew, by rw [List.append_assoc]; exact HR2.out, (Chg.set (S := fun k => k = Z) (hc.trans hW5) rfl _ _).drew⟩
                  exact Rd.drew (Rd.setCell ((hrt).keepC hW5 (fun ad e => hpZ2 ad e)) _ (fun ad e => hpZ2 ad e))
          · have HKP := Lib.hid (show kp = 0 from by rw [← hkp]; simp only [keptN, if_neg hx])
            obtain rfl : kp = 0 := HKP.out
            obtain rfl : m = z.fl := by omega
            clear hkp hm' HKP
            obtain ⟨ad0, hA0, _, hcell0⟩ := hrp (by simp [ints])
            subst hA0
            have q0 : wr.cell? (ad0.add 0) = some (.int .i64 x) := hcell0 0 _ rfl
            have hq0 : ad0.add 0 = ad0 := by simp [Addr.add]
            rw [hq0] at q0
            have hrl : ((x :: r).length : Int) = (r.length : Int) + 1 := by simp
            have hrl2 : r.length + 1 ≤ c' := by simpa using hpc
            have hrl3 : r.length ≤ p.length := by simp at hpp; omega
            have hpx2 : ∀ x ∈ r, x ≤ 9223372036854775807 := fun y hy => hpx y (List.mem_cons_of_mem _ hy)
            have hx9 := hpx x List.mem_cons_self
            have hrt := hrp.tail hpc
            clear hcell0 hq0
            by_cases hc1 : c' = 1
            · subst hc1
              obtain rfl : r = [] := List.eq_nil_of_length_eq_zero (by omega)
              clear hrt
              go_wp2_with fail
              go_quiet (fail)
              have hB5 := (hD.zon.drewN nq).set (k * 2 + 1) (.int .i64 (z.fl : Nat))
              have hW5 : Chg (fun k => k = Z) wr ((wr.drewN nq).setCell ⟨Z, k * 2 + 1, none⟩ (.int .i64 (z.fl : Nat))) := Chg.set (S := fun k => k = Z) (Chg.drewN (Chg.refl _ _) nq) rfl _ _
              go_upto_region 12 with fail
              generalize (wr.drewN nq).setCell ⟨Z, k * 2 + 1, none⟩ (.int .i64 (z.fl : Nat)) = W5 at *
              have hB5' : Blk W5 Z 154 ((zcells cur).set (k * 2 + 1) (.int .i64 (z.fl : Nat))).toArray := by simpa using hB5
              clear hB5
              have y0 : W5.cell? ⟨Z, k * 2, none⟩ = some (.slice z.A z.pg.length z.c) := by
                rw [hB5'.cell, List.getElem?_toArray, List.getElem?_set_ne (by omega)]
                exact HZ0.out
              have y1 : W5.cell? ⟨Z, k * 2 + 1, none⟩ = some (.int .i64 (z.fl : Nat)) := by
                rw [hB5'.cell, List.getElem?_toArray, List.getElem?_set_self HZL.out]
              have g0 : W5.frozen? ⟨Z, k * 2, none⟩ = false := hB5'.frozen _
              have hB6 := hB5'.set (k * 2) (.slice z.A z.fl z.fl)
              have hB6' : Blk (W5.setCell ⟨Z, k * 2, none⟩ (.slice z.A z.fl z.fl)) Z 154 (zcells (cur.set k (cutz z z.fl))).toArray := by
                rw [HCL.out, List.set_comm _ _ (by omega)]
                simpa using hB6
              have hD6 := Lib.hid (hput' _ rfl hcz hB6' (Chg.set (S := fun k => k = Z) hW5 rfl _ _))
              clear hB6 hB6' hput'
              go_region
              all_goals
                go_wp2
                go_roundg (zs.length - (k + 1))
                case measure => omega
                case rel =>
                  refine ⟨k + 1, dn ++ [cutz z z.fl], [], some ad0, 0, rfl, by go_num, by omega, HLT.out, rfl, ?_, by simp, (fun h => absurd rfl h), (by simp), hrl3, hD6.out.drew, by rw [List.append_assoc]; exact HR2.out, (Chg.set (S := fun k => k = Z) (hc.trans hW5) rfl _ _).drew⟩
                  exact Rd.nil_ints _ _
            · rw [if_neg hc1, Option.map_some] at hrt
              have hpZ2 : ∀ ad, (some ⟨ad0.block, ad0.off + 1, none⟩ : Option Addr) = some ad → ad.block ≠ Z := fun ad e => by
                injection e with e
                subst e
                exact hpZ (by simp) ad0 rfl
              go_wp2_with fail
              go_quiet (fail)
              have hB5 := (hD.zon.drewN nq).set (k * 2 + 1) (.int .i64 (z.fl : Nat))
              have hW5 : Chg (fun k => k = Z) wr ((wr.drewN nq).setCell ⟨Z, k * 2 + 1, none⟩ (.int .i64 (z.fl : Nat))) := Chg.set (S := fun k => k = Z) (Chg.drewN (Chg.refl _ _) nq) rfl _ _
              go_upto_region 12 with fail
              generalize (wr.drewN nq).setCell ⟨Z, k * 2 + 1, none⟩ (.int .i64 (z.fl : Nat)) = W5 at *
              have hB5' : Blk W5 Z 154 ((zcells cur).set (k * 2 + 1) (.int .i64 (z.fl : Nat))).toArray := by simpa using hB5
              clear hB5
              have y0 : W5.cell? ⟨Z, k * 2, none⟩ = some (.slice z.A z.pg.length z.c) := by
                rw [hB5'.cell, List.getElem?_toArray, List.getElem?_set_ne (by omega)]
                exact HZ0.out
              have y1 : W5.cell? ⟨Z, k * 2 + 1, none⟩ = some (.int .i64 (z.fl : Nat)) := by
                rw [hB5'.cell, List.getElem?_toArray, List.getElem?_set_self HZL.out]
              have g0 : W5.frozen? ⟨Z, k * 2, none⟩ = false := hB5'.frozen _
              have hB6 := hB5'.set (k * 2) (.slice z.A z.fl z.fl)
              have hB6' : Blk (W5.setCell ⟨Z, k * 2, none⟩ (.slice z.A z.fl z.fl)) Z 154 (zcells (cur.set k (cutz z z.fl))).toArray := by
                rw [HCL.out, List.set_comm _ _ (by omega)]
                simpa using hB6
              have hD6 := Lib.hid (hput' _ rfl hcz hB6' (Chg.set (S := fun k => k = Z) hW5 rfl _ _))
              clear hB6 hB6' hput'
              go_region
              all_goals
                go_wp2
                go_roundg (zs.length - (k + 1))
                case measure => omega
                case rel =>
                  refine ⟨k + 1, dn ++ [cutz z z.fl], r, some ⟨ad0.block, ad0.off + 1, none⟩, c' - 1, rfl, by go_num, by omega, HLT.out, rfl, ?_, by omega, (fun _ => hpZ2), hpx2, hrl3, hD6.out.drew, by rw [List.append_assoc]; exact HR2.out, (Chg.set (S := fun k => k = Z) (hc.trans hW5) rfl _ _).drew⟩
                  exact Rd.drew (Rd.setCell ((hrt).keepC hW5 (fun ad e => hpZ2 ad e)) _ (fun ad e => hpZ2 ad e))
    · obtain rfl : k = zs.length := by omega
      rw [List.drop_length, List.append_nil] at hD
      have e : R = dn := by rw [← hR, List.drop_length]; cases p' <;> simp [cutS]
      subst e
      clear hR
      go_wp2
      go_end0
      exact ⟨rfl, hD, hc⟩
end Go.Proofs.Ytppfjdohajomoaa
