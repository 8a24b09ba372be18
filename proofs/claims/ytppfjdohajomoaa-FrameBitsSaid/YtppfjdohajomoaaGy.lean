/- The law FrameBits: its walk. -/
import Derived.Test.YtppfjdohajomoaaGv
import Derived.Test.YtppfjdohajomoaaFq
import Derived.Test.YtppfjdohajomoaaFu
import Derived.Test.YtppfjdohajomoaaPe
import Derived.Outline
namespace Go.Proofs.Ytppfjdohajomoaa
open Go.RowKit
set_option maxHeartbeats 4000000
set_option maxRecDepth 100000

theorem flipF : ∀ (o : Fin 256) (r : Fin 8), (bits .xor .u8 (o.val : Int) (2 ^ r.val % 256) == ((o.val ^^^ 2 ^ r.val : Nat) : Int) && decide (o.val ^^^ 2 ^ r.val < 256) && (o.val ^^^ 2 ^ r.val != o.val)) = true := by decide +kernel
theorem flip8 (old : UInt8) (r : Nat) (hr : r < 8) : ∃ y : UInt8, bits .xor .u8 (old.toNat : Int) (2 ^ r % 256) = (y.toNat : Int) ∧ old ≠ y := by
  have h := flipF ⟨old.toNat, old.toNat_lt⟩ ⟨r, hr⟩
  simp only [Bool.and_eq_true, beq_iff_eq, decide_eq_true_eq, bne_iff_ne] at h
  refine ⟨UInt8.ofNat (old.toNat ^^^ 2 ^ r), ?_, fun e => h.2 ?_⟩
  · rw [h.1.1, UInt8.toNat_ofNat', Nat.mod_eq_of_lt h.1.2]
  · rw [← Nat.mod_eq_of_lt h.1.2, ← UInt8.toNat_ofNat', ← e]

theorem frameBits_any (A : Option Addr) (c : Nat) (size at_ : Int) (x : List UInt8) (w : World) (hx : Rd w A (byts x)) (hxc : x.length ≤ c) (hl : x.length ≤ 140737488351232) :
    Calls Try.prog 13 #[.slice A x.length c, .int .i64 size, .int .i64 at_] w
      fun e w' => e = .returned (.bool true) ∧ Below w.heap.size w w' := by
  have hroom := fun W => room_any size W
  by_cases hr0 : roomN size = 0
  · have g1 : (roomN size == 0) = true := by simp [hr0]
    clear hr0
    generalize roomN size = r at *
    go_enter Try.func13, Try.ntmps13
    go_wp2_with (first | (go_at_call 22; refine (known_any _).mono ?_; rintro e w1 ⟨rfl, hb1⟩) | (go_at_call 35; refine (hroom _).mono ?_; rintro e w1 ⟨rfl, rfl⟩))
    go_ret
    exact ⟨rfl, hb1⟩
  have hrl : roomN size ≤ 65535 ∧ 0 ≤ roomN size ∧ 32 ≤ size ∧ size ≤ 65536 ∧ roomN size = size - 19 := by
    unfold roomN at hr0 ⊢
    by_cases a : size < 32
    · rw [if_pos a] at hr0; simp at hr0
    · rw [if_neg a] at hr0 ⊢
      by_cases a' : 65536 < size
      · rw [if_pos a'] at hr0; simp at hr0
      · rw [if_neg a']; omega
  obtain ⟨hr1, hr2, hs1, hs2, hr3⟩ := hrl
  by_cases hlong : roomN size < (x.length : Int)
  · have g1 : (roomN size == 0) = false := by simp [hr0]
    clear hr0 hr3
    generalize roomN size = r at *
    go_enter Try.func13, Try.ntmps13
    go_wp2_with (first | (go_at_call 22; refine (known_any _).mono ?_; rintro e w1 ⟨rfl, hb1⟩) | (go_at_call 35; refine (hroom _).mono ?_; rintro e w1 ⟨rfl, rfl⟩))
    go_ret
    exact ⟨rfl, hb1⟩
  have hlong' : (x.length : Int) ≤ roomN size := by omega
  by_cases hz : x.length = 0
  · have g1 : (roomN size == 0) = false := by simp [hr0]
    have g2 : ¬ roomN size < (x.length : Int) := hlong
    have g3 : ((x.length : Int) == 0) = true := by simp [hz]
    clear hr0 hr3 hz
    generalize roomN size = r at *
    generalize x.length = xl at *
    go_enter Try.func13, Try.ntmps13
    go_wp2_with (first | (go_at_call 22; refine (known_any _).mono ?_; rintro e w1 ⟨rfl, hb1⟩) | (go_at_call 35; refine (hroom _).mono ?_; rintro e w1 ⟨rfl, rfl⟩))
    go_ret
    exact ⟨rfl, hb1⟩
  by_cases hat : at_ < 0
  · have g1 : (roomN size == 0) = false := by simp [hr0]
    have g3 : ((x.length : Int) == 0) = false := by simp [hz]
    clear hr0 hr3 hz
    generalize roomN size = r at *
    generalize x.length = xl at *
    go_enter Try.func13, Try.ntmps13
    go_wp2_with (first | (go_at_call 22; refine (known_any _).mono ?_; rintro e w1 ⟨rfl, hb1⟩) | (go_at_call 35; refine (hroom _).mono ?_; rintro e w1 ⟨rfl, rfl⟩))
    go_ret
    exact ⟨rfl, hb1⟩
  -- the good way
  obtain ⟨n, rfl⟩ : ∃ n : Nat, size = (n : Int) := ⟨size.toNat, by omega⟩
  obtain ⟨a, rfl⟩ : ∃ a : Nat, at_ = (a : Int) := ⟨at_.toNat, by omega⟩
  have g1 : (roomN (n : Int) == 0) = false := by simp [hr0]
  have g3 : ((x.length : Int) == 0) = false := by simp [hz]
  have hpl : (pageB 3 4 1 x n).length = n := pageB_length _ _ _ _ _ (by omega)
  have hpr : pageR (n : Int) 4 1 3 x = (pageB 3 4 1 x n, 0) := by
    unfold pageR
    rw [if_neg (by omega), if_neg (by omega)]
    rfl
  -- the page with another byte
  have hP : ∀ W : World, Below w.heap.size w W → Calls Try.prog 26 #[.int .i64 (n : Nat), .agg #[.int .u64 3, .int .i64 4, .int .i64 1, .int .i64 0], .slice A x.length c] W fun e w' => ∃ g c'', e = .returned (.tuple #[.slice (some ⟨g, 0, none⟩) n c'', .int .i64 0]) ∧ w'.ownsRow W.heap.size 5 1 (.slice (some ⟨g, 0, none⟩) n c'') n (byts (pageB 3 4 1 x n)) ∧ n ≤ c'' ∧ Below W.heap.size W w' := fun W hW => by
    have h := page_any A c 3 n 4 1 0 x W (hx.below hW) hxc (by omega)
    rw [hpr] at h
    exact h.mono fun e w' h => by
      obtain ⟨A'', c'', out, he, rfl, ho, hb⟩ := h
      rw [hpl] at he ho
      obtain ⟨g, cap, hv, _⟩ := ho.form (by omega)
      injection hv with e1 _ e2
      subst e1 e2
      exact ⟨g, _, he, ho, (own_cap ho).1, hb⟩
  have hRP : ∀ (j : Nat) (hj : j < (pageB 3 4 1 x n).length) (y : UInt8), (pageB 3 4 1 x n)[j] ≠ y → ∀ (W : World) (A'' : Option Addr) (c'' : Nat), Rd W A'' (byts ((pageB 3 4 1 x n).set j y)) → n ≤ c'' → Calls Try.prog 56 #[.slice A'' n c''] W fun e w' => ∃ A' c', e = .returned (.tuple #[.agg #[.int .u64 0, .int .i64 0, .int .i64 0, .int .i64 0], .slice A' 0 c', .int .i64 23]) ∧ Below W.heap.size W w' := fun j hj y hne W A'' c'' h2 h3 => by
    have h := readPage_any A'' c'' ((pageB 3 4 1 x n).set j y) W h2 (by rw [List.length_set, hpl]; exact h3)
    rw [List.length_set, hpl, show rdPage (roomN (n : Int)) ((pageB 3 4 1 x n).set j y) = ((0, 0, 0, 0), [], 23) from rdPage_set _ hr0 _ j hj y hne] at h
    exact h.mono fun e w' h => by
      obtain ⟨A'', c'', out, he, rfl, ho, hb⟩ := h
      exact ⟨A'', c'', he, hb⟩
  generalize hPGe : pageB 3 4 1 x n = PG at *
  clear hPGe hpr hr0 hr3
  generalize hrm : roomN (n : Int) = r at *
  clear hrm hlong
  obtain ⟨i, hi⟩ : ∃ i, a % (8 * n) = i := ⟨_, rfl⟩
  have hin : i < 8 * n := by rw [← hi]; exact Nat.mod_lt _ (by omega)
  have hi' : (a : Int) % (8 * (n : Int)) = (i : Int) := by rw [← hi]; push_cast; rfl
  obtain ⟨j, hj⟩ : ∃ j, i / 8 = j := ⟨_, rfl⟩
  have hjn : j < n := by omega
  have hj' : (i : Int) / 8 = (j : Int) := by omega
  clear hi hj
  obtain ⟨i2, hi⟩ : ∃ i2, a % (8 * x.length) = i2 := ⟨_, rfl⟩
  have hin2 : i2 < 8 * x.length := by rw [← hi]; exact Nat.mod_lt _ (by omega)
  have hi2' : (a : Int) % (8 * (x.length : Int)) = (i2 : Int) := by rw [← hi]; push_cast; rfl
  obtain ⟨j2, hj⟩ : ∃ j, i2 / 8 = j := ⟨_, rfl⟩
  have hjn2 : j2 < x.length := by omega
  have hj2' : (i2 : Int) / 8 = (j2 : Int) := by omega
  clear hi hj
  have hxl : x.length ≤ 65536 := by omega
  have hxb : (x[j2]'hjn2).toNat < 256 := UInt8.toNat_lt _
  -- the record
  have hNl : (numB x.length).length ≤ 10 := (numF_length 9 x.length).1
  have hRl : (recB 9 x).length = (numB x.length).length + 12 + x.length := by
    unfold recB
    simp only [List.length_append, lowB_length]
    omega
  have hset : ∀ y, (recB 9 x).set ((numB x.length).length + 12 + j2) y = numB x.length ++ (lowB (crcB (lowB 9 8 ++ x)) 4 ++ (lowB 9 8 ++ x.set j2 y)) := fun y => by
    unfold recB
    rw [List.set_append, if_neg (by omega), List.set_append, if_neg (by rw [lowB_length]; omega), List.set_append, if_neg (by rw [lowB_length, lowB_length]; omega), lowB_length, lowB_length]
    congr 4
    omega
  have hget : (recB 9 x)[(numB x.length).length + 12 + j2]? = some (x[j2]'hjn2) := by
    unfold recB
    rw [List.getElem?_append_right (by omega), List.getElem?_append_right (by rw [lowB_length]; omega), List.getElem?_append_right (by rw [lowB_length, lowB_length]; omega), lowB_length, lowB_length, List.getElem?_eq_getElem (by omega)]
    congr 2
    omega
  have hR : ∀ W : World, Below w.heap.size w W → Calls Try.prog 33 #[.int .u64 9, .slice A x.length c] W fun e w' => ∃ g c'', e = .returned (.slice (some ⟨g, 0, none⟩) (recB 9 x).length c'') ∧ w'.ownsRow W.heap.size 5 1 (.slice (some ⟨g, 0, none⟩) (recB 9 x).length c'') (recB 9 x).length (byts (recB 9 x)) ∧ (recB 9 x).length ≤ c'' ∧ Below W.heap.size W w' := fun W hW =>
    (record_any A c 9 x W (hx.below hW) (by omega) hxc (by omega)).mono fun e w' h => by
      obtain ⟨A'', c'', out, he, rfl, ho, hb⟩ := h
      obtain ⟨g, cap, hv, _⟩ := ho.form (by omega)
      injection hv with e1 _ e2
      subst e1 e2
      exact ⟨g, _, he, ho, (own_cap ho).1, hb⟩
  have hRD : ∀ (y : UInt8), (x[j2]'hjn2) ≠ y → ∀ (W : World) (A'' : Option Addr) (c'' : Nat), Rd W A'' (byts ((recB 9 x).set ((numB x.length).length + 12 + j2) y)) → (recB 9 x).length ≤ c'' → Calls Try.prog 54 #[.slice A'' (recB 9 x).length c''] W fun e w' => ∃ A' c', e = .returned (.tuple #[.int .u64 0, .slice A' 0 c', .int .i64 0, .int .i64 23]) ∧ Below W.heap.size W w' := fun y hne W A'' c'' h2 h3 => by
    have h := readRecord_any A'' c'' ((recB 9 x).set ((numB x.length).length + 12 + j2) y) W h2 (by rw [List.length_set]; omega) (by rw [List.length_set]; exact h3)
    rw [List.length_set, hset y, rdRec_set 9 x hxl j2 hjn2 y hne] at h
    exact h.mono fun e w' h => by
      obtain ⟨A'', c'', out, he, rfl, ho, hb⟩ := h
      exact ⟨A'', c'', he, hb⟩
  have hk0 : (numB x.length).length + 12 + j2 < (recB 9 x).length := by omega
  have hP0 : ((recB 9 x).length : Int) - (x.length : Int) = (((numB x.length).length + 12 : Nat) : Int) := by omega
  have hP1 : ((((numB x.length).length + 12 : Nat) : Int) + (j2 : Int)) = (((numB x.length).length + 12 + j2 : Nat) : Int) := by omega
  have hRl2 : (recB 9 x).length ≤ 70000 := by omega
  generalize hkk : (numB x.length).length + 12 + j2 = k at *
  generalize (numB x.length).length + 12 = P0 at *
  generalize recB 9 x = RL at *
  generalize hx2 : x[j2]'hjn2 = xo at *
  clear hset hNl hkk hx2
  have hRl3 : (x.length : Int) ≤ (RL.length : Int) := by omega
  clear hRl
  go_enter Try.func13, Try.ntmps13
  go_upto_region 9 with (first | (go_at_call 22; refine (known_any _).mono ?_; rintro e w1 ⟨rfl, hb1⟩) | (go_at_call 35; refine (hroom _).mono ?_; rintro e w1 ⟨rfl, rfl⟩) | (go_at_call 26; refine (hP _ hb1).mono ?_; rintro e w2 ⟨g, c2, rfl, ho2, hc2, hb2⟩))
  have hcell : w2.cell? ⟨g, j, none⟩ = some (byt (PG[j]'(by omega))) := by
    rw [ho2.cellAt j (by omega), byts_get _ _ (by omega)]
  have hfro : w2.frozen? ⟨g, j, none⟩ = false := ho2.frozenAt j
  unfold byt at hcell
  have hb8 : (PG[j]'(by omega)).toNat < 256 := UInt8.toNat_lt _
  generalize hold : PG[j]'(by omega) = old at *
  obtain ⟨y, hy, hne⟩ := flip8 old (i % 8) (Nat.mod_lt _ (by omega))
  go_upto_region 10 with fail
  have hs := ho2.stored j (byt y)
  rw [show (byts PG).set j (byt y) = byts (PG.set j y) from (List.map_set ..).symm] at hs
  unfold byt at hs
  have hz2 : w.heap.size ≤ w2.heap.size := Nat.le_trans hb1.size hb2.size
  have hbw3 : Below w.heap.size w (w2.setCell ⟨g, j, none⟩ (.int .u8 (y.toNat : Int))) := ((hb1.trans (hb2.mono hb1.size))).setCell (Nat.le_trans hb1.size (ho2.lt g (by simp [Value.ownBlock])).1) _
  generalize w2.setCell ⟨g, j, none⟩ (.int .u8 (y.toNat : Int)) = w3 at *
  have hrp := hRP j (by omega) y (by rw [hold]; exact hne) w3 (some ⟨g, 0, none⟩) c2 (Rd.of_own hs.1) hc2
  clear hRP hy hcell hfro hb8 hold hne hs ho2 hj' hi' hP hjn hin hroom hb2
  have hgt : RL.length = RL.length := rfl
  go_upto_region 14 with (first
    | (go_at_call 56; refine hrp.mono ?_; rintro e w4 ⟨A4, c4, rfl, hb4⟩; have hbw4 := hbw3.trans (hb4.mono hbw3.size))
    | (go_at_call 33; refine (hR _ hbw4).mono ?_; rintro e w5 ⟨g5, c5, rfl, ho5, hc5, hb5⟩))
  have hcell : w5.cell? ⟨g5, k, none⟩ = some (byt xo) := by
    rw [ho5.cellAt k (by omega)]
    have h5 : (byts RL)[k]? = RL[k]?.map byt := List.getElem?_map ..
    rw [h5, hget]
    rfl
  have hfro : w5.frozen? ⟨g5, k, none⟩ = false := ho5.frozenAt k
  unfold byt at hcell
  obtain ⟨y2, hy2, hne2⟩ := flip8 xo (i2 % 8) (Nat.mod_lt _ (by omega))
  clear hget hgt
  go_upto_region 15 with fail
  have hs := ho5.stored k (byt y2)
  rw [show (byts RL).set k (byt y2) = byts (RL.set k y2) from (List.map_set ..).symm] at hs
  unfold byt at hs
  have hbw6 : Below w.heap.size w (w5.setCell ⟨g5, k, none⟩ (.int .u8 (y2.toNat : Int))) := ((hbw4.trans (hb5.mono hbw4.size))).setCell (Nat.le_trans hbw4.size (ho5.lt g5 (by simp [Value.ownBlock])).1) _
  generalize w5.setCell ⟨g5, k, none⟩ (.int .u8 (y2.toNat : Int)) = w6 at *
  have hrd := hRD y2 hne2 w6 (some ⟨g5, 0, none⟩) c5 (Rd.of_own hs.1) hc5
  clear hRD hy2 hcell hfro hs ho5
  go_wp2_with (go_at_call 54; refine hrd.mono ?_; rintro e w7 ⟨A7, c7, rfl, hb7⟩)
  go_ret
  exact ⟨rfl, hbw6.trans (hb7.mono hbw6.size)⟩
end Go.Proofs.Ytppfjdohajomoaa
