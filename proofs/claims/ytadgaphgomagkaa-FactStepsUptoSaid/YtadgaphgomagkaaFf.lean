/- The reference's codec: numbers, records; the law's own helpers. -/
import Derived.Test.YtadgaphgomagkaaFe
namespace Go.Proofs.Ytadgaphgomagkaa
open Go.RowKit
set_option maxHeartbeats 1000000
set_option maxRecDepth 100000

theorem refReadNumber_any (A : Option Addr) (c : Nat) (l : List UInt8) (w : World) (hr : Rd w A (byts l)) (hl : l.length ≤ 140737488351232) :
    Calls Try.prog 100 #[.slice A l.length c] w fun e w' => e = .returned (.tuple #[.int .u64 ((rdNum l).1 : Nat), .int .i64 ((rdNum l).2.1 : Nat), .int .i64 ((rdNum l).2.2 : Nat)]) ∧ w = w' := by
  unfold rdNum
  generalize hR : rdF 0 0 l = R
  have HR := Lib.hid hR
  clear hR
  go_enter Try.func100, Try.ntmps100
  go_wp2
  go_loop [5, 6] (fun v i => ∃ k x : Nat, k ≤ l.length ∧ k ≤ 9 ∧ i = .int .i64 k ∧ v = .int .u64 x ∧ x < 2 ^ (7 * k) ∧ rdF k x (l.drop k) = R) (fun _ i => 10 - (intOf i).toNat)
  case atStart => exact ⟨0, 0, by omega, by omega, rfl, rfl, by simp, by simpa using HR.out⟩
  case round =>
    obtain ⟨k, x, hk, hk9, rfl, rfl, hx, hs⟩ := hrel
    clear HR
    by_cases hlt : k < l.length
    · obtain ⟨ad, rfl, hb, hcell⟩ := hr.at_ (k := k) (by rw [byts_length]; omega)
      have hc1 : w.cell? (ad.add k) = some (.int .u8 (l[k].toNat : Int)) := by rw [hcell]; simp [byts, byt]
      rw [List.drop_eq_getElem_cons hlt] at hs
      have hst := rdF_step k x l[k] hx
      clear hcell
      generalize l[k] = b at *
      have hb8 : b.toNat < 256 := b.toNat_lt
      rw [rdF] at hs
      have h127 : bits .and .u64 (b.toNat : Int) 127 = (b.toNat : Int) % 128 := by
        have h := u64_and_nat b.toNat 127 (by omega) (by decide)
        rw [and127 _ hb8] at h
        push_cast at h
        exact h
      by_cases h1 : k = 9 ∧ 1 < b.toNat
      · rw [if_pos h1] at hs
        subst hs
        have h11 := h1.2
        have h9' : 9 ≤ k := by omega
        clear h1
        go_wp2
        go_ret3
        exact ⟨rfl, rfl⟩
      · rw [if_neg h1] at hs
        have hlt64 : x + b.toNat % 128 * 2 ^ (7 * k) < 18446744073709551616 := by
          by_cases h9 : k = 9
          · subst h9
            have hb1 : b.toNat ≤ 1 := by omega
            have : b.toNat % 128 ≤ 1 := Nat.le_trans (Nat.mod_le _ _) hb1
            simp only [Nat.reduceMul, Nat.reducePow] at hx ⊢
            omega
          · have h63 : 2 ^ (7 * (k + 1)) ≤ 2 ^ 63 := Nat.pow_le_pow_right (by omega) (by omega)
            simp only [Nat.reducePow] at h63
            omega
        have hor := or_shift x b.toNat k hx hlt64
        have hor9 : k = 9 → bits .or .u64 (x : Int) ((b.toNat : Int) % 128 * 9223372036854775808) = ((x + b.toNat % 128 * 2 ^ (7 * k) : Nat) : Int) := by
          intro h9
          have h := hor
          rw [IntKind.wrap_u64] at h
          subst h9
          rw [← h]
          congr 1
          simp only [Nat.reduceMul, Nat.reducePow] at hlt64
          omega
        generalize x + b.toNat % 128 * 2 ^ (7 * k) = y at *
        by_cases h2 : b.toNat < 128
        · rw [if_pos h2] at hs
          by_cases h3 : b.toNat = 0 ∧ 0 < k
          · rw [if_pos h3] at hs
            subst hs
            have h33 := h3.2
            have h30 : (b.toNat : Int) = 0 := by omega
            have h31 : b.toNat ≤ 0 := by omega
            clear h3 h30 h1
            by_cases h9 : k = 9
            · have h9' : 9 ≤ k := by omega
              clear h9
              go_wp2
              go_ret3
              exact ⟨rfl, rfl⟩
            · have h9' : ((k : Int) == 9) = false := by simp; omega
              go_wp2
              go_ret3
              exact ⟨rfl, rfl⟩
          · rw [if_neg h3] at hs
            have hs' := hs.symm
            subst hs'
            by_cases h0 : b.toNat = 0
            · have h0' : b.toNat ≤ 0 := by omega
              have hk0 : k ≤ 0 := by omega
              clear h0 h3
              have h9' : ((k : Int) == 9) = false := by simp; omega
              go_wp2
              go_ret3
              exact ⟨rfl, rfl⟩
            · have h0' : ((b.toNat : Int) == 0) = false := by simp; omega
              clear h3
              by_cases h9 : k = 9
              · have hor9' := hor9 h9
                have h9' : 9 ≤ k := by omega
                have hb1 : b.toNat ≤ 1 := by omega
                clear h1 h9
                go_wp2
                go_ret3
                exact ⟨rfl, rfl⟩
              · have h9' : ((k : Int) == 9) = false := by simp; omega
                clear h1
                go_wp2
                go_ret3
                exact ⟨rfl, rfl⟩
        · rw [if_neg h2] at hs
          have h1' : k < 9 := by omega
          have h9' : ((k : Int) == 9) = false := by simp; omega
          have HS := Lib.hid hs
          clear hs
          go_wp2
          go_round
          case rel => exact ⟨k + 1, y, by omega, by omega, by go_num, rfl, hst, HS.out⟩
          case measure => simp [intOf]; omega
    · obtain rfl : k = l.length := by omega
      rw [List.drop_length] at hs
      have hs' : R = (0, 0, 21) := hs.symm
      subst hs'
      go_wp2
      go_ret3
      exact ⟨rfl, rfl⟩

theorem refNumber_any (A : Option Addr) (c v m base : Nat) (xs : List Value) (w : World) (hown : w.ownsRow base 5 1 (.slice A m c) m xs) (hb : base ≤ w.heap.size) (hm : m + 10 ≤ 140737488355328) (hv : v < 18446744073709551616) :
    Calls Try.prog 67 #[.slice A m c, .int .u64 v] w fun e w' => ∃ A' c', e = .returned (.slice A' (m + (numB v).length) c') ∧
      w'.ownsRow base 5 1 (.slice A' (m + (numB v).length) c') (m + (numB v).length) (xs ++ byts (numB v)) ∧ Grew w w' (.slice A m c) (.slice A' (m + (numB v).length) c') := by
  go_enter Try.func67, Try.ntmps67
  go_wp2
  go_loopw [0, 1] (fun b x wr => ∃ (k : Nat) (A' : Option Addr) (c' : Nat), k ≤ 9 ∧ (∀ j, j < k → 128 ≤ v / 128 ^ j) ∧ x = .int .u64 (v / 128 ^ k : Nat) ∧ b = .slice A' (m + k) c' ∧
      wr.ownsRow base 5 1 (.slice A' (m + k) c') (m + k) (xs ++ byts (numP v k)) ∧ Grew w wr (.slice A m c) (.slice A' (m + k) c')) (fun _ x _ => (intOf x).toNat)
  case atStart => exact ⟨0, A, c, by omega, fun k hk => by omega, by simp, rfl, by simpa [numP, byts] using hown, Grew.refl _ _⟩
  case round =>
    obtain ⟨k, A', c', hk9, hk, rfl, rfl, ha, hg⟩ := hrel
    have hsz := hg.grown.size
    by_cases hlt : 128 ≤ v / 128 ^ k
    · have hm9 := num_le9 hv hlt
      have hk' : ∀ j, j < k + 1 → 128 ≤ v / 128 ^ j := fun j hk1 => by
        by_cases e : j = k
        · rw [e]; exact hlt
        · exact hk j (by omega)
      have hP := numP_succ v k
      have hd : v / 128 ^ (k + 1) = v / 128 ^ k / 128 := by rw [Nat.pow_succ, ← Nat.div_div_eq_div_mul]
      have hxv : v / 128 ^ k < 18446744073709551616 := Nat.lt_of_le_of_lt (Nat.div_le_self _ _) hv
      generalize v / 128 ^ k = x at *
      have ho := or8 x
      have HK := Lib.hid hk'
      have HP := Lib.hid hP
      have HD := Lib.hid hd
      clear hk hk' hP hd
      go_wp2_with (first | (at_builtin; refine wpList_app _ rfl _ _ rfl slB base (.slice A' (m + k) c') _ _ rfl (ha.alloc _) _ _ _ [byt (UInt8.ofNat (x % 128 + 128))] rfl rfl (Rd.one _ _ _) (by simp [Value.oneCell', byt]) (by unfold maxLen; omega) (by omega) (by simp; omega) ?_; intro A2 c2 w2 ho2 hg2))
      go_roundw
      case rel => exact ⟨k + 1, A2, c2, by omega, HK.out, by rw [HD.out]; rfl, rfl, by rw [HP.out, byts_append, ← List.append_assoc]; exact ho2, (hg.alloc _).trans hg2⟩
      case measure => simp [intOf]; omega
    · have hN := numB_walk v k hv hk (by omega)
      have hxl : v / 128 ^ k < 128 := by omega
      have hnl : (numP v k).length = k := numP_length v k
      generalize v / 128 ^ k = x at *
      have hbx : byt (UInt8.ofNat x) = .int .u8 (x : Int) := by simp [byt]; omega
      have hLen : (numB v).length = k + 1 := by rw [hN]; simp [hnl]
      have HN := Lib.hid hN
      have HL := Lib.hid hLen
      have HB := Lib.hid hbx
      clear hk hN hnl hLen hbx
      go_wp2_with (first | (at_builtin; refine wpList_app _ rfl _ _ rfl slB base (.slice A' (m + k) c') _ _ rfl (ha.alloc _) _ _ _ [.int .u8 (x : Int)] rfl rfl (Rd.one _ _ _) (by simp [Value.oneCell']) (by unfold maxLen; omega) (by omega) (by simp; omega) ?_; intro A2 c2 w2 ho2 hg2))
      go_ret
      refine ⟨A2, c2, by rw [HL.out]; rfl, ?_, by rw [HL.out]; exact (hg.alloc _).trans hg2⟩
      rw [HL.out, HN.out, byts_append, ← List.append_assoc]
      have e : byts [UInt8.ofNat x] = [.int .u8 (x : Int)] := by rw [← HB.out]; rfl
      rw [e]
      exact ho2

end Go.Proofs.Ytadgaphgomagkaa
