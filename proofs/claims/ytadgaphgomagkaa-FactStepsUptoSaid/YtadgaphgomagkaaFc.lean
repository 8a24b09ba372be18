/- The codec's numbers: written and read. -/
import Derived.Test.YtadgaphgomagkaaFb
namespace Go.Proofs.Ytadgaphgomagkaa
open Go.RowKit
set_option maxHeartbeats 1000000
set_option maxRecDepth 100000

theorem clip_any (A : Option Addr) (n c : Nat) (w : World) (hn : n ≤ c) :
    Calls Try.prog 96 #[.slice A n c] w fun e w' => e = .returned (.slice A n n) ∧ w = w' := by
  go_enter Try.func96, Try.ntmps96
  go_wp2
  go_ret
  exact ⟨rfl, rfl⟩

theorem or8 (x : Nat) : bits .or .u8 ((x : Int) % 256) 128 = (((UInt8.ofNat (x % 128 + 128)).toNat : Nat) : Int) := by
  have h := u8_or_nat (x % 256) 128 (Nat.mod_lt _ (by decide)) (by decide)
  rw [or128 _ (Nat.mod_lt _ (by decide))] at h
  push_cast at h
  rw [h]
  simp only [UInt8.toNat_ofNat']
  omega

theorem number_any (A : Option Addr) (c v : Nat) (l : List UInt8) (w : World) (hr : Rd w A (byts l)) (hl : l.length ≤ c) (hc : l.length ≤ 140737488351232) (hv : v < 18446744073709551616) :
    Calls Try.prog 62 #[.slice A l.length c, .int .u64 v] w fun e w' => ∃ A' c', e = .returned (.slice A' (l ++ numB v).length c') ∧
      w'.ownsRow w.heap.size 5 1 (.slice A' (l ++ numB v).length c') (l ++ numB v).length (byts (l ++ numB v)) ∧ Below w.heap.size w w' := by
  have hap : Ap w w.heap.size 5 1 (.slice A l.length l.length) l.length (byts l) := .inr ⟨A, rfl, fun e => by subst e; have := hr.eq_nil; simpa [byts] using this, by rw [byts_length, Nat.mul_one], hr⟩
  go_enter Try.func62, Try.ntmps62
  go_wp2_with (go_at_call 96; refine (clip_any _ _ _ _ hl).mono ?_; rintro e w' ⟨rfl, rfl⟩)
  go_loopw [0, 1] (fun b x wr => ∃ (m : Nat) (A' : Option Addr) (c' : Nat), m ≤ 9 ∧ (∀ k, k < m → 128 ≤ v / 128 ^ k) ∧ x = .int .u64 (v / 128 ^ m : Nat) ∧ b = .slice A' (l.length + m) c' ∧
      Ap wr w.heap.size 5 1 (.slice A' (l.length + m) c') (l.length + m) (byts (l ++ numP v m)) ∧ Below w.heap.size w wr) (fun _ x _ => (intOf x).toNat)
  case atStart => exact ⟨0, A, l.length, by omega, fun k hk => by omega, by simp, rfl, by simpa [numP] using hap, Below.refl _ _⟩
  case round =>
    obtain ⟨m, A', c', hm, hk, rfl, rfl, ha, hb⟩ := hrel
    have hsz := hb.size
    by_cases hlt : 128 ≤ v / 128 ^ m
    · have hm9 := num_le9 hv hlt
      have hk' : ∀ k, k < m + 1 → 128 ≤ v / 128 ^ k := fun k hk1 => by
        by_cases e : k = m
        · rw [e]; exact hlt
        · exact hk k (by omega)
      have hP := numP_succ v m
      have hd : v / 128 ^ (m + 1) = v / 128 ^ m / 128 := by rw [Nat.pow_succ, ← Nat.div_div_eq_div_mul]
      have hxv : v / 128 ^ m < 18446744073709551616 := Nat.lt_of_le_of_lt (Nat.div_le_self _ _) hv
      generalize v / 128 ^ m = x at *
      have ho := or8 x
      have HK := Lib.hid hk'
      have HP := Lib.hid hP
      have HD := Lib.hid hd
      clear hk hk' hP hd
      go_wp2_with (first | (at_builtin; refine wpList_ap _ rfl _ _ rfl slB w.heap.size (.slice A' (l.length + m) c') _ _ rfl (ha.alloc _) _ _ _ [byt (UInt8.ofNat (x % 128 + 128))] rfl rfl (Rd.one _ _ _) (by simp [Value.oneCell', byt]) (by omega) (by unfold maxLen; omega) (by omega) (by simp; omega) ?_; intro A2 c2 w2 ho2 hg2))
      go_roundw
      case rel => exact ⟨m + 1, A2, c2, by omega, HK.out, by rw [HD.out]; rfl, rfl, .inl (by rw [HP.out, ← List.append_assoc, byts_append]; exact ho2), (hb.alloc hsz _).trans hg2⟩
      case measure => simp [intOf]; omega
    · have hN := numB_walk v m hv hk (by omega)
      have hxl : v / 128 ^ m < 128 := by omega
      have hnl : (numP v m).length = m := numP_length v m
      generalize v / 128 ^ m = x at *
      have hxx : UInt8.ofNat x = UInt8.ofNat x := rfl
      have hbx : byt (UInt8.ofNat x) = .int .u8 (x : Int) := by simp [byt]; omega
      have hLen : (l ++ numB v).length = l.length + m + 1 := by rw [hN]; simp [hnl]; omega
      have HN := Lib.hid hN
      have HL := Lib.hid hLen
      have HB := Lib.hid hbx
      clear hk hN hxx hnl hLen hbx
      go_wp2_with (first | (at_builtin; refine wpList_ap _ rfl _ _ rfl slB w.heap.size (.slice A' (l.length + m) c') _ _ rfl (ha.alloc _) _ _ _ [.int .u8 (x : Int)] rfl rfl (Rd.one _ _ _) (by simp [Value.oneCell']) (by omega) (by unfold maxLen; omega) (by omega) (by simp; omega) ?_; intro A2 c2 w2 ho2 hg2))
      go_ret
      refine ⟨A2, c2, by rw [HL.out]; rfl, ?_, (hb.alloc hsz _).trans hg2⟩
      rw [HL.out, HN.out, ← List.append_assoc, byts_append]
      have e : byts [UInt8.ofNat x] = [.int .u8 (x : Int)] := by rw [← HB.out]; rfl
      rw [e]
      exact ho2
end Go.Proofs.Ytadgaphgomagkaa
