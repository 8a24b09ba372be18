/- The codec's reading and comparing functions. -/
import Derived.Test.YtadgaphgomagkaaFd
namespace Go.Proofs.Ytadgaphgomagkaa
open Go.RowKit
set_option maxHeartbeats 1000000
set_option maxRecDepth 100000

theorem conv_bytes (w : World) (A : Option Addr) (c : Nat) (l : List UInt8) (hr : Rd w A (byts l)) :
    (convert 35 9 (.slice A l.length c)).run Try.prog w = .ok (.string ⟨l.toArray⟩) w := by
  have hb := run_convert_bytes_string (P := Try.prog) w 35 9 5 A l.length c Try.underlying35 Try.underlying5 Try.underlying9
  rcases A with _ | ad
  · have : l = [] := by have := hr.eq_nil; simpa [byts] using this
    subst this
    rw [hb]
    simp [Conv.bytesToString]
    rfl
  · have hl : (loadCells ad l.length).run Try.prog w = .ok ((l.map fun b => (b.toNat : Int)).map (Value.int .u8)).toArray w := by
      have := run_loadCells_list (P := Try.prog) w ad (byts l) (fun j v hj => by
        obtain ⟨ad', e, _, hc⟩ := hr (by intro e0; rw [e0] at hj; simp at hj)
        injection e with e
        subst e
        exact hc j v hj)
      rw [byts_length] at this
      rw [this]
      simp [byts, byt, Function.comp_def]
    rw [hb, run_bytesToString w ad _ _ _ hl, foldl_push_bytes]
    have e : (l.map fun b => (b.toNat : Int)).map (fun n => UInt8.ofNat n.toNat) = l := by
      simp [Function.comp_def]
    rw [e]
    simp [ByteArray.empty, ByteArray.emptyWithCapacity]
    rfl

theorem clone_any (A : Option Addr) (c : Nat) (l : List UInt8) (w : World) (hr : Rd w A (byts l)) (hl : l.length ≤ 140737488351232) :
    Calls Try.prog 55 #[.slice A l.length c] w fun e w' => ∃ A' c', e = .returned (.slice A' l.length c') ∧
      w'.ownsRow w.heap.size 5 1 (.slice A' l.length c') l.length (byts l) ∧ Below w.heap.size w w' := by
  have hnil := fun (W : World) => Lib.run_eql_slice_nil (P := Try.prog) W 35 5 A l.length c 0 0 Try.underlying35
  rcases A with _ | ad
  · have : l = [] := by have := hr.eq_nil; simpa [byts] using this
    subst this
    show Calls Try.prog 55 #[.slice none 0 c] w _
    have hn : ∀ W, (binOp .eql 35 (.slice none 0 c) (.slice none 0 0)).run Try.prog W = .ok (.bool true) W := hnil
    clear hnil
    go_enter Try.func55, Try.ntmps55
    go_wp2
    go_ret
    exact ⟨none, 0, rfl, World.ownsRow_nil _ _ _ _, Below.refl _ _⟩
  · have hown : (w.alloc (.cells #[] 5)).ownsRow w.heap.size 5 1 (.slice (some ⟨w.heap.size, 0, none⟩) 0 0) 0 [] := World.ownsRow_made w #[] 0 (Nat.le_refl _) (by unfold maxLen; omega) rfl
    have hr1 := hr.alloc (.cells #[] 5)
    have hL := byts_length l
    have HL := Lib.hid hL
    clear hL
    go_enter Try.func55, Try.ntmps55
    go_wp2_with (first | (at_builtin; refine wpList_app _ rfl _ _ rfl slB w.heap.size (.slice (some ⟨w.heap.size, 0, none⟩) 0 0) 0 [] rfl hown (some ad) l.length c (byts l) rfl (by rw [HL.out, Nat.mul_one]) hr1 (byts_one l) (by unfold maxLen; omega) (by omega) (by simp) ?_; intro A2 c2 w2 ho2 hg2))
    go_ret
    refine ⟨A2, c2, rfl, by simpa using ho2, ?_⟩
    exact ((Below.refl _ _).alloc (Nat.le_refl _) _).trans (hg2.toBelow (by simp) (by simp [Value.ownBlock]))
theorem or_shift (x b k : Nat) (hx : x < 2 ^ (7 * k)) (h : x + b % 128 * 2 ^ (7 * k) < 18446744073709551616) :
    bits .or .u64 (x : Int) (IntKind.u64.wrap ((b : Int) % 128 * 2 ^ (7 * k))) = ((x + b % 128 * 2 ^ (7 * k) : Nat) : Int) := by
  have e : IntKind.u64.wrap ((b : Int) % 128 * 2 ^ (7 * k)) = ((b % 128 * 2 ^ (7 * k) : Nat) : Int) := by
    have e1 : ((b : Int) % 128 * 2 ^ (7 * k)) = ((b % 128 * 2 ^ (7 * k) : Nat) : Int) := by push_cast; rfl
    rw [e1, IntKind.wrap_u64]
    omega
  rw [e, u64_or_nat x _ (by omega) (by omega), Nat.or_comm, nat_join (7 * k) _ x (by simp) hx]
  push_cast
  omega
theorem readNumber_any (A : Option Addr) (c : Nat) (l : List UInt8) (w : World) (hr : Rd w A (byts l)) (hl : l.length ≤ 140737488351232) :
    Calls Try.prog 109 #[.slice A l.length c] w fun e w' => e = .returned (.tuple #[.int .u64 ((rdNum l).1 : Nat), .int .i64 ((rdNum l).2.1 : Nat), .int .i64 ((rdNum l).2.2 : Nat)]) ∧ w = w' := by
  unfold rdNum
  generalize hR : rdF 0 0 l = R
  have HR := Lib.hid hR
  clear hR
  go_enter Try.func109, Try.ntmps109
  go_wp2
  go_loop [5, 10] (fun v i => ∃ k x : Nat, k ≤ l.length ∧ k ≤ 9 ∧ i = .int .i64 k ∧ v = .int .u64 x ∧ x < 2 ^ (7 * k) ∧ rdF k x (l.drop k) = R) (fun _ i => l.length - (intOf i).toNat)
  case atStart => exact ⟨0, 0, by omega, by omega, rfl, rfl, by simp, by simpa using HR.out⟩
  case round =>
    obtain ⟨k, x, hk, hk9, rfl, rfl, hx, hs⟩ := hrel
    clear HR
    by_cases hlt : k < l.length
    · obtain ⟨ad, rfl, hb, hcell⟩ := hr.at_ (k := k) (by rw [byts_length]; omega)
      have hc1 : w.cell? (ad.add k) = some (.int .u8 (l[k].toNat : Int)) := by rw [hcell]; simp [byts, byt]
      rw [List.drop_eq_getElem_cons hlt] at hs
      have hst := rdF_step k x l[k] hx
      clear hcell
      generalize l[k] = b at *
      have hb8 : b.toNat < 256 := b.toNat_lt
      rw [rdF] at hs
      have h127 : bits .and .u8 (b.toNat : Int) 127 = (b.toNat : Int) % 128 := by
        have h := u8_and_nat b.toNat 127 hb8 (by decide)
        rw [and127 _ hb8] at h
        push_cast at h
        exact h
      by_cases h1 : k = 9 ∧ 1 < b.toNat
      · rw [if_pos h1] at hs
        subst hs
        have h11 := h1.2
        have h9' : 9 ≤ k := by omega
        clear h1
        go_wp2
        go_ret3
        exact ⟨rfl, rfl⟩
      · rw [if_neg h1] at hs
        have hlt64 : x + b.toNat % 128 * 2 ^ (7 * k) < 18446744073709551616 := by
          by_cases h9 : k = 9
          · subst h9
            have hb1 : b.toNat ≤ 1 := by omega
            have : b.toNat % 128 ≤ 1 := Nat.le_trans (Nat.mod_le _ _) hb1
            simp only [Nat.reduceMul, Nat.reducePow] at hx ⊢
            omega
          · have h63 : 2 ^ (7 * (k + 1)) ≤ 2 ^ 63 := Nat.pow_le_pow_right (by omega) (by omega)
            simp only [Nat.reducePow] at h63
            omega
        have hor := or_shift x b.toNat k hx hlt64
        have hor9 : k = 9 → bits .or .u64 (x : Int) ((b.toNat : Int) % 128 * 9223372036854775808) = ((x + b.toNat % 128 * 2 ^ (7 * k) : Nat) : Int) := by
          intro h9
          have h := hor
          rw [IntKind.wrap_u64] at h
          subst h9
          rw [← h]
          congr 1
          simp only [Nat.reduceMul, Nat.reducePow] at hlt64
          omega
        generalize x + b.toNat % 128 * 2 ^ (7 * k) = y at *
        by_cases h2 : b.toNat < 128
        · rw [if_pos h2] at hs
          by_cases h3 : b.toNat = 0 ∧ 0 < k
          · rw [if_pos h3] at hs
            subst hs
            have h33 := h3.2
            have h30 : (b.toNat : Int) = 0 := by omega
            have h31 : b.toNat ≤ 0 := by omega
            clear h3 h30 h1
            by_cases h9 : k = 9
            · have h9' : 9 ≤ k := by omega
              clear h9
              go_wp2
              go_ret3
              exact ⟨rfl, rfl⟩
            · have h9' : ((k : Int) == 9) = false := by simp; omega
              go_wp2
              go_ret3
              exact ⟨rfl, rfl⟩
          · rw [if_neg h3] at hs
            have hs' := hs.symm
            subst hs'
            by_cases h0 : b.toNat = 0
            · have h0' : b.toNat ≤ 0 := by omega
              have hk0 : k ≤ 0 := by omega
              clear h0 h3
              have h9' : ((k : Int) == 9) = false := by simp; omega
              go_wp2
              go_ret3
              exact ⟨rfl, rfl⟩
            · have h0' : ((b.toNat : Int) == 0) = false := by simp; omega
              clear h3
              by_cases h9 : k = 9
              · have hor9' := hor9 h9
                have h9' : 9 ≤ k := by omega
                have hb1 : b.toNat ≤ 1 := by omega
                clear h1 h9
                go_wp2
                go_ret3
                exact ⟨rfl, rfl⟩
              · have h9' : ((k : Int) == 9) = false := by simp; omega
                clear h1
                go_wp2
                go_ret3
                exact ⟨rfl, rfl⟩
        · rw [if_neg h2] at hs
          have h1' : k < 9 := by omega
          have h9' : ((k : Int) == 9) = false := by simp; omega
          have HS := Lib.hid hs
          clear hs
          go_wp2
          go_round
          case rel => exact ⟨k + 1, y, by omega, by omega, by go_num, rfl, hst, HS.out⟩
          case measure => simp [intOf]; omega
    · obtain rfl : k = l.length := by omega
      rw [List.drop_length] at hs
      have hs' : R = (0, 0, 21) := hs.symm
      subst hs'
      go_wp2
      go_ret3
      exact ⟨rfl, rfl⟩
end Go.Proofs.Ytadgaphgomagkaa
