/- The codec's functions that the abstract array uses (from the texts Fa .. Fl). -/
import Derived.Test.YthhpcilinkebeaaDoorIk
import Derived.Test.YthhpcilinkebeaaDoorPc
import Derived.Test.YthhpcilinkebeaaDoorHa
import Derived.Deep.RegionWith
import Derived.Test.YthhpcilinkebeaaDoorWi
import Derived.Lib.ConvBytes
import Derived.BigQuiet
import Derived.Test.YthhpcilinkebeaaDoorWv
namespace Go.Proofs.YthhpcilinkebeaaDoor
open Go.RowKit
set_option maxHeartbeats 1000000
set_option maxRecDepth 100000

theorem clip_any (A : Option Addr) (n c : Nat) (w : World) (hn : n ≤ c) :
    Calls Tryd.prog 85 #[.slice A n c] w fun e w' => e = .returned (.slice A n n) ∧ w = w' := by
  go_enter Tryd.func85, Tryd.ntmps85
  go_wp2
  go_ret
  exact ⟨rfl, rfl⟩

theorem or8 (x : Nat) : bits .or .u8 ((x : Int) % 256) 128 = (((UInt8.ofNat (x % 128 + 128)).toNat : Nat) : Int) := by
  have h := u8_or_nat (x % 256) 128 (Nat.mod_lt _ (by decide)) (by decide)
  rw [or128 _ (Nat.mod_lt _ (by decide))] at h
  push_cast at h
  rw [h]
  simp only [UInt8.toNat_ofNat']
  omega

theorem number_any (A : Option Addr) (c v : Nat) (l : List UInt8) (w : World) (hr : Rd w A (byts l)) (hl : l.length ≤ c) (hc : l.length ≤ 140737488351232) (hv : v < 18446744073709551616) :
    Calls Tryd.prog 71 #[.slice A l.length c, .int .u64 v] w fun e w' => ∃ A' c', e = .returned (.slice A' (l ++ numB v).length c') ∧
      w'.ownsRow w.heap.size 5 1 (.slice A' (l ++ numB v).length c') (l ++ numB v).length (byts (l ++ numB v)) ∧ Below w.heap.size w w' := by
  have hap : Ap w w.heap.size 5 1 (.slice A l.length l.length) l.length (byts l) := .inr ⟨A, rfl, fun e => by subst e; have := hr.eq_nil; simpa [byts] using this, by rw [byts_length, Nat.mul_one], hr⟩
  go_enter Tryd.func71, Tryd.ntmps71
  go_wp2_with (go_at_call 85; refine (clip_any _ _ _ _ hl).mono ?_; rintro e w' ⟨rfl, rfl⟩)
  go_loopw [0, 1] (fun b x wr => ∃ (m : Nat) (A' : Option Addr) (c' : Nat), m ≤ 9 ∧ (∀ k, k < m → 128 ≤ v / 128 ^ k) ∧ x = .int .u64 (v / 128 ^ m : Nat) ∧ b = .slice A' (l.length + m) c' ∧
      Ap wr w.heap.size 5 1 (.slice A' (l.length + m) c') (l.length + m) (byts (l ++ numP v m)) ∧ Below w.heap.size w wr) (fun _ x _ => (intOf x).toNat)
  case atStart => exact ⟨0, A, l.length, by omega, fun k hk => by omega, by simp, rfl, by simpa [numP] using hap, Below.refl _ _⟩
  case round =>
    obtain ⟨m, A', c', hm, hk, rfl, rfl, ha, hb⟩ := hrel
    have hsz := hb.size
    by_cases hlt : 128 ≤ v / 128 ^ m
    · have hm9 := num_le9 hv hlt
      have hk' : ∀ k, k < m + 1 → 128 ≤ v / 128 ^ k := fun k hk1 => by
        by_cases e : k = m
        · rw [e]; exact hlt
        · exact hk k (by omega)
      have hP := numP_succ v m
      have hd : v / 128 ^ (m + 1) = v / 128 ^ m / 128 := by rw [Nat.pow_succ, ← Nat.div_div_eq_div_mul]
      have hxv : v / 128 ^ m < 18446744073709551616 := Nat.lt_of_le_of_lt (Nat.div_le_self _ _) hv
      generalize v / 128 ^ m = x at *
      have ho := or8 x
      have HK := Lib.hid hk'
      have HP := Lib.hid hP
      have HD := Lib.hid hd
      clear hk hk' hP hd
      go_wp2_with (first | (at_builtin; refine wpList_ap _ rfl _ _ rfl slB w.heap.size (.slice A' (l.length + m) c') _ _ rfl (ha.alloc _) _ _ _ [byt (UInt8.ofNat (x % 128 + 128))] rfl rfl (Rd.one _ _ _) (by simp [Value.oneCell', byt]) (by omega) (by unfold maxLen; omega) (by omega) (by simp; omega) ?_; intro A2 c2 w2 ho2 hg2))
      go_roundw
      case rel => exact ⟨m + 1, A2, c2, by omega, HK.out, by rw [HD.out]; rfl, rfl, .inl (by rw [HP.out, ← List.append_assoc, byts_append]; exact ho2), (hb.alloc hsz _).trans hg2⟩
      case measure => simp [intOf]; omega
    · have hN := numB_walk v m hv hk (by omega)
      have hxl : v / 128 ^ m < 128 := by omega
      have hnl : (numP v m).length = m := numP_length v m
      generalize v / 128 ^ m = x at *
      have hxx : UInt8.ofNat x = UInt8.ofNat x := rfl
      have hbx : byt (UInt8.ofNat x) = .int .u8 (x : Int) := by simp [byt]; omega
      have hLen : (l ++ numB v).length = l.length + m + 1 := by rw [hN]; simp [hnl]; omega
      have HN := Lib.hid hN
      have HL := Lib.hid hLen
      have HB := Lib.hid hbx
      clear hk hN hxx hnl hLen hbx
      go_wp2_with (first | (at_builtin; refine wpList_ap _ rfl _ _ rfl slB w.heap.size (.slice A' (l.length + m) c') _ _ rfl (ha.alloc _) _ _ _ [.int .u8 (x : Int)] rfl rfl (Rd.one _ _ _) (by simp [Value.oneCell']) (by omega) (by unfold maxLen; omega) (by omega) (by simp; omega) ?_; intro A2 c2 w2 ho2 hg2))
      go_ret
      refine ⟨A2, c2, by rw [HL.out]; rfl, ?_, (hb.alloc hsz _).trans hg2⟩
      rw [HL.out, HN.out, ← List.append_assoc, byts_append]
      have e : byts [UInt8.ofNat x] = [.int .u8 (x : Int)] := by rw [← HB.out]; rfl
      rw [e]
      exact ho2

theorem or_shift (x b k : Nat) (hx : x < 2 ^ (7 * k)) (h : x + b % 128 * 2 ^ (7 * k) < 18446744073709551616) :
    bits .or .u64 (x : Int) (IntKind.u64.wrap ((b : Int) % 128 * 2 ^ (7 * k))) = ((x + b % 128 * 2 ^ (7 * k) : Nat) : Int) := by
  have e : IntKind.u64.wrap ((b : Int) % 128 * 2 ^ (7 * k)) = ((b % 128 * 2 ^ (7 * k) : Nat) : Int) := by
    have e1 : ((b : Int) % 128 * 2 ^ (7 * k)) = ((b % 128 * 2 ^ (7 * k) : Nat) : Int) := by push_cast; rfl
    rw [e1, IntKind.wrap_u64]
    omega
  rw [e, u64_or_nat x _ (by omega) (by omega), Nat.or_comm, nat_join (7 * k) _ x (by simp) hx]
  push_cast
  omega

theorem readNumber_any (A : Option Addr) (c : Nat) (l : List UInt8) (w : World) (hr : Rd w A (byts l)) (hl : l.length ≤ 140737488351232) :
    Calls Tryd.prog 68 #[.slice A l.length c] w fun e w' => e = .returned (.tuple #[.int .u64 ((rdNum l).1 : Nat), .int .i64 ((rdNum l).2.1 : Nat), .int .i64 ((rdNum l).2.2 : Nat)]) ∧ w = w' := by
  unfold rdNum
  generalize hR : rdF 0 0 l = R
  have HR := Lib.hid hR
  clear hR
  go_enter Tryd.func68, Tryd.ntmps68
  go_wp2
  go_loop [5, 10] (fun v i => ∃ k x : Nat, k ≤ l.length ∧ k ≤ 9 ∧ i = .int .i64 k ∧ v = .int .u64 x ∧ x < 2 ^ (7 * k) ∧ rdF k x (l.drop k) = R) (fun _ i => l.length - (intOf i).toNat)
  case atStart => exact ⟨0, 0, by omega, by omega, rfl, rfl, by simp, by simpa using HR.out⟩
  case round =>
    obtain ⟨k, x, hk, hk9, rfl, rfl, hx, hs⟩ := hrel
    clear HR
    by_cases hlt : k < l.length
    · obtain ⟨ad, rfl, hb, hcell⟩ := hr.at_ (k := k) (by rw [byts_length]; omega)
      have hc1 : w.cell? (ad.add k) = some (.int .u8 (l[k].toNat : Int)) := by rw [hcell]; simp [byts, byt]
      rw [List.drop_eq_getElem_cons hlt] at hs
      have hst := rdF_step k x l[k] hx
      clear hcell
      generalize l[k] = b at *
      have hb8 : b.toNat < 256 := b.toNat_lt
      rw [rdF] at hs
      have h127 : bits .and .u8 (b.toNat : Int) 127 = (b.toNat : Int) % 128 := by
        have h := u8_and_nat b.toNat 127 hb8 (by decide)
        rw [and127 _ hb8] at h
        push_cast at h
        exact h
      by_cases h1 : k = 9 ∧ 1 < b.toNat
      · rw [if_pos h1] at hs
        subst hs
        have h11 := h1.2
        have h9' : 9 ≤ k := by omega
        clear h1
        go_wp2
        go_ret3
        exact ⟨rfl, rfl⟩
      · rw [if_neg h1] at hs
        have hlt64 : x + b.toNat % 128 * 2 ^ (7 * k) < 18446744073709551616 := by
          by_cases h9 : k = 9
          · subst h9
            have hb1 : b.toNat ≤ 1 := by omega
            have : b.toNat % 128 ≤ 1 := Nat.le_trans (Nat.mod_le _ _) hb1
            simp only [Nat.reduceMul, Nat.reducePow] at hx ⊢
            omega
          · have h63 : 2 ^ (7 * (k + 1)) ≤ 2 ^ 63 := Nat.pow_le_pow_right (by omega) (by omega)
            simp only [Nat.reducePow] at h63
            omega
        have hor := or_shift x b.toNat k hx hlt64
        have hor9 : k = 9 → bits .or .u64 (x : Int) ((b.toNat : Int) % 128 * 9223372036854775808) = ((x + b.toNat % 128 * 2 ^ (7 * k) : Nat) : Int) := by
          intro h9
          have h := hor
          rw [IntKind.wrap_u64] at h
          subst h9
          rw [← h]
          congr 1
          simp only [Nat.reduceMul, Nat.reducePow] at hlt64
          omega
        generalize x + b.toNat % 128 * 2 ^ (7 * k) = y at *
        by_cases h2 : b.toNat < 128
        · rw [if_pos h2] at hs
          by_cases h3 : b.toNat = 0 ∧ 0 < k
          · rw [if_pos h3] at hs
            subst hs
            have h33 := h3.2
            have h30 : (b.toNat : Int) = 0 := by omega
            have h31 : b.toNat ≤ 0 := by omega
            clear h3 h30 h1
            by_cases h9 : k = 9
            · have h9' : 9 ≤ k := by omega
              clear h9
              go_wp2
              go_ret3
              exact ⟨rfl, rfl⟩
            · have h9' : ((k : Int) == 9) = false := by simp; omega
              go_wp2
              go_ret3
              exact ⟨rfl, rfl⟩
          · rw [if_neg h3] at hs
            have hs' := hs.symm
            subst hs'
            by_cases h0 : b.toNat = 0
            · have h0' : b.toNat ≤ 0 := by omega
              have hk0 : k ≤ 0 := by omega
              clear h0 h3
              have h9' : ((k : Int) == 9) = false := by simp; omega
              go_wp2
              go_ret3
              exact ⟨rfl, rfl⟩
            · have h0' : ((b.toNat : Int) == 0) = false := by simp; omega
              clear h3
              by_cases h9 : k = 9
              · have hor9' := hor9 h9
                have h9' : 9 ≤ k := by omega
                have hb1 : b.toNat ≤ 1 := by omega
                clear h1 h9
                go_wp2
                go_ret3
                exact ⟨rfl, rfl⟩
              · have h9' : ((k : Int) == 9) = false := by simp; omega
                clear h1
                go_wp2
                go_ret3
                exact ⟨rfl, rfl⟩
        · rw [if_neg h2] at hs
          have h1' : k < 9 := by omega
          have h9' : ((k : Int) == 9) = false := by simp; omega
          have HS := Lib.hid hs
          clear hs
          go_wp2
          go_round
          case rel => exact ⟨k + 1, y, by omega, by omega, by go_num, rfl, hst, HS.out⟩
          case measure => simp [intOf]; omega
    · obtain rfl : k = l.length := by omega
      rw [List.drop_length] at hs
      have hs' : R = (0, 0, 21) := hs.symm
      subst hs'
      go_wp2
      go_ret3
      exact ⟨rfl, rfl⟩

theorem flat_take_le (ps : List Sb) (k : Nat) : (flat (ps.take k)).length ≤ (flat ps).length := by
  have h : flat ps = flat (ps.take k) ++ flat (ps.drop k) := by
    unfold flat
    rw [← List.flatMap_append, List.take_append_drop]
  rw [h, List.length_append]
  omega

theorem bytes_any (A B : Option Addr) (c d : Nat) (l : List UInt8) (ps : List Sb) (w : World) (hr : Rd w A (byts l)) (hl : l.length ≤ c) (hp : Rd w B (ps.map Sb.val)) (hpl : ps.length ≤ 5864062014806)
    (hok : ∀ s ∈ ps, s.ok w) (hsum : l.length + 10 + (flat ps).length ≤ 140737488351232) :
    Calls Tryd.prog 72 #[.slice A l.length c, .slice B ps.length d] w fun e w' => ∃ A' c', e = .returned (.slice A' (l ++ (numB (flat ps).length ++ flat ps)).length c') ∧
      w'.ownsRow w.heap.size 5 1 (.slice A' (l ++ (numB (flat ps).length ++ flat ps)).length c') (l ++ (numB (flat ps).length ++ flat ps)).length (byts (l ++ (numB (flat ps).length ++ flat ps))) ∧ Below w.heap.size w w' := by
  have hN10 := (numF_length 9 (flat ps).length).1
  go_enter Tryd.func72, Tryd.ntmps72
  go_wp2
  go_loop [5, 12] (fun n i => ∃ k : Nat, k ≤ ps.length ∧ i = .int .i64 k ∧ n = .int .i64 ((flat (ps.take k)).length : Nat)) (fun _ i => ps.length - (intOf i).toNat)
  case atStart => exact ⟨0, by omega, rfl, rfl⟩
  case round =>
    obtain ⟨k, hk, rfl, rfl⟩ := hrel
    have hle := flat_take_le ps (k + 1)
    by_cases hlt : k < ps.length
    · obtain ⟨ad, rfl, hba, hcell⟩ := hp.at_ (k := k) (by simpa using hlt)
      have hc1 : w.cell? (ad.add k) = some (ps[k]).val := by rw [hcell]; simp
      have hft := flat_take ps k hlt
      generalize ps[k] = p at *
      obtain ⟨Ap, cp, lp⟩ := p
      simp only [Sb.val] at *
      have hlen : (flat (ps.take (k + 1))).length = (flat (ps.take k)).length + lp.length := by rw [hft, List.length_append]
      have HL := Lib.hid hlen
      rw [hlen] at hle
      clear hft hlen hcell
      generalize (flat (ps.take k)).length = n at *
      go_wp2
      go_round
      case rel => exact ⟨k + 1, by omega, by go_num, by rw [HL.out]; rfl⟩
      case measure => simp [intOf]; omega
    · obtain rfl : k = ps.length := by omega
      clear hle hlt hk
      rw [List.take_length]
      have hnum := number_any A c (flat ps).length l w hr hl (by omega) (by omega)
      generalize hFN : (flat ps).length = N at *
      have HFN := Lib.hid hFN
      have hle2 : (l ++ numB N).length ≤ l.length + 10 := by rw [List.length_append]; unfold numB; omega
      clear hFN
      generalize hP : l ++ numB N = P at *
      have HP := Lib.hid hP
      clear hP
      go_wp2_with (go_at_call 71; refine hnum.mono ?_; rintro e w1 ⟨A1, c1, rfl, ho1, hb1⟩)
      clear hnum
      go_loopw [0, 27] (fun b i wr => ∃ (k : Nat) (A' : Option Addr) (c' : Nat), k ≤ ps.length ∧ i = .int .i64 k ∧ b = .slice A' (P.length + (flat (ps.take k)).length) c' ∧
        wr.ownsRow w.heap.size 5 1 (.slice A' (P.length + (flat (ps.take k)).length) c') (P.length + (flat (ps.take k)).length) (byts P ++ byts (flat (ps.take k))) ∧ Below w.heap.size w wr) (fun _ i _ => ps.length - (intOf i).toNat)
      case atStart => exact ⟨0, A1, c1, by omega, rfl, rfl, by simpa [flat, byts] using ho1, hb1⟩
      case round =>
        obtain ⟨k, A', c', hk, rfl, rfl, ho, hb⟩ := hrel
        have hsz := hb.size
        have hpr := hp.below hb
        have hokr : ∀ s ∈ ps, s.ok wr := fun s hs => Sb.ok_below (hok s hs) hb
        by_cases hlt : k < ps.length
        · obtain ⟨ad, rfl, hba, hcell⟩ := hpr.at_ (k := k) (by simpa using hlt)
          have hc1 : wr.cell? (ad.add k) = some (ps[k]).val := by rw [hcell]; simp
          have hft := flat_take ps k hlt
          have hle := flat_take_le ps (k + 1)
          obtain ⟨hpr1, hpl1, hpc1⟩ := hokr _ (List.getElem_mem hlt)
          generalize ps[k] = p at *
          obtain ⟨Ap, cp, lp⟩ := p
          simp only [Sb.val] at *
          have hlen : (flat (ps.take (k + 1))).length = (flat (ps.take k)).length + lp.length := by rw [hft, List.length_append]
          rw [HFN.out, hlen] at hle
          have HL := Lib.hid hlen
          have HF := Lib.hid hft
          have ho' : wr.ownsRow w.heap.size 5 1 (.slice A' (P.length + (flat (ps.take k)).length) c') (P.length + (flat (ps.take k)).length) (byts P ++ byts (flat (ps.take k))) := ho
          clear hft hlen hcell ho
          generalize hn : (flat (ps.take k)).length = n at *
          have HN := Lib.hid hn
          clear hn
          go_wp2_with (first | (at_builtin; refine wpList_app _ rfl _ _ rfl slB w.heap.size (.slice A' (P.length + n) c') (P.length + n) (byts P ++ byts (flat (ps.take k))) rfl ho' Ap lp.length cp (byts lp) rfl (by rw [byts_length, Nat.mul_one]) hpr1 (byts_one _) (by unfold maxLen; omega) (by omega) (by omega) ?_; intro A2 c2 w2 ho2 hg2))
          have hbb := hg2.under ho' (Nat.le_refl _) hsz
          go_roundw
          case rel =>
            refine ⟨k + 1, A2, c2, by omega, by go_num, by rw [HL.out, Nat.add_assoc], ?_, hb.trans hbb⟩
            rw [HL.out, HF.out, byts_append, ← List.append_assoc, ← Nat.add_assoc]
            exact ho2
          case measure => simp [intOf]; omega
        · obtain rfl : k = ps.length := by omega
          rw [List.take_length] at ho ⊢
          have hE : l ++ (numB (flat ps).length ++ flat ps) = P ++ flat ps := by rw [HFN.out, ← HP.out, List.append_assoc]
          have hEl : (P ++ flat ps).length = P.length + (flat ps).length := List.length_append
          have HE := Lib.hid hE
          have HEl := Lib.hid hEl
          clear hE hEl hpr hokr
          go_wp2
          go_ret
          refine ⟨A', c', ?_, ?_, hb⟩
          · rw [HE.out, HEl.out]; rfl
          · rw [HE.out, HEl.out, byts_append]; exact ho

theorem run_max_int {P : Program} (ts : Array TypeId) (t : TypeId) (k k' : IntKind) (x y : Int) (W : World) : (Builtin.max_ ts t #[.int k x, .int k' y]).run P W = .ok (.int k (max x y)) W := by
  have e : (if y > x then y else x) = max x y := by omega
  simp [Builtin.max_, Builtin.max2, Sem.run_pure]
  omega

theorem readBytes_any (A : Option Addr) (c : Nat) (l : List UInt8) (most : Int) (w : World) (hr : Rd w A (byts l)) (hl : l.length ≤ 140737488351232) (hlc : l.length ≤ c) (hm1 : most ≤ 9223372036854775807) (hm0 : -9223372036854775808 ≤ most) :
    Calls Tryd.prog 70 #[.slice A l.length c, .int .i64 most] w fun e w' => ∃ A' c' out, e = .returned (.tuple #[.slice A' out.length c', .int .i64 ((rdBytes most l).2.1 : Nat), .int .i64 ((rdBytes most l).2.2 : Nat)]) ∧ out = (rdBytes most l).1 ∧
      w'.ownsRow w.heap.size 5 1 (.slice A' out.length c') out.length (byts out) ∧ Below w.heap.size w w' := by
  have hnum := readNumber_any A c l w hr hl
  have hok := @rdNum_ok l
  have herr := rdF_err l 0 0
  generalize hR : rdBytes most l = R
  have HR := Lib.hid hR
  clear hR
  change Hid ((if (rdNum l).2.2 ≠ 0 then ([], 0, (rdNum l).2.2) else if max most 0 < ((rdNum l).1 : Int) then ([], 0, 3) else if l.length - (rdNum l).2.1 < (rdNum l).1 then ([], 0, 21) else ((l.drop (rdNum l).2.1).take (rdNum l).1, (rdNum l).2.1 + (rdNum l).1, 0)) = R) at HR
  change (rdNum l).2.2 = 0 ∨ (rdNum l).2.2 = 21 ∨ (rdNum l).2.2 = 22 at herr
  generalize rdNum l = N at *
  obtain ⟨n, p, er⟩ := N
  dsimp only at *
  by_cases he : er = 0
  · obtain ⟨hp0, hp1, hp2, hn⟩ := hok he
    clear hok herr
    subst he
    have hR1 := HR.out
    rw [if_neg (by simp)] at hR1
    obtain ⟨mx, hmx⟩ : ∃ mx : Int, mx = max most 0 := ⟨_, rfl⟩
    have hmx0 : 0 ≤ mx := by omega
    have hmx1 : mx ≤ 9223372036854775807 := by omega
    rw [← hmx] at hR1
    have hmax : ∀ W, (Builtin.max_ #[3, 3] 3 #[.int .i64 most, .int .i64 0]).run Tryd.prog W = .ok (.int .i64 mx) W := by
      intro W
      rw [hmx]
      exact run_max_int _ _ _ _ _ _ _
    have HMX := Lib.hid hmx
    clear HR hmx
    by_cases h1 : mx < (n : Int)
    · rw [if_pos h1] at hR1
      subst hR1
      go_enter Tryd.func70, Tryd.ntmps70
      go_wp2_with (go_at_call 68; refine hnum.mono ?_; rintro e w1 ⟨rfl, rfl⟩)
      go_ret3
      exact ⟨none, 0, [], rfl, rfl, World.ownsRow_nil _ _ _ _, Below.refl _ _⟩
    · rw [if_neg h1] at hR1
      by_cases h2 : l.length - p < n
      · rw [if_pos h2] at hR1
        subst hR1
        have h2' : (l.length : Int) - (p : Int) < (n : Int) := by omega
        go_enter Tryd.func70, Tryd.ntmps70
        go_wp2_with (go_at_call 68; refine hnum.mono ?_; rintro e w1 ⟨rfl, rfl⟩)
        go_ret3
        exact ⟨none, 0, [], rfl, rfl, World.ownsRow_nil _ _ _ _, Below.refl _ _⟩
      · rw [if_neg h2] at hR1
        subst hR1
        have h2' : ¬ (l.length : Int) - (p : Int) < (n : Int) := by omega
        have hrd := (hr.drop p c (by rw [byts_length]; exact hlc)).take n
        generalize hA1 : (if c = p then A else A.map (·.add p)) = A1 at *
        have hq : ((byts l).drop p).take n = byts ((l.drop p).take n) := by simp [byts]
        rw [hq] at hrd
        have hql : ((l.drop p).take n).length = n := by simp; omega
        generalize (l.drop p).take n = out at *
        have HQ := Lib.hid hql
        clear hq hql
        have hclone := clone_any A1 (c - p) out w hrd (by rw [HQ.out]; omega)
        rw [HQ.out] at hclone
        go_enter Tryd.func70, Tryd.ntmps70
        go_wp2_with (first | (go_at_call 68; refine hnum.mono ?_; rintro e w1 ⟨rfl, rfl⟩) | (go_at_call 84; refine hclone.mono ?_; rintro e w2 ⟨A2, c2, rfl, ho2, hb2⟩))
        go_ret3
        exact ⟨A2, c2, out, by rw [HQ.out]; rfl, rfl, by rw [HQ.out]; exact ho2, hb2⟩
  · have hR1 := HR.out
    rw [if_pos he] at hR1
    subst hR1
    have he' : ((er : Int) != 0) = true := by rw [bne_iff_ne]; omega
    clear HR hok herr he
    go_enter Tryd.func70, Tryd.ntmps70
    go_wp2_with (go_at_call 68; refine hnum.mono ?_; rintro e w1 ⟨rfl, rfl⟩)
    go_ret3
    exact ⟨none, 0, [], rfl, rfl, World.ownsRow_nil _ _ _ _, Below.refl _ _⟩

end Go.Proofs.YthhpcilinkebeaaDoor
/- ModelCodes: operations as bytes: the plain law. -/
namespace Go.Proofs.YthhpcilinkebeaaDoor
set_option maxRecDepth 100000

def u64V (x : Int) : Nat := (x % 18446744073709551616).toNat
def i64V (v : Nat) : Int := if v < 9223372036854775808 then (v : Int) else (v : Int) - 18446744073709551616
theorem i64_u64 {x : Int} (h0 : -9223372036854775808 ≤ x) (h1 : x ≤ 9223372036854775807) : i64V (u64V x) = x := by
  unfold i64V u64V
  split <;> omega
theorem u64V_lt (x : Int) : u64V x < 18446744073709551616 := by unfold u64V; omega
def textB (x : Bts) : Bts := numB x.length ++ x
def encV (o : OV) : Bts := numB (u64V o.kind) ++ textB o.name ++ textB o.dst ++ numB (u64V o.at_) ++ numB (u64V o.n) ++ textB o.data
def numD (r : Bts) : Int × Bts := (i64V (rdNum r).1, r.drop (rdNum r).2.1)
def textD (most : Int) (r : Bts) : Bts × Bts := ((rdBytes most r).1, r.drop (rdBytes most r).2.1)
def decV (b : Bts) : OV :=
  ⟨(numD b).1, (textD 1024 (numD b).2).1, (textD 1024 (textD 1024 (numD b).2).2).1,
    (numD (textD 1024 (textD 1024 (numD b).2).2).2).1,
    (numD (numD (textD 1024 (textD 1024 (numD b).2).2).2).2).1,
    (textD 2097152 (numD (numD (textD 1024 (textD 1024 (numD b).2).2).2).2).2).1⟩
theorem numD_num {x : Int} (h0 : -9223372036854775808 ≤ x) (h1 : x ≤ 9223372036854775807) (r : Bts) : numD (numB (u64V x) ++ r) = (x, r) := by
  unfold numD
  rw [rdNum_numB _ (u64V_lt x), i64_u64 h0 h1]
  simp
theorem textD_text {x : Bts} {most : Nat} (h : x.length ≤ most) (hm : most ≤ 2097152) (r : Bts) : textD most (textB x ++ r) = (x, r) := by
  have e : textB x ++ r = numB x.length ++ (x ++ r) := by unfold textB; rw [List.append_assoc]
  have hn := rdNum_numB x.length (by omega) (x ++ r)
  unfold textD rdBytes
  rw [e, hn]
  dsimp only
  rw [if_neg (by decide), if_neg (by omega), if_neg (by simp)]
  simp [List.drop_append]
theorem dec_enc {o : OV} (k0 : -9223372036854775808 ≤ o.kind) (k1 : o.kind ≤ 9223372036854775807) (a0 : -9223372036854775808 ≤ o.at_) (a1 : o.at_ ≤ 9223372036854775807) (n0 : -9223372036854775808 ≤ o.n) (n1 : o.n ≤ 9223372036854775807)
    (hn : o.name.length ≤ 1024) (hd : o.dst.length ≤ 1024) (hx : o.data.length ≤ 2097152) : decV (encV o) = o := by
  have e : encV o = numB (u64V o.kind) ++ (textB o.name ++ (textB o.dst ++ (numB (u64V o.at_) ++ (numB (u64V o.n) ++ (textB o.data ++ []))))) := by
    unfold encV
    simp only [List.append_assoc, List.append_nil]
  have t1 := @textD_text o.name 1024 hn (by decide)
  have t2 := @textD_text o.dst 1024 hd (by decide)
  have t3 := @textD_text o.data 2097152 hx (by decide)
  unfold decV
  rw [e, numD_num k0 k1]
  dsimp only
  rw [show textD 1024 (textB o.name ++ _) = _ from t1 _]
  dsimp only
  rw [show textD 1024 (textB o.dst ++ _) = _ from t2 _]
  dsimp only
  rw [numD_num a0 a1]
  dsimp only
  rw [numD_num n0 n1]
  dsimp only
  rw [show textD 2097152 (textB o.data ++ _) = _ from t3 _]
end Go.Proofs.YthhpcilinkebeaaDoor
/- ModelCodes: an operation is written as bytes; bytes compared. -/
namespace Go.Proofs.YthhpcilinkebeaaDoor
open Go.RowKit Go.Maps
set_option maxHeartbeats 8000000
set_option maxRecDepth 100000

theorem equal_any (A B : Option Addr) (c d : Nat) (l m : Bts) (w : World) (hl : Rd w A (byts l)) (hm : Rd w B (byts m)) :
    Calls Tryd.prog 65 #[.slice A l.length c, .slice B m.length d] w fun e w' => e = .returned (.bool (decide (l = m))) ∧ Below w.heap.size w w' := by
  have v1 := conv_bytes w A c l hl
  have v2 := conv_bytes w B d m hm
  go_enter Tryd.func65, Tryd.ntmps65
  go_wp2_with fail
  go_ret
  have e : (l == m) = decide (l = m) := by rw [Bool.eq_iff_iff]; simp
  exact ⟨by show Ending.returned (.bool (l == m)) = _; rw [e], Below.refl _ _⟩
theorem strB_len2 (k : ByteArray) : (strB k).length = k.size := rfl
theorem conv_strB (w : World) (k : ByteArray) : ∃ c' w2, (convert 9 31 (.string k)).run Tryd.prog w = .ok (.slice (some ⟨w.heap.size, 0, none⟩) k.size c') w2 ∧ Rd w2 (some ⟨w.heap.size, 0, none⟩) (byts (strB k)) ∧ k.size ≤ c' ∧ Below w.heap.size w w2 := by
  refine ⟨_, _, Lib.run_convert_string_bytes w 9 31 5 k Tryd.underlying9 Tryd.underlying31 Tryd.underlying5, ?_, ?_, ?_⟩
  · intro _
    refine ⟨_, rfl, by rw [Lib.bytesWorld_size]; show w.heap.size < _; omega, fun j u hu => ?_⟩
    have hj : j < k.size := by
      have := (List.getElem?_eq_some_iff.1 hu).1
      rwa [byts_length, strB_len2] at this
    have h := Lib.bytesWorld_cell w 5 k j hj
    have e : (⟨w.heap.size, 0, none⟩ : Addr).add j = ⟨w.heap.size, j, none⟩ := by
      by_cases h0 : j = 0
      · subst h0; rfl
      · simp [Addr.add, h0]
    rw [e, h, ← hu, byts, List.getElem?_map]
    have hj2 : j < k.data.toList.length := hj
    simp [strB, List.getD, List.getElem?_eq_getElem hj2, byt]
  · exact grownCap_ge w k.size 0 5
  · exact ⟨rfl, rfl, rfl, by rw [Lib.bytesWorld_size]; omega, fun j hj => Lib.bytesWorld_at_old w _ k j hj⟩
theorem textB_le (x : List UInt8) : (textB x).length ≤ 10 + x.length := by
  have := (numF_length 9 x.length).1
  simp only [textB, List.length_append]
  show (numF 9 x.length).length + _ ≤ _
  omega
theorem flat_one (s : Sb) : flat [s] = s.l := by simp [flat]
theorem bytes1_any (A : Option Addr) (c : Nat) (l : List UInt8) (Ax : Option Addr) (cx : Nat) (x : List UInt8) (g : Nat) (w : World) (hr : Rd w A (byts l)) (hl : l.length ≤ c) (hx : Rd w Ax (byts x)) (hxc : x.length ≤ cx) (hg : Rd w (some ⟨g, 0, none⟩) [.slice Ax x.length cx]) (hsum : l.length + 10 + x.length ≤ 140737488351232) :
    Calls Tryd.prog 72 #[.slice A l.length c, .slice (some ⟨g, 0, none⟩) 1 1] w fun e w' => ∃ A' c', e = .returned (.slice A' (l ++ textB x).length c') ∧ Rd w' A' (byts (l ++ textB x)) ∧ (l ++ textB x).length ≤ c' ∧ Below w.heap.size w w' := by
  have h := bytes_any A (some ⟨g, 0, none⟩) c 1 l [⟨Ax, cx, x⟩] w hr hl hg (by simp) (by
    intro s hs
    rw [List.mem_singleton.1 hs]
    exact ⟨hx, hxc, by simp only; omega⟩) (by rw [flat_one]; exact hsum)
  rw [flat_one] at h
  refine h.mono ?_
  rintro e w' ⟨A', c', rfl, ho, hb⟩
  exact ⟨A', c', rfl, Rd.of_own ho, (own_cap ho).1, hb⟩
theorem conv_u64 (x : Int) (w : World) : (convert 3 45 (.int .i64 x)).run Tryd.prog w = .ok (.int .u64 ((u64V x : Nat) : Int)) w := by
  have h : (convert 3 45 (.int .i64 x)).run Tryd.prog w = .ok (.int .u64 (IntKind.u64.wrap x)) w := by kernel_rfl
  rw [h, show IntKind.u64.wrap x = ((u64V x : Nat) : Int) by rw [IntKind.wrap_u64]; unfold u64V; omega]
theorem number1_any (A : Option Addr) (c v : Nat) (l : List UInt8) (w : World) (hr : Rd w A (byts l)) (hl : l.length ≤ c) (hc : l.length ≤ 140737488351232) (hv : v < 18446744073709551616) :
    Calls Tryd.prog 71 #[.slice A l.length c, .int .u64 v] w fun e w' => ∃ A' c', e = .returned (.slice A' (l ++ numB v).length c') ∧ Rd w' A' (byts (l ++ numB v)) ∧ (l ++ numB v).length ≤ c' ∧ Below w.heap.size w w' := by
  refine (number_any A c v l w hr hl hc hv).mono ?_
  rintro e w' ⟨A', c', rfl, ho, hb⟩
  exact ⟨A', c', rfl, Rd.of_own ho, (own_cap ho).1, hb⟩
theorem numB_le (v : Nat) : (numB v).length ≤ 10 := (numF_length 9 v).1
section
variable {ρ : Operand → Value} {d : Option Tmp} {ty : TypeId} {pos : String} {af : Array Edge} {g : Option (Nat × Bool)} {w : World}
theorem run_buildSlice1 {x : Operand} {B : Option Addr} {n c : Nat} (hx : ρ x = .slice B n c) : (execOp ρ ⟨d, .buildSlice 144 1 #[(0, x)], ty, pos, af, g⟩).run Tryd.prog w = .ok (.value (.slice (some ⟨w.heap.size, 0, none⟩) 1 1)) (w.alloc (.cells #[.slice B n c] 31)) := by
  refine run_buildSlice_op (size := 1) #[.slice B n c] (.slice none 0 0) Tryd.underlying144 (by kernel_rfl) (by decide) (by decide) ?_
  simp only [List.map_toArray, List.map_cons, List.map_nil, hx]
  kernel_rfl
end
end Go.Proofs.YthhpcilinkebeaaDoor
/- ModelCodes: the drawn regions of Encode. PRINTED by tools/regs_y.py. -/
namespace Go.Proofs.YthhpcilinkebeaaDoor
open Go.RowKit
set_option maxHeartbeats 4000000
set_option maxRecDepth 100000

def opsEn2 : Array Oper := #[(⟨some 8, Op.move (Operand.tmp 3), 31, "model.go:307", #[], none⟩ : Oper), (⟨some 9, Op.fieldAddr 33 (Operand.tmp 1) 1, 0, "model.go:307", #[], none⟩ : Oper), (⟨some 10, Op.load 9 (Operand.tmp 9), 9, "model.go:307", #[{ on := 1, ground := Ground.data }], none⟩ : Oper), (⟨some 11, Op.convert 9 31 (Operand.tmp 10), 31, "model.go:307", #[{ on := 2, ground := Ground.data }], none⟩ : Oper), (⟨some 12, Op.buildSlice 144 1 #[(0, Operand.tmp 11)], 144, "model.go:307", #[{ on := 3, ground := Ground.data }], none⟩ : Oper), (⟨some 13, Op.call { callee := Callee.value (Operand.func 72), args := #[Operand.tmp 8, Operand.tmp 12], argTypes := #[31, 144] }, 31, "model.go:307", #[{ on := 0, ground := Ground.data }, { on := 4, ground := Ground.data }], none⟩ : Oper), (⟨some 14, Op.fieldAddr 33 (Operand.tmp 1) 2, 0, "model.go:307", #[], none⟩ : Oper), (⟨some 15, Op.load 9 (Operand.tmp 14), 9, "model.go:307", #[{ on := 6, ground := Ground.data }], none⟩ : Oper), (⟨some 16, Op.convert 9 31 (Operand.tmp 15), 31, "model.go:307", #[{ on := 7, ground := Ground.data }], none⟩ : Oper), (⟨some 17, Op.buildSlice 144 1 #[(0, Operand.tmp 16)], 144, "model.go:307", #[{ on := 8, ground := Ground.data }], none⟩ : Oper), (⟨some 18, Op.call { callee := Callee.value (Operand.func 72), args := #[Operand.tmp 13, Operand.tmp 17], argTypes := #[31, 144] }, 31, "model.go:307", #[{ on := 5, ground := Ground.data }, { on := 9, ground := Ground.data }, { on := 5, ground := Ground.chain }], none⟩ : Oper), (⟨some 3, Op.assign (Operand.tmp 18), 31, "model.go:307", #[{ on := 10, ground := Ground.data }, { on := 10, ground := Ground.chain }, { on := 0, ground := Ground.phase }, { on := 1, ground := Ground.phase }, { on := 2, ground := Ground.phase }, { on := 3, ground := Ground.phase }, { on := 4, ground := Ground.phase }, { on := 5, ground := Ground.phase }, { on := 6, ground := Ground.phase }, { on := 7, ground := Ground.phase }, { on := 8, ground := Ground.phase }, { on := 9, ground := Ground.phase }, { on := 10, ground := Ground.phase }], none⟩ : Oper)]
def regEn2R (_ : World) (O : Nat) (o : OM) (A : Option Addr) (c : Nat) (b : Bts) (i : Nat) (v : Value) (W : World) : Prop := match i with
  | 0 => v = .slice A b.length c
  | 1 => v = .pointer (some ⟨O, 1, none⟩)
  | 2 => v = .string o.name
  | 3 => ∃ (B : Option Addr) (c2 : Nat), v = .slice B (strB o.name).length c2 ∧ Rd W B (byts (strB o.name)) ∧ (strB o.name).length ≤ c2
  | 4 => ∃ (D : Nat) (B : Option Addr) (c2 : Nat), v = .slice (some ⟨D, 0, none⟩) 1 1 ∧ Rd W (some ⟨D, 0, none⟩) [.slice B (strB o.name).length c2] ∧ Rd W B (byts (strB o.name)) ∧ (strB o.name).length ≤ c2
  | 5 => ∃ (B : Option Addr) (c2 : Nat), v = .slice B (b ++ textB (strB o.name)).length c2 ∧ Rd W B (byts (b ++ textB (strB o.name))) ∧ (b ++ textB (strB o.name)).length ≤ c2
  | 6 => v = .pointer (some ⟨O, 2, none⟩)
  | 7 => v = .string o.dst
  | 8 => ∃ (B : Option Addr) (c2 : Nat), v = .slice B (strB o.dst).length c2 ∧ Rd W B (byts (strB o.dst)) ∧ (strB o.dst).length ≤ c2
  | 9 => ∃ (D : Nat) (B : Option Addr) (c2 : Nat), v = .slice (some ⟨D, 0, none⟩) 1 1 ∧ Rd W (some ⟨D, 0, none⟩) [.slice B (strB o.dst).length c2] ∧ Rd W B (byts (strB o.dst)) ∧ (strB o.dst).length ≤ c2
  | 10 => ∃ (B : Option Addr) (c2 : Nat), v = .slice B (b ++ textB (strB o.name) ++ textB (strB o.dst)).length c2 ∧ Rd W B (byts (b ++ textB (strB o.name) ++ textB (strB o.dst))) ∧ (b ++ textB (strB o.name) ++ textB (strB o.dst)).length ≤ c2
  | 11 => ∃ (B : Option Addr) (c2 : Nat), v = .slice B (b ++ textB (strB o.name) ++ textB (strB o.dst)).length c2 ∧ Rd W B (byts (b ++ textB (strB o.name) ++ textB (strB o.dst))) ∧ (b ++ textB (strB o.name) ++ textB (strB o.dst)).length ≤ c2
  | _ => True
theorem regEn2K (W0 : World) (O : Nat) (o : OM) (A : Option Addr) (c : Nat) (b : Bts) {W W' : World} (hb : Below W.heap.size W W') : Keeps (regEn2R W0 O o A c b) W W' := fun i v h => by
  match i, h with
  | 0, h => exact h
  | 1, h => exact h
  | 2, h => exact h
  | 3, h => exact by obtain ⟨B, c2, h1, h2, h3⟩ := h; exact ⟨B, c2, h1, h2.below hb, h3⟩
  | 4, h => exact by obtain ⟨D, B, c2, h1, h2, h3, h4⟩ := h; exact ⟨D, B, c2, h1, h2.below hb, h3.below hb, h4⟩
  | 5, h => exact by obtain ⟨B, c2, h1, h2, h3⟩ := h; exact ⟨B, c2, h1, h2.below hb, h3⟩
  | 6, h => exact h
  | 7, h => exact h
  | 8, h => exact by obtain ⟨B, c2, h1, h2, h3⟩ := h; exact ⟨B, c2, h1, h2.below hb, h3⟩
  | 9, h => exact by obtain ⟨D, B, c2, h1, h2, h3, h4⟩ := h; exact ⟨D, B, c2, h1, h2.below hb, h3.below hb, h4⟩
  | 10, h => exact by obtain ⟨B, c2, h1, h2, h3⟩ := h; exact ⟨B, c2, h1, h2.below hb, h3⟩
  | 11, h => exact by obtain ⟨B, c2, h1, h2, h3⟩ := h; exact ⟨B, c2, h1, h2.below hb, h3⟩
  | n + 12, h => exact trivial
theorem regEn2_0 {u0 u2 u4 u5 u6 u7 u8 u9 u10 u11 u12 u13 u14 u15 u16 u17 u18 u19 u20 u21 u22 u23 u24 u25 u26 u27 u28 u29 u30 u31 : Value} {DD : List Deferred} (W0 : World) (O : Nat) (o : OM) (A : Option Addr) (c : Nat) (b : Bts) (_ : Blk W0 O 33 o.cells.toArray) (_ : Rd W0 A (byts b)) (_ : b.length ≤ c) (_ : o.name.size ≤ 1048576) (_ : o.dst.size ≤ 1048576) (_ : b.length ≤ 1048576) : ObR Tryd.prog opsEn2 ⟨#[u0, .pointer (some ⟨O, 0, none⟩), u2, .slice A b.length c, u4, u5, u6, u7, u8, u9, u10, u11, u12, u13, u14, u15, u16, u17, u18, u19, u20, u21, u22, u23, u24, u25, u26, u27, u28, u29, u30, u31], DD⟩ (fun (_ : Nat → Bool) (W : World) => Below W0.heap.size W0 W) (regEn2R W0 O o A c b) 0 (⟨some 8, Op.move (Operand.tmp 3), 31, "model.go:307", #[], none⟩ : Oper) := by
  intro done a w hun hpr hsh hS hout hpre
  have o3 := ev ((hout 3 (by kernel_rfl)).trans (show _ = some (.slice A b.length c) from rfl))
  refine .inl ⟨by kernel_rfl, ?_⟩
  exact GivesR.same (run_move_op o3) hS rfl
theorem regEn2_1 {u0 u2 u4 u5 u6 u7 u8 u9 u10 u11 u12 u13 u14 u15 u16 u17 u18 u19 u20 u21 u22 u23 u24 u25 u26 u27 u28 u29 u30 u31 : Value} {DD : List Deferred} (W0 : World) (O : Nat) (o : OM) (A : Option Addr) (c : Nat) (b : Bts) (_ : Blk W0 O 33 o.cells.toArray) (_ : Rd W0 A (byts b)) (_ : b.length ≤ c) (_ : o.name.size ≤ 1048576) (_ : o.dst.size ≤ 1048576) (_ : b.length ≤ 1048576) : ObR Tryd.prog opsEn2 ⟨#[u0, .pointer (some ⟨O, 0, none⟩), u2, .slice A b.length c, u4, u5, u6, u7, u8, u9, u10, u11, u12, u13, u14, u15, u16, u17, u18, u19, u20, u21, u22, u23, u24, u25, u26, u27, u28, u29, u30, u31], DD⟩ (fun (_ : Nat → Bool) (W : World) => Below W0.heap.size W0 W) (regEn2R W0 O o A c b) 1 (⟨some 9, Op.fieldAddr 33 (Operand.tmp 1) 1, 0, "model.go:307", #[], none⟩ : Oper) := by
  intro done a w hun hpr hsh hS hout hpre
  have o1 := ev ((hout 1 (by kernel_rfl)).trans (show _ = some (.pointer (some ⟨O, 0, none⟩)) from rfl))
  refine .inl ⟨by kernel_rfl, ?_⟩
  exact GivesR.same (run_fieldAddr_op o1 (by kernel_rfl)) hS rfl
theorem regEn2_2 {u0 u2 u4 u5 u6 u7 u8 u9 u10 u11 u12 u13 u14 u15 u16 u17 u18 u19 u20 u21 u22 u23 u24 u25 u26 u27 u28 u29 u30 u31 : Value} {DD : List Deferred} (W0 : World) (O : Nat) (o : OM) (A : Option Addr) (c : Nat) (b : Bts) (hO : Blk W0 O 33 o.cells.toArray) (_ : Rd W0 A (byts b)) (_ : b.length ≤ c) (_ : o.name.size ≤ 1048576) (_ : o.dst.size ≤ 1048576) (_ : b.length ≤ 1048576) : ObR Tryd.prog opsEn2 ⟨#[u0, .pointer (some ⟨O, 0, none⟩), u2, .slice A b.length c, u4, u5, u6, u7, u8, u9, u10, u11, u12, u13, u14, u15, u16, u17, u18, u19, u20, u21, u22, u23, u24, u25, u26, u27, u28, u29, u30, u31], DD⟩ (fun (_ : Nat → Bool) (W : World) => Below W0.heap.size W0 W) (regEn2R W0 O o A c b) 2 (⟨some 10, Op.load 9 (Operand.tmp 9), 9, "model.go:307", #[{ on := 1, ground := Ground.data }], none⟩ : Oper) := by
  intro done a w hun hpr hsh hS hout hpre
  obtain ⟨v1, e1, r1⟩ := hpre ⟨1, Ground.data⟩ (by simp) rfl (⟨some 9, Op.fieldAddr 33 (Operand.tmp 1) 1, 0, "model.go:307", #[], none⟩ : Oper) 9 rfl rfl
  replace e1 := ev e1
  change regEn2R W0 O o A c b 1 v1 w at r1
  simp only [regEn2R] at r1
  refine .inl ⟨by kernel_rfl, ?_⟩
  subst r1
  exact GivesR.same (run_load1_op (by kernel_rfl) e1 (((hO.below' hS).cell 1))) hS rfl
theorem regEn2_3 {u0 u2 u4 u5 u6 u7 u8 u9 u10 u11 u12 u13 u14 u15 u16 u17 u18 u19 u20 u21 u22 u23 u24 u25 u26 u27 u28 u29 u30 u31 : Value} {DD : List Deferred} (W0 : World) (O : Nat) (o : OM) (A : Option Addr) (c : Nat) (b : Bts) (_ : Blk W0 O 33 o.cells.toArray) (_ : Rd W0 A (byts b)) (_ : b.length ≤ c) (_ : o.name.size ≤ 1048576) (_ : o.dst.size ≤ 1048576) (_ : b.length ≤ 1048576) : ObR Tryd.prog opsEn2 ⟨#[u0, .pointer (some ⟨O, 0, none⟩), u2, .slice A b.length c, u4, u5, u6, u7, u8, u9, u10, u11, u12, u13, u14, u15, u16, u17, u18, u19, u20, u21, u22, u23, u24, u25, u26, u27, u28, u29, u30, u31], DD⟩ (fun (_ : Nat → Bool) (W : World) => Below W0.heap.size W0 W) (regEn2R W0 O o A c b) 3 (⟨some 11, Op.convert 9 31 (Operand.tmp 10), 31, "model.go:307", #[{ on := 2, ground := Ground.data }], none⟩ : Oper) := by
  intro done a w hun hpr hsh hS hout hpre
  obtain ⟨v2, e2, r2⟩ := hpre ⟨2, Ground.data⟩ (by simp) rfl (⟨some 10, Op.load 9 (Operand.tmp 9), 9, "model.go:307", #[{ on := 1, ground := Ground.data }], none⟩ : Oper) 10 rfl rfl
  replace e2 := ev e2
  change regEn2R W0 O o A c b 2 v2 w at r2
  simp only [regEn2R] at r2
  refine .inl ⟨by kernel_rfl, ?_⟩
  subst r2
  obtain ⟨c2, w2, hrun, h1, h2, h3⟩ := conv_strB w (o.name)
  exact GivesR.val (run_conv2_op e2 hrun) (hS.trans (h3.mono hS.size)) (regEn2K _ _ _ _ _ _ h3) ⟨_, c2, rfl, h1, h2⟩
theorem regEn2_4 {u0 u2 u4 u5 u6 u7 u8 u9 u10 u11 u12 u13 u14 u15 u16 u17 u18 u19 u20 u21 u22 u23 u24 u25 u26 u27 u28 u29 u30 u31 : Value} {DD : List Deferred} (W0 : World) (O : Nat) (o : OM) (A : Option Addr) (c : Nat) (b : Bts) (_ : Blk W0 O 33 o.cells.toArray) (_ : Rd W0 A (byts b)) (_ : b.length ≤ c) (_ : o.name.size ≤ 1048576) (_ : o.dst.size ≤ 1048576) (_ : b.length ≤ 1048576) : ObR Tryd.prog opsEn2 ⟨#[u0, .pointer (some ⟨O, 0, none⟩), u2, .slice A b.length c, u4, u5, u6, u7, u8, u9, u10, u11, u12, u13, u14, u15, u16, u17, u18, u19, u20, u21, u22, u23, u24, u25, u26, u27, u28, u29, u30, u31], DD⟩ (fun (_ : Nat → Bool) (W : World) => Below W0.heap.size W0 W) (regEn2R W0 O o A c b) 4 (⟨some 12, Op.buildSlice 144 1 #[(0, Operand.tmp 11)], 144, "model.go:307", #[{ on := 3, ground := Ground.data }], none⟩ : Oper) := by
  intro done a w hun hpr hsh hS hout hpre
  obtain ⟨v3, e3, r3⟩ := hpre ⟨3, Ground.data⟩ (by simp) rfl (⟨some 11, Op.convert 9 31 (Operand.tmp 10), 31, "model.go:307", #[{ on := 2, ground := Ground.data }], none⟩ : Oper) 11 rfl rfl
  replace e3 := ev e3
  change regEn2R W0 O o A c b 3 v3 w at r3
  simp only [regEn2R] at r3
  refine .inl ⟨by kernel_rfl, ?_⟩
  obtain ⟨B, c2, rfl, h1, h2⟩ := r3
  have hb := (Below.refl w.heap.size w).alloc (Nat.le_refl _) (.cells #[.slice B (strB o.name).length c2] 31)
  exact GivesR.val (run_buildSlice1 e3) (hS.trans (hb.mono hS.size)) (regEn2K _ _ _ _ _ _ hb) ⟨_, B, c2, rfl, Rd.one _ _ _, h1.below hb, h2⟩
theorem regEn2_5 {u0 u2 u4 u5 u6 u7 u8 u9 u10 u11 u12 u13 u14 u15 u16 u17 u18 u19 u20 u21 u22 u23 u24 u25 u26 u27 u28 u29 u30 u31 : Value} {DD : List Deferred} (W0 : World) (O : Nat) (o : OM) (A : Option Addr) (c : Nat) (b : Bts) (_ : Blk W0 O 33 o.cells.toArray) (hr : Rd W0 A (byts b)) (hc : b.length ≤ c) (_ : o.name.size ≤ 1048576) (_ : o.dst.size ≤ 1048576) (_ : b.length ≤ 1048576) : ObR Tryd.prog opsEn2 ⟨#[u0, .pointer (some ⟨O, 0, none⟩), u2, .slice A b.length c, u4, u5, u6, u7, u8, u9, u10, u11, u12, u13, u14, u15, u16, u17, u18, u19, u20, u21, u22, u23, u24, u25, u26, u27, u28, u29, u30, u31], DD⟩ (fun (_ : Nat → Bool) (W : World) => Below W0.heap.size W0 W) (regEn2R W0 O o A c b) 5 (⟨some 13, Op.call { callee := Callee.value (Operand.func 72), args := #[Operand.tmp 8, Operand.tmp 12], argTypes := #[31, 144] }, 31, "model.go:307", #[{ on := 0, ground := Ground.data }, { on := 4, ground := Ground.data }], none⟩ : Oper) := by
  intro done a w hun hpr hsh hS hout hpre
  obtain ⟨v0, e0, r0⟩ := hpre ⟨0, Ground.data⟩ (by simp) rfl (⟨some 8, Op.move (Operand.tmp 3), 31, "model.go:307", #[], none⟩ : Oper) 8 rfl rfl
  replace e0 := ev e0
  change regEn2R W0 O o A c b 0 v0 w at r0
  simp only [regEn2R] at r0
  obtain ⟨v4, e4, r4⟩ := hpre ⟨4, Ground.data⟩ (by simp) rfl (⟨some 12, Op.buildSlice 144 1 #[(0, Operand.tmp 11)], 144, "model.go:307", #[{ on := 3, ground := Ground.data }], none⟩ : Oper) 12 rfl rfl
  replace e4 := ev e4
  change regEn2R W0 O o A c b 4 v4 w at r4
  simp only [regEn2R] at r4
  refine .inl ⟨by kernel_rfl, ?_⟩
  subst r0
  have hbr := hr.below hS
  have hbc := hc
  obtain ⟨D, B, c2, rfl, h1, h2, h3⟩ := r4
  have hcall := bytes1_any A c (b) B c2 (strB o.name) D w hbr hbc h2 h3 h1 (by have e0 := textB_le (strB o.name); have e1 : (strB o.name).length = o.name.size := rfl; have e2 : (strB o.dst).length = o.dst.size := rfl; (try simp only [List.length_append]); omega)
  refine GivesR.call (run_call_op (vs := #[.slice A (b).length c, .slice (some ⟨D, 0, none⟩) 1 1]) (by simp [e0, e4]) rfl (by kernel_rfl)) (hcall.mono ?_)
  rintro e w2 ⟨A2, c3, rfl, h4, h5, h6⟩
  exact ⟨_, rfl, hS.trans (h6.mono hS.size), regEn2K _ _ _ _ _ _ h6, A2, c3, rfl, h4, h5⟩
theorem regEn2_6 {u0 u2 u4 u5 u6 u7 u8 u9 u10 u11 u12 u13 u14 u15 u16 u17 u18 u19 u20 u21 u22 u23 u24 u25 u26 u27 u28 u29 u30 u31 : Value} {DD : List Deferred} (W0 : World) (O : Nat) (o : OM) (A : Option Addr) (c : Nat) (b : Bts) (_ : Blk W0 O 33 o.cells.toArray) (_ : Rd W0 A (byts b)) (_ : b.length ≤ c) (_ : o.name.size ≤ 1048576) (_ : o.dst.size ≤ 1048576) (_ : b.length ≤ 1048576) : ObR Tryd.prog opsEn2 ⟨#[u0, .pointer (some ⟨O, 0, none⟩), u2, .slice A b.length c, u4, u5, u6, u7, u8, u9, u10, u11, u12, u13, u14, u15, u16, u17, u18, u19, u20, u21, u22, u23, u24, u25, u26, u27, u28, u29, u30, u31], DD⟩ (fun (_ : Nat → Bool) (W : World) => Below W0.heap.size W0 W) (regEn2R W0 O o A c b) 6 (⟨some 14, Op.fieldAddr 33 (Operand.tmp 1) 2, 0, "model.go:307", #[], none⟩ : Oper) := by
  intro done a w hun hpr hsh hS hout hpre
  have o1 := ev ((hout 1 (by kernel_rfl)).trans (show _ = some (.pointer (some ⟨O, 0, none⟩)) from rfl))
  refine .inl ⟨by kernel_rfl, ?_⟩
  exact GivesR.same (run_fieldAddr_op o1 (by kernel_rfl)) hS rfl
theorem regEn2_7 {u0 u2 u4 u5 u6 u7 u8 u9 u10 u11 u12 u13 u14 u15 u16 u17 u18 u19 u20 u21 u22 u23 u24 u25 u26 u27 u28 u29 u30 u31 : Value} {DD : List Deferred} (W0 : World) (O : Nat) (o : OM) (A : Option Addr) (c : Nat) (b : Bts) (hO : Blk W0 O 33 o.cells.toArray) (_ : Rd W0 A (byts b)) (_ : b.length ≤ c) (_ : o.name.size ≤ 1048576) (_ : o.dst.size ≤ 1048576) (_ : b.length ≤ 1048576) : ObR Tryd.prog opsEn2 ⟨#[u0, .pointer (some ⟨O, 0, none⟩), u2, .slice A b.length c, u4, u5, u6, u7, u8, u9, u10, u11, u12, u13, u14, u15, u16, u17, u18, u19, u20, u21, u22, u23, u24, u25, u26, u27, u28, u29, u30, u31], DD⟩ (fun (_ : Nat → Bool) (W : World) => Below W0.heap.size W0 W) (regEn2R W0 O o A c b) 7 (⟨some 15, Op.load 9 (Operand.tmp 14), 9, "model.go:307", #[{ on := 6, ground := Ground.data }], none⟩ : Oper) := by
  intro done a w hun hpr hsh hS hout hpre
  obtain ⟨v6, e6, r6⟩ := hpre ⟨6, Ground.data⟩ (by simp) rfl (⟨some 14, Op.fieldAddr 33 (Operand.tmp 1) 2, 0, "model.go:307", #[], none⟩ : Oper) 14 rfl rfl
  replace e6 := ev e6
  change regEn2R W0 O o A c b 6 v6 w at r6
  simp only [regEn2R] at r6
  refine .inl ⟨by kernel_rfl, ?_⟩
  subst r6
  exact GivesR.same (run_load1_op (by kernel_rfl) e6 (((hO.below' hS).cell 2))) hS rfl
theorem regEn2_8 {u0 u2 u4 u5 u6 u7 u8 u9 u10 u11 u12 u13 u14 u15 u16 u17 u18 u19 u20 u21 u22 u23 u24 u25 u26 u27 u28 u29 u30 u31 : Value} {DD : List Deferred} (W0 : World) (O : Nat) (o : OM) (A : Option Addr) (c : Nat) (b : Bts) (_ : Blk W0 O 33 o.cells.toArray) (_ : Rd W0 A (byts b)) (_ : b.length ≤ c) (_ : o.name.size ≤ 1048576) (_ : o.dst.size ≤ 1048576) (_ : b.length ≤ 1048576) : ObR Tryd.prog opsEn2 ⟨#[u0, .pointer (some ⟨O, 0, none⟩), u2, .slice A b.length c, u4, u5, u6, u7, u8, u9, u10, u11, u12, u13, u14, u15, u16, u17, u18, u19, u20, u21, u22, u23, u24, u25, u26, u27, u28, u29, u30, u31], DD⟩ (fun (_ : Nat → Bool) (W : World) => Below W0.heap.size W0 W) (regEn2R W0 O o A c b) 8 (⟨some 16, Op.convert 9 31 (Operand.tmp 15), 31, "model.go:307", #[{ on := 7, ground := Ground.data }], none⟩ : Oper) := by
  intro done a w hun hpr hsh hS hout hpre
  obtain ⟨v7, e7, r7⟩ := hpre ⟨7, Ground.data⟩ (by simp) rfl (⟨some 15, Op.load 9 (Operand.tmp 14), 9, "model.go:307", #[{ on := 6, ground := Ground.data }], none⟩ : Oper) 15 rfl rfl
  replace e7 := ev e7
  change regEn2R W0 O o A c b 7 v7 w at r7
  simp only [regEn2R] at r7
  refine .inl ⟨by kernel_rfl, ?_⟩
  subst r7
  obtain ⟨c2, w2, hrun, h1, h2, h3⟩ := conv_strB w (o.dst)
  exact GivesR.val (run_conv2_op e7 hrun) (hS.trans (h3.mono hS.size)) (regEn2K _ _ _ _ _ _ h3) ⟨_, c2, rfl, h1, h2⟩
theorem regEn2_9 {u0 u2 u4 u5 u6 u7 u8 u9 u10 u11 u12 u13 u14 u15 u16 u17 u18 u19 u20 u21 u22 u23 u24 u25 u26 u27 u28 u29 u30 u31 : Value} {DD : List Deferred} (W0 : World) (O : Nat) (o : OM) (A : Option Addr) (c : Nat) (b : Bts) (_ : Blk W0 O 33 o.cells.toArray) (_ : Rd W0 A (byts b)) (_ : b.length ≤ c) (_ : o.name.size ≤ 1048576) (_ : o.dst.size ≤ 1048576) (_ : b.length ≤ 1048576) : ObR Tryd.prog opsEn2 ⟨#[u0, .pointer (some ⟨O, 0, none⟩), u2, .slice A b.length c, u4, u5, u6, u7, u8, u9, u10, u11, u12, u13, u14, u15, u16, u17, u18, u19, u20, u21, u22, u23, u24, u25, u26, u27, u28, u29, u30, u31], DD⟩ (fun (_ : Nat → Bool) (W : World) => Below W0.heap.size W0 W) (regEn2R W0 O o A c b) 9 (⟨some 17, Op.buildSlice 144 1 #[(0, Operand.tmp 16)], 144, "model.go:307", #[{ on := 8, ground := Ground.data }], none⟩ : Oper) := by
  intro done a w hun hpr hsh hS hout hpre
  obtain ⟨v8, e8, r8⟩ := hpre ⟨8, Ground.data⟩ (by simp) rfl (⟨some 16, Op.convert 9 31 (Operand.tmp 15), 31, "model.go:307", #[{ on := 7, ground := Ground.data }], none⟩ : Oper) 16 rfl rfl
  replace e8 := ev e8
  change regEn2R W0 O o A c b 8 v8 w at r8
  simp only [regEn2R] at r8
  refine .inl ⟨by kernel_rfl, ?_⟩
  obtain ⟨B, c2, rfl, h1, h2⟩ := r8
  have hb := (Below.refl w.heap.size w).alloc (Nat.le_refl _) (.cells #[.slice B (strB o.dst).length c2] 31)
  exact GivesR.val (run_buildSlice1 e8) (hS.trans (hb.mono hS.size)) (regEn2K _ _ _ _ _ _ hb) ⟨_, B, c2, rfl, Rd.one _ _ _, h1.below hb, h2⟩
theorem regEn2_10 {u0 u2 u4 u5 u6 u7 u8 u9 u10 u11 u12 u13 u14 u15 u16 u17 u18 u19 u20 u21 u22 u23 u24 u25 u26 u27 u28 u29 u30 u31 : Value} {DD : List Deferred} (W0 : World) (O : Nat) (o : OM) (A : Option Addr) (c : Nat) (b : Bts) (_ : Blk W0 O 33 o.cells.toArray) (_ : Rd W0 A (byts b)) (_ : b.length ≤ c) (_ : o.name.size ≤ 1048576) (_ : o.dst.size ≤ 1048576) (_ : b.length ≤ 1048576) : ObR Tryd.prog opsEn2 ⟨#[u0, .pointer (some ⟨O, 0, none⟩), u2, .slice A b.length c, u4, u5, u6, u7, u8, u9, u10, u11, u12, u13, u14, u15, u16, u17, u18, u19, u20, u21, u22, u23, u24, u25, u26, u27, u28, u29, u30, u31], DD⟩ (fun (_ : Nat → Bool) (W : World) => Below W0.heap.size W0 W) (regEn2R W0 O o A c b) 10 (⟨some 18, Op.call { callee := Callee.value (Operand.func 72), args := #[Operand.tmp 13, Operand.tmp 17], argTypes := #[31, 144] }, 31, "model.go:307", #[{ on := 5, ground := Ground.data }, { on := 9, ground := Ground.data }, { on := 5, ground := Ground.chain }], none⟩ : Oper) := by
  intro done a w hun hpr hsh hS hout hpre
  obtain ⟨v5, e5, r5⟩ := hpre ⟨5, Ground.data⟩ (by simp) rfl (⟨some 13, Op.call { callee := Callee.value (Operand.func 72), args := #[Operand.tmp 8, Operand.tmp 12], argTypes := #[31, 144] }, 31, "model.go:307", #[{ on := 0, ground := Ground.data }, { on := 4, ground := Ground.data }], none⟩ : Oper) 13 rfl rfl
  replace e5 := ev e5
  change regEn2R W0 O o A c b 5 v5 w at r5
  simp only [regEn2R] at r5
  obtain ⟨v9, e9, r9⟩ := hpre ⟨9, Ground.data⟩ (by simp) rfl (⟨some 17, Op.buildSlice 144 1 #[(0, Operand.tmp 16)], 144, "model.go:307", #[{ on := 8, ground := Ground.data }], none⟩ : Oper) 17 rfl rfl
  replace e9 := ev e9
  change regEn2R W0 O o A c b 9 v9 w at r9
  simp only [regEn2R] at r9
  refine .inl ⟨by kernel_rfl, ?_⟩
  obtain ⟨A1, c1, rfl, hbr, hbc⟩ := r5
  obtain ⟨D, B, c2, rfl, h1, h2, h3⟩ := r9
  have hcall := bytes1_any A1 c1 (b ++ textB (strB o.name)) B c2 (strB o.dst) D w hbr hbc h2 h3 h1 (by have e0 := textB_le (strB o.name); have e1 : (strB o.name).length = o.name.size := rfl; have e2 : (strB o.dst).length = o.dst.size := rfl; (try simp only [List.length_append]); omega)
  refine GivesR.call (run_call_op (vs := #[.slice A1 (b ++ textB (strB o.name)).length c1, .slice (some ⟨D, 0, none⟩) 1 1]) (by simp [e5, e9]) rfl (by kernel_rfl)) (hcall.mono ?_)
  rintro e w2 ⟨A2, c3, rfl, h4, h5, h6⟩
  exact ⟨_, rfl, hS.trans (h6.mono hS.size), regEn2K _ _ _ _ _ _ h6, A2, c3, rfl, h4, h5⟩
theorem regEn2_11 {u0 u2 u4 u5 u6 u7 u8 u9 u10 u11 u12 u13 u14 u15 u16 u17 u18 u19 u20 u21 u22 u23 u24 u25 u26 u27 u28 u29 u30 u31 : Value} {DD : List Deferred} (W0 : World) (O : Nat) (o : OM) (A : Option Addr) (c : Nat) (b : Bts) (_ : Blk W0 O 33 o.cells.toArray) (_ : Rd W0 A (byts b)) (_ : b.length ≤ c) (_ : o.name.size ≤ 1048576) (_ : o.dst.size ≤ 1048576) (_ : b.length ≤ 1048576) : ObR Tryd.prog opsEn2 ⟨#[u0, .pointer (some ⟨O, 0, none⟩), u2, .slice A b.length c, u4, u5, u6, u7, u8, u9, u10, u11, u12, u13, u14, u15, u16, u17, u18, u19, u20, u21, u22, u23, u24, u25, u26, u27, u28, u29, u30, u31], DD⟩ (fun (_ : Nat → Bool) (W : World) => Below W0.heap.size W0 W) (regEn2R W0 O o A c b) 11 (⟨some 3, Op.assign (Operand.tmp 18), 31, "model.go:307", #[{ on := 10, ground := Ground.data }, { on := 10, ground := Ground.chain }, { on := 0, ground := Ground.phase }, { on := 1, ground := Ground.phase }, { on := 2, ground := Ground.phase }, { on := 3, ground := Ground.phase }, { on := 4, ground := Ground.phase }, { on := 5, ground := Ground.phase }, { on := 6, ground := Ground.phase }, { on := 7, ground := Ground.phase }, { on := 8, ground := Ground.phase }, { on := 9, ground := Ground.phase }, { on := 10, ground := Ground.phase }], none⟩ : Oper) := by
  intro done a w hun hpr hsh hS hout hpre
  obtain ⟨v10, e10, r10⟩ := hpre ⟨10, Ground.data⟩ (by simp) rfl (⟨some 18, Op.call { callee := Callee.value (Operand.func 72), args := #[Operand.tmp 13, Operand.tmp 17], argTypes := #[31, 144] }, 31, "model.go:307", #[{ on := 5, ground := Ground.data }, { on := 9, ground := Ground.data }, { on := 5, ground := Ground.chain }], none⟩ : Oper) 18 rfl rfl
  replace e10 := ev e10
  change regEn2R W0 O o A c b 10 v10 w at r10
  simp only [regEn2R] at r10
  refine .inl ⟨by kernel_rfl, ?_⟩
  obtain ⟨A1, c1, rfl, h1, h2⟩ := r10
  exact GivesR.same (run_assign_op e10) hS ⟨A1, c1, rfl, h1, h2⟩
theorem regEn2 {u0 u2 u4 u5 u6 u7 u8 u9 u10 u11 u12 u13 u14 u15 u16 u17 u18 u19 u20 u21 u22 u23 u24 u25 u26 u27 u28 u29 u30 u31 : Value} {DD : List Deferred} (W0 : World) (O : Nat) (o : OM) (A : Option Addr) (c : Nat) (b : Bts) (hO : Blk W0 O 33 o.cells.toArray) (hr : Rd W0 A (byts b)) (hc : b.length ≤ c) (hn : o.name.size ≤ 1048576) (hd : o.dst.size ≤ 1048576) (hl : b.length ≤ 1048576) {Q : Exit → Act → World → Prop} {w : World} (hS : (fun (_ : Nat → Bool) (W : World) => Below W0.heap.size W0 W) (fun _ => false) w.drew)
    (hend : ∀ (v : Nat → Value) (w2 : World), (fun (_ : Nat → Bool) (W : World) => Below W0.heap.size W0 W) (fun k => decide (k < 12)) w2 → (∀ i, i < 12 → regEn2R W0 O o A c b i (v i) w2) → Q .normal ⟨#[u0, .pointer (some ⟨O, 0, none⟩), u2, v 11, u4, u5, u6, u7, v 0, v 1, v 2, v 3, v 4, v 5, v 6, v 7, v 8, v 9, v 10, u19, u20, u21, u22, u23, u24, u25, u26, u27, u28, u29, u30, u31], DD⟩ w2) :
    (Code.region 2 opsEn2 true).wp Tryd.prog Q ⟨#[u0, .pointer (some ⟨O, 0, none⟩), u2, .slice A b.length c, u4, u5, u6, u7, u8, u9, u10, u11, u12, u13, u14, u15, u16, u17, u18, u19, u20, u21, u22, u23, u24, u25, u26, u27, u28, u29, u30, u31], DD⟩ w := by
  refine wp_region_flow (S := fun (_ : Nat → Bool) (W : World) => Below W0.heap.size W0 W) (R := regEn2R W0 O o A c b) (by kernel_rfl) (by kernel_rfl) hS ?_ ?_
  · intro i o hi
    match i, hi with
    | 0, hi => injection hi with hi; subst hi; exact regEn2_0 (u0 := u0) (u2 := u2) (u4 := u4) (u5 := u5) (u6 := u6) (u7 := u7) (u8 := u8) (u9 := u9) (u10 := u10) (u11 := u11) (u12 := u12) (u13 := u13) (u14 := u14) (u15 := u15) (u16 := u16) (u17 := u17) (u18 := u18) (u19 := u19) (u20 := u20) (u21 := u21) (u22 := u22) (u23 := u23) (u24 := u24) (u25 := u25) (u26 := u26) (u27 := u27) (u28 := u28) (u29 := u29) (u30 := u30) (u31 := u31) (DD := DD) W0 O o A c b hO hr hc hn hd hl
    | 1, hi => injection hi with hi; subst hi; exact regEn2_1 (u0 := u0) (u2 := u2) (u4 := u4) (u5 := u5) (u6 := u6) (u7 := u7) (u8 := u8) (u9 := u9) (u10 := u10) (u11 := u11) (u12 := u12) (u13 := u13) (u14 := u14) (u15 := u15) (u16 := u16) (u17 := u17) (u18 := u18) (u19 := u19) (u20 := u20) (u21 := u21) (u22 := u22) (u23 := u23) (u24 := u24) (u25 := u25) (u26 := u26) (u27 := u27) (u28 := u28) (u29 := u29) (u30 := u30) (u31 := u31) (DD := DD) W0 O o A c b hO hr hc hn hd hl
    | 2, hi => injection hi with hi; subst hi; exact regEn2_2 (u0 := u0) (u2 := u2) (u4 := u4) (u5 := u5) (u6 := u6) (u7 := u7) (u8 := u8) (u9 := u9) (u10 := u10) (u11 := u11) (u12 := u12) (u13 := u13) (u14 := u14) (u15 := u15) (u16 := u16) (u17 := u17) (u18 := u18) (u19 := u19) (u20 := u20) (u21 := u21) (u22 := u22) (u23 := u23) (u24 := u24) (u25 := u25) (u26 := u26) (u27 := u27) (u28 := u28) (u29 := u29) (u30 := u30) (u31 := u31) (DD := DD) W0 O o A c b hO hr hc hn hd hl
    | 3, hi => injection hi with hi; subst hi; exact regEn2_3 (u0 := u0) (u2 := u2) (u4 := u4) (u5 := u5) (u6 := u6) (u7 := u7) (u8 := u8) (u9 := u9) (u10 := u10) (u11 := u11) (u12 := u12) (u13 := u13) (u14 := u14) (u15 := u15) (u16 := u16) (u17 := u17) (u18 := u18) (u19 := u19) (u20 := u20) (u21 := u21) (u22 := u22) (u23 := u23) (u24 := u24) (u25 := u25) (u26 := u26) (u27 := u27) (u28 := u28) (u29 := u29) (u30 := u30) (u31 := u31) (DD := DD) W0 O o A c b hO hr hc hn hd hl
    | 4, hi => injection hi with hi; subst hi; exact regEn2_4 (u0 := u0) (u2 := u2) (u4 := u4) (u5 := u5) (u6 := u6) (u7 := u7) (u8 := u8) (u9 := u9) (u10 := u10) (u11 := u11) (u12 := u12) (u13 := u13) (u14 := u14) (u15 := u15) (u16 := u16) (u17 := u17) (u18 := u18) (u19 := u19) (u20 := u20) (u21 := u21) (u22 := u22) (u23 := u23) (u24 := u24) (u25 := u25) (u26 := u26) (u27 := u27) (u28 := u28) (u29 := u29) (u30 := u30) (u31 := u31) (DD := DD) W0 O o A c b hO hr hc hn hd hl
    | 5, hi => injection hi with hi; subst hi; exact regEn2_5 (u0 := u0) (u2 := u2) (u4 := u4) (u5 := u5) (u6 := u6) (u7 := u7) (u8 := u8) (u9 := u9) (u10 := u10) (u11 := u11) (u12 := u12) (u13 := u13) (u14 := u14) (u15 := u15) (u16 := u16) (u17 := u17) (u18 := u18) (u19 := u19) (u20 := u20) (u21 := u21) (u22 := u22) (u23 := u23) (u24 := u24) (u25 := u25) (u26 := u26) (u27 := u27) (u28 := u28) (u29 := u29) (u30 := u30) (u31 := u31) (DD := DD) W0 O o A c b hO hr hc hn hd hl
    | 6, hi => injection hi with hi; subst hi; exact regEn2_6 (u0 := u0) (u2 := u2) (u4 := u4) (u5 := u5) (u6 := u6) (u7 := u7) (u8 := u8) (u9 := u9) (u10 := u10) (u11 := u11) (u12 := u12) (u13 := u13) (u14 := u14) (u15 := u15) (u16 := u16) (u17 := u17) (u18 := u18) (u19 := u19) (u20 := u20) (u21 := u21) (u22 := u22) (u23 := u23) (u24 := u24) (u25 := u25) (u26 := u26) (u27 := u27) (u28 := u28) (u29 := u29) (u30 := u30) (u31 := u31) (DD := DD) W0 O o A c b hO hr hc hn hd hl
    | 7, hi => injection hi with hi; subst hi; exact regEn2_7 (u0 := u0) (u2 := u2) (u4 := u4) (u5 := u5) (u6 := u6) (u7 := u7) (u8 := u8) (u9 := u9) (u10 := u10) (u11 := u11) (u12 := u12) (u13 := u13) (u14 := u14) (u15 := u15) (u16 := u16) (u17 := u17) (u18 := u18) (u19 := u19) (u20 := u20) (u21 := u21) (u22 := u22) (u23 := u23) (u24 := u24) (u25 := u25) (u26 := u26) (u27 := u27) (u28 := u28) (u29 := u29) (u30 := u30) (u31 := u31) (DD := DD) W0 O o A c b hO hr hc hn hd hl
    | 8, hi => injection hi with hi; subst hi; exact regEn2_8 (u0 := u0) (u2 := u2) (u4 := u4) (u5 := u5) (u6 := u6) (u7 := u7) (u8 := u8) (u9 := u9) (u10 := u10) (u11 := u11) (u12 := u12) (u13 := u13) (u14 := u14) (u15 := u15) (u16 := u16) (u17 := u17) (u18 := u18) (u19 := u19) (u20 := u20) (u21 := u21) (u22 := u22) (u23 := u23) (u24 := u24) (u25 := u25) (u26 := u26) (u27 := u27) (u28 := u28) (u29 := u29) (u30 := u30) (u31 := u31) (DD := DD) W0 O o A c b hO hr hc hn hd hl
    | 9, hi => injection hi with hi; subst hi; exact regEn2_9 (u0 := u0) (u2 := u2) (u4 := u4) (u5 := u5) (u6 := u6) (u7 := u7) (u8 := u8) (u9 := u9) (u10 := u10) (u11 := u11) (u12 := u12) (u13 := u13) (u14 := u14) (u15 := u15) (u16 := u16) (u17 := u17) (u18 := u18) (u19 := u19) (u20 := u20) (u21 := u21) (u22 := u22) (u23 := u23) (u24 := u24) (u25 := u25) (u26 := u26) (u27 := u27) (u28 := u28) (u29 := u29) (u30 := u30) (u31 := u31) (DD := DD) W0 O o A c b hO hr hc hn hd hl
    | 10, hi => injection hi with hi; subst hi; exact regEn2_10 (u0 := u0) (u2 := u2) (u4 := u4) (u5 := u5) (u6 := u6) (u7 := u7) (u8 := u8) (u9 := u9) (u10 := u10) (u11 := u11) (u12 := u12) (u13 := u13) (u14 := u14) (u15 := u15) (u16 := u16) (u17 := u17) (u18 := u18) (u19 := u19) (u20 := u20) (u21 := u21) (u22 := u22) (u23 := u23) (u24 := u24) (u25 := u25) (u26 := u26) (u27 := u27) (u28 := u28) (u29 := u29) (u30 := u30) (u31 := u31) (DD := DD) W0 O o A c b hO hr hc hn hd hl
    | 11, hi => injection hi with hi; subst hi; exact regEn2_11 (u0 := u0) (u2 := u2) (u4 := u4) (u5 := u5) (u6 := u6) (u7 := u7) (u8 := u8) (u9 := u9) (u10 := u10) (u11 := u11) (u12 := u12) (u13 := u13) (u14 := u14) (u15 := u15) (u16 := u16) (u17 := u17) (u18 := u18) (u19 := u19) (u20 := u20) (u21 := u21) (u22 := u22) (u23 := u23) (u24 := u24) (u25 := u25) (u26 := u26) (u27 := u27) (u28 := u28) (u29 := u29) (u30 := u30) (u31 := u31) (DD := DD) W0 O o A c b hO hr hc hn hd hl
    | n + 12, hi => exact absurd (Array.getElem?_eq_some_iff.1 hi).1 (by show ¬ n + 12 < 12; omega)
  · intro v w2 h1 h2
    have hp : puts opsEn2 ⟨#[u0, .pointer (some ⟨O, 0, none⟩), u2, .slice A b.length c, u4, u5, u6, u7, u8, u9, u10, u11, u12, u13, u14, u15, u16, u17, u18, u19, u20, u21, u22, u23, u24, u25, u26, u27, u28, u29, u30, u31], DD⟩ v = ⟨#[u0, .pointer (some ⟨O, 0, none⟩), u2, v 11, u4, u5, u6, u7, v 0, v 1, v 2, v 3, v 4, v 5, v 6, v 7, v 8, v 9, v 10, u19, u20, u21, u22, u23, u24, u25, u26, u27, u28, u29, u30, u31], DD⟩ := by kernel_rfl
    rw [hp]
    refine hend v w2 h1 fun i hi => ?_
    match i, hi with
    | 0, _ => exact h2 0 _ _ rfl rfl
    | 1, _ => exact h2 1 _ _ rfl rfl
    | 2, _ => exact h2 2 _ _ rfl rfl
    | 3, _ => exact h2 3 _ _ rfl rfl
    | 4, _ => exact h2 4 _ _ rfl rfl
    | 5, _ => exact h2 5 _ _ rfl rfl
    | 6, _ => exact h2 6 _ _ rfl rfl
    | 7, _ => exact h2 7 _ _ rfl rfl
    | 8, _ => exact h2 8 _ _ rfl rfl
    | 9, _ => exact h2 9 _ _ rfl rfl
    | 10, _ => exact h2 10 _ _ rfl rfl
    | 11, _ => exact h2 11 _ _ rfl rfl
    | n + 12, hi => omega
def opsEn3 : Array Oper := #[(⟨some 19, Op.move (Operand.tmp 3), 31, "model.go:308", #[], none⟩ : Oper), (⟨some 20, Op.fieldAddr 33 (Operand.tmp 1) 3, 0, "model.go:308", #[], none⟩ : Oper), (⟨some 21, Op.load 3 (Operand.tmp 20), 3, "model.go:308", #[{ on := 1, ground := Ground.data }], none⟩ : Oper), (⟨some 22, Op.convert 3 45 (Operand.tmp 21), 45, "model.go:308", #[{ on := 2, ground := Ground.data }], none⟩ : Oper), (⟨some 23, Op.call { callee := Callee.value (Operand.func 71), args := #[Operand.tmp 19, Operand.tmp 22], argTypes := #[31, 45] }, 31, "model.go:308", #[{ on := 0, ground := Ground.data }, { on := 3, ground := Ground.data }], none⟩ : Oper), (⟨some 24, Op.fieldAddr 33 (Operand.tmp 1) 4, 0, "model.go:308", #[], none⟩ : Oper), (⟨some 25, Op.load 3 (Operand.tmp 24), 3, "model.go:308", #[{ on := 5, ground := Ground.data }], none⟩ : Oper), (⟨some 26, Op.convert 3 45 (Operand.tmp 25), 45, "model.go:308", #[{ on := 6, ground := Ground.data }], none⟩ : Oper), (⟨some 27, Op.call { callee := Callee.value (Operand.func 71), args := #[Operand.tmp 23, Operand.tmp 26], argTypes := #[31, 45] }, 31, "model.go:308", #[{ on := 4, ground := Ground.data }, { on := 7, ground := Ground.data }, { on := 4, ground := Ground.chain }], none⟩ : Oper), (⟨some 28, Op.fieldAddr 33 (Operand.tmp 1) 5, 0, "model.go:308", #[], none⟩ : Oper), (⟨some 29, Op.load 31 (Operand.tmp 28), 31, "model.go:308", #[{ on := 9, ground := Ground.data }], none⟩ : Oper), (⟨some 30, Op.buildSlice 144 1 #[(0, Operand.tmp 29)], 144, "model.go:308", #[{ on := 10, ground := Ground.data }], none⟩ : Oper), (⟨some 31, Op.call { callee := Callee.value (Operand.func 72), args := #[Operand.tmp 27, Operand.tmp 30], argTypes := #[31, 144] }, 31, "model.go:308", #[{ on := 8, ground := Ground.data }, { on := 11, ground := Ground.data }, { on := 8, ground := Ground.chain }], none⟩ : Oper), (⟨some 2, Op.assign (Operand.tmp 31), 31, "model.go:308", #[{ on := 12, ground := Ground.data }, { on := 12, ground := Ground.chain }, { on := 0, ground := Ground.phase }, { on := 1, ground := Ground.phase }, { on := 2, ground := Ground.phase }, { on := 3, ground := Ground.phase }, { on := 4, ground := Ground.phase }, { on := 5, ground := Ground.phase }, { on := 6, ground := Ground.phase }, { on := 7, ground := Ground.phase }, { on := 8, ground := Ground.phase }, { on := 9, ground := Ground.phase }, { on := 10, ground := Ground.phase }, { on := 11, ground := Ground.phase }, { on := 12, ground := Ground.phase }], none⟩ : Oper)]
def regEn3R (_ : World) (O : Nat) (o : OM) (A : Option Addr) (c : Nat) (b : Bts) (i : Nat) (v : Value) (W : World) : Prop := match i with
  | 0 => v = .slice A b.length c
  | 1 => v = .pointer (some ⟨O, 3, none⟩)
  | 2 => v = .int .i64 o.at_
  | 3 => v = .int .u64 ((u64V o.at_ : Nat) : Int)
  | 4 => ∃ (B : Option Addr) (c2 : Nat), v = .slice B (b ++ numB (u64V o.at_)).length c2 ∧ Rd W B (byts (b ++ numB (u64V o.at_))) ∧ (b ++ numB (u64V o.at_)).length ≤ c2
  | 5 => v = .pointer (some ⟨O, 4, none⟩)
  | 6 => v = .int .i64 o.n
  | 7 => v = .int .u64 ((u64V o.n : Nat) : Int)
  | 8 => ∃ (B : Option Addr) (c2 : Nat), v = .slice B (b ++ numB (u64V o.at_) ++ numB (u64V o.n)).length c2 ∧ Rd W B (byts (b ++ numB (u64V o.at_) ++ numB (u64V o.n))) ∧ (b ++ numB (u64V o.at_) ++ numB (u64V o.n)).length ≤ c2
  | 9 => v = .pointer (some ⟨O, 5, none⟩)
  | 10 => v = .slice o.A o.l.length o.c
  | 11 => ∃ (D : Nat), v = .slice (some ⟨D, 0, none⟩) 1 1 ∧ Rd W (some ⟨D, 0, none⟩) [.slice o.A o.l.length o.c]
  | 12 => ∃ (B : Option Addr) (c2 : Nat), v = .slice B (b ++ numB (u64V o.at_) ++ numB (u64V o.n) ++ textB o.l).length c2 ∧ Rd W B (byts (b ++ numB (u64V o.at_) ++ numB (u64V o.n) ++ textB o.l)) ∧ (b ++ numB (u64V o.at_) ++ numB (u64V o.n) ++ textB o.l).length ≤ c2
  | 13 => ∃ (B : Option Addr) (c2 : Nat), v = .slice B (b ++ numB (u64V o.at_) ++ numB (u64V o.n) ++ textB o.l).length c2 ∧ Rd W B (byts (b ++ numB (u64V o.at_) ++ numB (u64V o.n) ++ textB o.l)) ∧ (b ++ numB (u64V o.at_) ++ numB (u64V o.n) ++ textB o.l).length ≤ c2
  | _ => True
theorem regEn3K (W0 : World) (O : Nat) (o : OM) (A : Option Addr) (c : Nat) (b : Bts) {W W' : World} (hb : Below W.heap.size W W') : Keeps (regEn3R W0 O o A c b) W W' := fun i v h => by
  match i, h with
  | 0, h => exact h
  | 1, h => exact h
  | 2, h => exact h
  | 3, h => exact h
  | 4, h => exact by obtain ⟨B, c2, h1, h2, h3⟩ := h; exact ⟨B, c2, h1, h2.below hb, h3⟩
  | 5, h => exact h
  | 6, h => exact h
  | 7, h => exact h
  | 8, h => exact by obtain ⟨B, c2, h1, h2, h3⟩ := h; exact ⟨B, c2, h1, h2.below hb, h3⟩
  | 9, h => exact h
  | 10, h => exact h
  | 11, h => exact by obtain ⟨D, h1, h2⟩ := h; exact ⟨D, h1, h2.below hb⟩
  | 12, h => exact by obtain ⟨B, c2, h1, h2, h3⟩ := h; exact ⟨B, c2, h1, h2.below hb, h3⟩
  | 13, h => exact by obtain ⟨B, c2, h1, h2, h3⟩ := h; exact ⟨B, c2, h1, h2.below hb, h3⟩
  | n + 14, h => exact trivial
theorem regEn3_0 {u0 u2 u4 u5 u6 u7 u8 u9 u10 u11 u12 u13 u14 u15 u16 u17 u18 u19 u20 u21 u22 u23 u24 u25 u26 u27 u28 u29 u30 u31 : Value} {DD : List Deferred} (W0 : World) (O : Nat) (o : OM) (A : Option Addr) (c : Nat) (b : Bts) (_ : Blk W0 O 33 o.cells.toArray) (_ : Rd W0 A (byts b)) (_ : b.length ≤ c) (_ : Rd W0 o.A (byts o.l)) (_ : o.l.length ≤ o.c) (_ : o.l.length ≤ 2097152) (_ : b.length ≤ 4194304) : ObR Tryd.prog opsEn3 ⟨#[u0, .pointer (some ⟨O, 0, none⟩), u2, .slice A b.length c, u4, u5, u6, u7, u8, u9, u10, u11, u12, u13, u14, u15, u16, u17, u18, u19, u20, u21, u22, u23, u24, u25, u26, u27, u28, u29, u30, u31], DD⟩ (fun (_ : Nat → Bool) (W : World) => Below W0.heap.size W0 W) (regEn3R W0 O o A c b) 0 (⟨some 19, Op.move (Operand.tmp 3), 31, "model.go:308", #[], none⟩ : Oper) := by
  intro done a w hun hpr hsh hS hout hpre
  have o3 := ev ((hout 3 (by kernel_rfl)).trans (show _ = some (.slice A b.length c) from rfl))
  refine .inl ⟨by kernel_rfl, ?_⟩
  exact GivesR.same (run_move_op o3) hS rfl
theorem regEn3_1 {u0 u2 u4 u5 u6 u7 u8 u9 u10 u11 u12 u13 u14 u15 u16 u17 u18 u19 u20 u21 u22 u23 u24 u25 u26 u27 u28 u29 u30 u31 : Value} {DD : List Deferred} (W0 : World) (O : Nat) (o : OM) (A : Option Addr) (c : Nat) (b : Bts) (_ : Blk W0 O 33 o.cells.toArray) (_ : Rd W0 A (byts b)) (_ : b.length ≤ c) (_ : Rd W0 o.A (byts o.l)) (_ : o.l.length ≤ o.c) (_ : o.l.length ≤ 2097152) (_ : b.length ≤ 4194304) : ObR Tryd.prog opsEn3 ⟨#[u0, .pointer (some ⟨O, 0, none⟩), u2, .slice A b.length c, u4, u5, u6, u7, u8, u9, u10, u11, u12, u13, u14, u15, u16, u17, u18, u19, u20, u21, u22, u23, u24, u25, u26, u27, u28, u29, u30, u31], DD⟩ (fun (_ : Nat → Bool) (W : World) => Below W0.heap.size W0 W) (regEn3R W0 O o A c b) 1 (⟨some 20, Op.fieldAddr 33 (Operand.tmp 1) 3, 0, "model.go:308", #[], none⟩ : Oper) := by
  intro done a w hun hpr hsh hS hout hpre
  have o1 := ev ((hout 1 (by kernel_rfl)).trans (show _ = some (.pointer (some ⟨O, 0, none⟩)) from rfl))
  refine .inl ⟨by kernel_rfl, ?_⟩
  exact GivesR.same (run_fieldAddr_op o1 (by kernel_rfl)) hS rfl
theorem regEn3_2 {u0 u2 u4 u5 u6 u7 u8 u9 u10 u11 u12 u13 u14 u15 u16 u17 u18 u19 u20 u21 u22 u23 u24 u25 u26 u27 u28 u29 u30 u31 : Value} {DD : List Deferred} (W0 : World) (O : Nat) (o : OM) (A : Option Addr) (c : Nat) (b : Bts) (hO : Blk W0 O 33 o.cells.toArray) (_ : Rd W0 A (byts b)) (_ : b.length ≤ c) (_ : Rd W0 o.A (byts o.l)) (_ : o.l.length ≤ o.c) (_ : o.l.length ≤ 2097152) (_ : b.length ≤ 4194304) : ObR Tryd.prog opsEn3 ⟨#[u0, .pointer (some ⟨O, 0, none⟩), u2, .slice A b.length c, u4, u5, u6, u7, u8, u9, u10, u11, u12, u13, u14, u15, u16, u17, u18, u19, u20, u21, u22, u23, u24, u25, u26, u27, u28, u29, u30, u31], DD⟩ (fun (_ : Nat → Bool) (W : World) => Below W0.heap.size W0 W) (regEn3R W0 O o A c b) 2 (⟨some 21, Op.load 3 (Operand.tmp 20), 3, "model.go:308", #[{ on := 1, ground := Ground.data }], none⟩ : Oper) := by
  intro done a w hun hpr hsh hS hout hpre
  obtain ⟨v1, e1, r1⟩ := hpre ⟨1, Ground.data⟩ (by simp) rfl (⟨some 20, Op.fieldAddr 33 (Operand.tmp 1) 3, 0, "model.go:308", #[], none⟩ : Oper) 20 rfl rfl
  replace e1 := ev e1
  change regEn3R W0 O o A c b 1 v1 w at r1
  simp only [regEn3R] at r1
  refine .inl ⟨by kernel_rfl, ?_⟩
  subst r1
  exact GivesR.same (run_load1_op (by kernel_rfl) e1 (((hO.below' hS).cell 3))) hS rfl
theorem regEn3_3 {u0 u2 u4 u5 u6 u7 u8 u9 u10 u11 u12 u13 u14 u15 u16 u17 u18 u19 u20 u21 u22 u23 u24 u25 u26 u27 u28 u29 u30 u31 : Value} {DD : List Deferred} (W0 : World) (O : Nat) (o : OM) (A : Option Addr) (c : Nat) (b : Bts) (_ : Blk W0 O 33 o.cells.toArray) (_ : Rd W0 A (byts b)) (_ : b.length ≤ c) (_ : Rd W0 o.A (byts o.l)) (_ : o.l.length ≤ o.c) (_ : o.l.length ≤ 2097152) (_ : b.length ≤ 4194304) : ObR Tryd.prog opsEn3 ⟨#[u0, .pointer (some ⟨O, 0, none⟩), u2, .slice A b.length c, u4, u5, u6, u7, u8, u9, u10, u11, u12, u13, u14, u15, u16, u17, u18, u19, u20, u21, u22, u23, u24, u25, u26, u27, u28, u29, u30, u31], DD⟩ (fun (_ : Nat → Bool) (W : World) => Below W0.heap.size W0 W) (regEn3R W0 O o A c b) 3 (⟨some 22, Op.convert 3 45 (Operand.tmp 21), 45, "model.go:308", #[{ on := 2, ground := Ground.data }], none⟩ : Oper) := by
  intro done a w hun hpr hsh hS hout hpre
  obtain ⟨v2, e2, r2⟩ := hpre ⟨2, Ground.data⟩ (by simp) rfl (⟨some 21, Op.load 3 (Operand.tmp 20), 3, "model.go:308", #[{ on := 1, ground := Ground.data }], none⟩ : Oper) 21 rfl rfl
  replace e2 := ev e2
  change regEn3R W0 O o A c b 2 v2 w at r2
  simp only [regEn3R] at r2
  refine .inl ⟨by kernel_rfl, ?_⟩
  subst r2
  exact GivesR.same (run_conv2_op e2 (conv_u64 _ w)) hS rfl
theorem regEn3_4 {u0 u2 u4 u5 u6 u7 u8 u9 u10 u11 u12 u13 u14 u15 u16 u17 u18 u19 u20 u21 u22 u23 u24 u25 u26 u27 u28 u29 u30 u31 : Value} {DD : List Deferred} (W0 : World) (O : Nat) (o : OM) (A : Option Addr) (c : Nat) (b : Bts) (_ : Blk W0 O 33 o.cells.toArray) (hr : Rd W0 A (byts b)) (hc : b.length ≤ c) (_ : Rd W0 o.A (byts o.l)) (_ : o.l.length ≤ o.c) (_ : o.l.length ≤ 2097152) (_ : b.length ≤ 4194304) : ObR Tryd.prog opsEn3 ⟨#[u0, .pointer (some ⟨O, 0, none⟩), u2, .slice A b.length c, u4, u5, u6, u7, u8, u9, u10, u11, u12, u13, u14, u15, u16, u17, u18, u19, u20, u21, u22, u23, u24, u25, u26, u27, u28, u29, u30, u31], DD⟩ (fun (_ : Nat → Bool) (W : World) => Below W0.heap.size W0 W) (regEn3R W0 O o A c b) 4 (⟨some 23, Op.call { callee := Callee.value (Operand.func 71), args := #[Operand.tmp 19, Operand.tmp 22], argTypes := #[31, 45] }, 31, "model.go:308", #[{ on := 0, ground := Ground.data }, { on := 3, ground := Ground.data }], none⟩ : Oper) := by
  intro done a w hun hpr hsh hS hout hpre
  obtain ⟨v0, e0, r0⟩ := hpre ⟨0, Ground.data⟩ (by simp) rfl (⟨some 19, Op.move (Operand.tmp 3), 31, "model.go:308", #[], none⟩ : Oper) 19 rfl rfl
  replace e0 := ev e0
  change regEn3R W0 O o A c b 0 v0 w at r0
  simp only [regEn3R] at r0
  obtain ⟨v3, e3, r3⟩ := hpre ⟨3, Ground.data⟩ (by simp) rfl (⟨some 22, Op.convert 3 45 (Operand.tmp 21), 45, "model.go:308", #[{ on := 2, ground := Ground.data }], none⟩ : Oper) 22 rfl rfl
  replace e3 := ev e3
  change regEn3R W0 O o A c b 3 v3 w at r3
  simp only [regEn3R] at r3
  refine .inl ⟨by kernel_rfl, ?_⟩
  subst r3
  subst r0
  have hbr := hr.below hS
  have hbc := hc
  have hcall := number1_any A c (u64V o.at_) (b) w hbr hbc (by have e1 := numB_le (u64V o.at_); have e2 := numB_le (u64V o.n); (try simp only [List.length_append]); omega) (u64V_lt _)
  refine GivesR.call (run_call_op (vs := #[.slice A (b).length c, .int .u64 ((u64V o.at_ : Nat) : Int)]) (by simp [e0, e3]) rfl (by kernel_rfl)) (hcall.mono ?_)
  rintro e w2 ⟨A2, c3, rfl, h4, h5, h6⟩
  exact ⟨_, rfl, hS.trans (h6.mono hS.size), regEn3K _ _ _ _ _ _ h6, A2, c3, rfl, h4, h5⟩
theorem regEn3_5 {u0 u2 u4 u5 u6 u7 u8 u9 u10 u11 u12 u13 u14 u15 u16 u17 u18 u19 u20 u21 u22 u23 u24 u25 u26 u27 u28 u29 u30 u31 : Value} {DD : List Deferred} (W0 : World) (O : Nat) (o : OM) (A : Option Addr) (c : Nat) (b : Bts) (_ : Blk W0 O 33 o.cells.toArray) (_ : Rd W0 A (byts b)) (_ : b.length ≤ c) (_ : Rd W0 o.A (byts o.l)) (_ : o.l.length ≤ o.c) (_ : o.l.length ≤ 2097152) (_ : b.length ≤ 4194304) : ObR Tryd.prog opsEn3 ⟨#[u0, .pointer (some ⟨O, 0, none⟩), u2, .slice A b.length c, u4, u5, u6, u7, u8, u9, u10, u11, u12, u13, u14, u15, u16, u17, u18, u19, u20, u21, u22, u23, u24, u25, u26, u27, u28, u29, u30, u31], DD⟩ (fun (_ : Nat → Bool) (W : World) => Below W0.heap.size W0 W) (regEn3R W0 O o A c b) 5 (⟨some 24, Op.fieldAddr 33 (Operand.tmp 1) 4, 0, "model.go:308", #[], none⟩ : Oper) := by
  intro done a w hun hpr hsh hS hout hpre
  have o1 := ev ((hout 1 (by kernel_rfl)).trans (show _ = some (.pointer (some ⟨O, 0, none⟩)) from rfl))
  refine .inl ⟨by kernel_rfl, ?_⟩
  exact GivesR.same (run_fieldAddr_op o1 (by kernel_rfl)) hS rfl
theorem regEn3_6 {u0 u2 u4 u5 u6 u7 u8 u9 u10 u11 u12 u13 u14 u15 u16 u17 u18 u19 u20 u21 u22 u23 u24 u25 u26 u27 u28 u29 u30 u31 : Value} {DD : List Deferred} (W0 : World) (O : Nat) (o : OM) (A : Option Addr) (c : Nat) (b : Bts) (hO : Blk W0 O 33 o.cells.toArray) (_ : Rd W0 A (byts b)) (_ : b.length ≤ c) (_ : Rd W0 o.A (byts o.l)) (_ : o.l.length ≤ o.c) (_ : o.l.length ≤ 2097152) (_ : b.length ≤ 4194304) : ObR Tryd.prog opsEn3 ⟨#[u0, .pointer (some ⟨O, 0, none⟩), u2, .slice A b.length c, u4, u5, u6, u7, u8, u9, u10, u11, u12, u13, u14, u15, u16, u17, u18, u19, u20, u21, u22, u23, u24, u25, u26, u27, u28, u29, u30, u31], DD⟩ (fun (_ : Nat → Bool) (W : World) => Below W0.heap.size W0 W) (regEn3R W0 O o A c b) 6 (⟨some 25, Op.load 3 (Operand.tmp 24), 3, "model.go:308", #[{ on := 5, ground := Ground.data }], none⟩ : Oper) := by
  intro done a w hun hpr hsh hS hout hpre
  obtain ⟨v5, e5, r5⟩ := hpre ⟨5, Ground.data⟩ (by simp) rfl (⟨some 24, Op.fieldAddr 33 (Operand.tmp 1) 4, 0, "model.go:308", #[], none⟩ : Oper) 24 rfl rfl
  replace e5 := ev e5
  change regEn3R W0 O o A c b 5 v5 w at r5
  simp only [regEn3R] at r5
  refine .inl ⟨by kernel_rfl, ?_⟩
  subst r5
  exact GivesR.same (run_load1_op (by kernel_rfl) e5 (((hO.below' hS).cell 4))) hS rfl
theorem regEn3_7 {u0 u2 u4 u5 u6 u7 u8 u9 u10 u11 u12 u13 u14 u15 u16 u17 u18 u19 u20 u21 u22 u23 u24 u25 u26 u27 u28 u29 u30 u31 : Value} {DD : List Deferred} (W0 : World) (O : Nat) (o : OM) (A : Option Addr) (c : Nat) (b : Bts) (_ : Blk W0 O 33 o.cells.toArray) (_ : Rd W0 A (byts b)) (_ : b.length ≤ c) (_ : Rd W0 o.A (byts o.l)) (_ : o.l.length ≤ o.c) (_ : o.l.length ≤ 2097152) (_ : b.length ≤ 4194304) : ObR Tryd.prog opsEn3 ⟨#[u0, .pointer (some ⟨O, 0, none⟩), u2, .slice A b.length c, u4, u5, u6, u7, u8, u9, u10, u11, u12, u13, u14, u15, u16, u17, u18, u19, u20, u21, u22, u23, u24, u25, u26, u27, u28, u29, u30, u31], DD⟩ (fun (_ : Nat → Bool) (W : World) => Below W0.heap.size W0 W) (regEn3R W0 O o A c b) 7 (⟨some 26, Op.convert 3 45 (Operand.tmp 25), 45, "model.go:308", #[{ on := 6, ground := Ground.data }], none⟩ : Oper) := by
  intro done a w hun hpr hsh hS hout hpre
  obtain ⟨v6, e6, r6⟩ := hpre ⟨6, Ground.data⟩ (by simp) rfl (⟨some 25, Op.load 3 (Operand.tmp 24), 3, "model.go:308", #[{ on := 5, ground := Ground.data }], none⟩ : Oper) 25 rfl rfl
  replace e6 := ev e6
  change regEn3R W0 O o A c b 6 v6 w at r6
  simp only [regEn3R] at r6
  refine .inl ⟨by kernel_rfl, ?_⟩
  subst r6
  exact GivesR.same (run_conv2_op e6 (conv_u64 _ w)) hS rfl
theorem regEn3_8 {u0 u2 u4 u5 u6 u7 u8 u9 u10 u11 u12 u13 u14 u15 u16 u17 u18 u19 u20 u21 u22 u23 u24 u25 u26 u27 u28 u29 u30 u31 : Value} {DD : List Deferred} (W0 : World) (O : Nat) (o : OM) (A : Option Addr) (c : Nat) (b : Bts) (_ : Blk W0 O 33 o.cells.toArray) (_ : Rd W0 A (byts b)) (_ : b.length ≤ c) (_ : Rd W0 o.A (byts o.l)) (_ : o.l.length ≤ o.c) (_ : o.l.length ≤ 2097152) (_ : b.length ≤ 4194304) : ObR Tryd.prog opsEn3 ⟨#[u0, .pointer (some ⟨O, 0, none⟩), u2, .slice A b.length c, u4, u5, u6, u7, u8, u9, u10, u11, u12, u13, u14, u15, u16, u17, u18, u19, u20, u21, u22, u23, u24, u25, u26, u27, u28, u29, u30, u31], DD⟩ (fun (_ : Nat → Bool) (W : World) => Below W0.heap.size W0 W) (regEn3R W0 O o A c b) 8 (⟨some 27, Op.call { callee := Callee.value (Operand.func 71), args := #[Operand.tmp 23, Operand.tmp 26], argTypes := #[31, 45] }, 31, "model.go:308", #[{ on := 4, ground := Ground.data }, { on := 7, ground := Ground.data }, { on := 4, ground := Ground.chain }], none⟩ : Oper) := by
  intro done a w hun hpr hsh hS hout hpre
  obtain ⟨v4, e4, r4⟩ := hpre ⟨4, Ground.data⟩ (by simp) rfl (⟨some 23, Op.call { callee := Callee.value (Operand.func 71), args := #[Operand.tmp 19, Operand.tmp 22], argTypes := #[31, 45] }, 31, "model.go:308", #[{ on := 0, ground := Ground.data }, { on := 3, ground := Ground.data }], none⟩ : Oper) 23 rfl rfl
  replace e4 := ev e4
  change regEn3R W0 O o A c b 4 v4 w at r4
  simp only [regEn3R] at r4
  obtain ⟨v7, e7, r7⟩ := hpre ⟨7, Ground.data⟩ (by simp) rfl (⟨some 26, Op.convert 3 45 (Operand.tmp 25), 45, "model.go:308", #[{ on := 6, ground := Ground.data }], none⟩ : Oper) 26 rfl rfl
  replace e7 := ev e7
  change regEn3R W0 O o A c b 7 v7 w at r7
  simp only [regEn3R] at r7
  refine .inl ⟨by kernel_rfl, ?_⟩
  subst r7
  obtain ⟨A1, c1, rfl, hbr, hbc⟩ := r4
  have hcall := number1_any A1 c1 (u64V o.n) (b ++ numB (u64V o.at_)) w hbr hbc (by have e1 := numB_le (u64V o.at_); have e2 := numB_le (u64V o.n); (try simp only [List.length_append]); omega) (u64V_lt _)
  refine GivesR.call (run_call_op (vs := #[.slice A1 (b ++ numB (u64V o.at_)).length c1, .int .u64 ((u64V o.n : Nat) : Int)]) (by simp [e4, e7]) rfl (by kernel_rfl)) (hcall.mono ?_)
  rintro e w2 ⟨A2, c3, rfl, h4, h5, h6⟩
  exact ⟨_, rfl, hS.trans (h6.mono hS.size), regEn3K _ _ _ _ _ _ h6, A2, c3, rfl, h4, h5⟩
theorem regEn3_9 {u0 u2 u4 u5 u6 u7 u8 u9 u10 u11 u12 u13 u14 u15 u16 u17 u18 u19 u20 u21 u22 u23 u24 u25 u26 u27 u28 u29 u30 u31 : Value} {DD : List Deferred} (W0 : World) (O : Nat) (o : OM) (A : Option Addr) (c : Nat) (b : Bts) (_ : Blk W0 O 33 o.cells.toArray) (_ : Rd W0 A (byts b)) (_ : b.length ≤ c) (_ : Rd W0 o.A (byts o.l)) (_ : o.l.length ≤ o.c) (_ : o.l.length ≤ 2097152) (_ : b.length ≤ 4194304) : ObR Tryd.prog opsEn3 ⟨#[u0, .pointer (some ⟨O, 0, none⟩), u2, .slice A b.length c, u4, u5, u6, u7, u8, u9, u10, u11, u12, u13, u14, u15, u16, u17, u18, u19, u20, u21, u22, u23, u24, u25, u26, u27, u28, u29, u30, u31], DD⟩ (fun (_ : Nat → Bool) (W : World) => Below W0.heap.size W0 W) (regEn3R W0 O o A c b) 9 (⟨some 28, Op.fieldAddr 33 (Operand.tmp 1) 5, 0, "model.go:308", #[], none⟩ : Oper) := by
  intro done a w hun hpr hsh hS hout hpre
  have o1 := ev ((hout 1 (by kernel_rfl)).trans (show _ = some (.pointer (some ⟨O, 0, none⟩)) from rfl))
  refine .inl ⟨by kernel_rfl, ?_⟩
  exact GivesR.same (run_fieldAddr_op o1 (by kernel_rfl)) hS rfl
theorem regEn3_10 {u0 u2 u4 u5 u6 u7 u8 u9 u10 u11 u12 u13 u14 u15 u16 u17 u18 u19 u20 u21 u22 u23 u24 u25 u26 u27 u28 u29 u30 u31 : Value} {DD : List Deferred} (W0 : World) (O : Nat) (o : OM) (A : Option Addr) (c : Nat) (b : Bts) (hO : Blk W0 O 33 o.cells.toArray) (_ : Rd W0 A (byts b)) (_ : b.length ≤ c) (_ : Rd W0 o.A (byts o.l)) (_ : o.l.length ≤ o.c) (_ : o.l.length ≤ 2097152) (_ : b.length ≤ 4194304) : ObR Tryd.prog opsEn3 ⟨#[u0, .pointer (some ⟨O, 0, none⟩), u2, .slice A b.length c, u4, u5, u6, u7, u8, u9, u10, u11, u12, u13, u14, u15, u16, u17, u18, u19, u20, u21, u22, u23, u24, u25, u26, u27, u28, u29, u30, u31], DD⟩ (fun (_ : Nat → Bool) (W : World) => Below W0.heap.size W0 W) (regEn3R W0 O o A c b) 10 (⟨some 29, Op.load 31 (Operand.tmp 28), 31, "model.go:308", #[{ on := 9, ground := Ground.data }], none⟩ : Oper) := by
  intro done a w hun hpr hsh hS hout hpre
  obtain ⟨v9, e9, r9⟩ := hpre ⟨9, Ground.data⟩ (by simp) rfl (⟨some 28, Op.fieldAddr 33 (Operand.tmp 1) 5, 0, "model.go:308", #[], none⟩ : Oper) 28 rfl rfl
  replace e9 := ev e9
  change regEn3R W0 O o A c b 9 v9 w at r9
  simp only [regEn3R] at r9
  refine .inl ⟨by kernel_rfl, ?_⟩
  subst r9
  exact GivesR.same (run_load1_op (by kernel_rfl) e9 (((hO.below' hS).cell 5))) hS rfl
theorem regEn3_11 {u0 u2 u4 u5 u6 u7 u8 u9 u10 u11 u12 u13 u14 u15 u16 u17 u18 u19 u20 u21 u22 u23 u24 u25 u26 u27 u28 u29 u30 u31 : Value} {DD : List Deferred} (W0 : World) (O : Nat) (o : OM) (A : Option Addr) (c : Nat) (b : Bts) (_ : Blk W0 O 33 o.cells.toArray) (_ : Rd W0 A (byts b)) (_ : b.length ≤ c) (_ : Rd W0 o.A (byts o.l)) (_ : o.l.length ≤ o.c) (_ : o.l.length ≤ 2097152) (_ : b.length ≤ 4194304) : ObR Tryd.prog opsEn3 ⟨#[u0, .pointer (some ⟨O, 0, none⟩), u2, .slice A b.length c, u4, u5, u6, u7, u8, u9, u10, u11, u12, u13, u14, u15, u16, u17, u18, u19, u20, u21, u22, u23, u24, u25, u26, u27, u28, u29, u30, u31], DD⟩ (fun (_ : Nat → Bool) (W : World) => Below W0.heap.size W0 W) (regEn3R W0 O o A c b) 11 (⟨some 30, Op.buildSlice 144 1 #[(0, Operand.tmp 29)], 144, "model.go:308", #[{ on := 10, ground := Ground.data }], none⟩ : Oper) := by
  intro done a w hun hpr hsh hS hout hpre
  obtain ⟨v10, e10, r10⟩ := hpre ⟨10, Ground.data⟩ (by simp) rfl (⟨some 29, Op.load 31 (Operand.tmp 28), 31, "model.go:308", #[{ on := 9, ground := Ground.data }], none⟩ : Oper) 29 rfl rfl
  replace e10 := ev e10
  change regEn3R W0 O o A c b 10 v10 w at r10
  simp only [regEn3R] at r10
  refine .inl ⟨by kernel_rfl, ?_⟩
  subst r10
  have hb := (Below.refl w.heap.size w).alloc (Nat.le_refl _) (.cells #[.slice o.A o.l.length o.c] 31)
  exact GivesR.val (run_buildSlice1 e10) (hS.trans (hb.mono hS.size)) (regEn3K _ _ _ _ _ _ hb) ⟨_, rfl, Rd.one _ _ _⟩
theorem regEn3_12 {u0 u2 u4 u5 u6 u7 u8 u9 u10 u11 u12 u13 u14 u15 u16 u17 u18 u19 u20 u21 u22 u23 u24 u25 u26 u27 u28 u29 u30 u31 : Value} {DD : List Deferred} (W0 : World) (O : Nat) (o : OM) (A : Option Addr) (c : Nat) (b : Bts) (_ : Blk W0 O 33 o.cells.toArray) (_ : Rd W0 A (byts b)) (_ : b.length ≤ c) (hd : Rd W0 o.A (byts o.l)) (hdc : o.l.length ≤ o.c) (_ : o.l.length ≤ 2097152) (_ : b.length ≤ 4194304) : ObR Tryd.prog opsEn3 ⟨#[u0, .pointer (some ⟨O, 0, none⟩), u2, .slice A b.length c, u4, u5, u6, u7, u8, u9, u10, u11, u12, u13, u14, u15, u16, u17, u18, u19, u20, u21, u22, u23, u24, u25, u26, u27, u28, u29, u30, u31], DD⟩ (fun (_ : Nat → Bool) (W : World) => Below W0.heap.size W0 W) (regEn3R W0 O o A c b) 12 (⟨some 31, Op.call { callee := Callee.value (Operand.func 72), args := #[Operand.tmp 27, Operand.tmp 30], argTypes := #[31, 144] }, 31, "model.go:308", #[{ on := 8, ground := Ground.data }, { on := 11, ground := Ground.data }, { on := 8, ground := Ground.chain }], none⟩ : Oper) := by
  intro done a w hun hpr hsh hS hout hpre
  obtain ⟨v8, e8, r8⟩ := hpre ⟨8, Ground.data⟩ (by simp) rfl (⟨some 27, Op.call { callee := Callee.value (Operand.func 71), args := #[Operand.tmp 23, Operand.tmp 26], argTypes := #[31, 45] }, 31, "model.go:308", #[{ on := 4, ground := Ground.data }, { on := 7, ground := Ground.data }, { on := 4, ground := Ground.chain }], none⟩ : Oper) 27 rfl rfl
  replace e8 := ev e8
  change regEn3R W0 O o A c b 8 v8 w at r8
  simp only [regEn3R] at r8
  obtain ⟨v11, e11, r11⟩ := hpre ⟨11, Ground.data⟩ (by simp) rfl (⟨some 30, Op.buildSlice 144 1 #[(0, Operand.tmp 29)], 144, "model.go:308", #[{ on := 10, ground := Ground.data }], none⟩ : Oper) 30 rfl rfl
  replace e11 := ev e11
  change regEn3R W0 O o A c b 11 v11 w at r11
  simp only [regEn3R] at r11
  refine .inl ⟨by kernel_rfl, ?_⟩
  obtain ⟨A1, c1, rfl, hbr, hbc⟩ := r8
  obtain ⟨D, rfl, h1⟩ := r11
  have hcall := bytes1_any A1 c1 (b ++ numB (u64V o.at_) ++ numB (u64V o.n)) o.A o.c o.l D w hbr hbc (hd.below hS) hdc h1 (by have e1 := numB_le (u64V o.at_); have e2 := numB_le (u64V o.n); (try simp only [List.length_append]); omega)
  refine GivesR.call (run_call_op (vs := #[.slice A1 (b ++ numB (u64V o.at_) ++ numB (u64V o.n)).length c1, .slice (some ⟨D, 0, none⟩) 1 1]) (by simp [e8, e11]) rfl (by kernel_rfl)) (hcall.mono ?_)
  rintro e w2 ⟨A2, c3, rfl, h4, h5, h6⟩
  exact ⟨_, rfl, hS.trans (h6.mono hS.size), regEn3K _ _ _ _ _ _ h6, A2, c3, rfl, h4, h5⟩
theorem regEn3_13 {u0 u2 u4 u5 u6 u7 u8 u9 u10 u11 u12 u13 u14 u15 u16 u17 u18 u19 u20 u21 u22 u23 u24 u25 u26 u27 u28 u29 u30 u31 : Value} {DD : List Deferred} (W0 : World) (O : Nat) (o : OM) (A : Option Addr) (c : Nat) (b : Bts) (_ : Blk W0 O 33 o.cells.toArray) (_ : Rd W0 A (byts b)) (_ : b.length ≤ c) (_ : Rd W0 o.A (byts o.l)) (_ : o.l.length ≤ o.c) (_ : o.l.length ≤ 2097152) (_ : b.length ≤ 4194304) : ObR Tryd.prog opsEn3 ⟨#[u0, .pointer (some ⟨O, 0, none⟩), u2, .slice A b.length c, u4, u5, u6, u7, u8, u9, u10, u11, u12, u13, u14, u15, u16, u17, u18, u19, u20, u21, u22, u23, u24, u25, u26, u27, u28, u29, u30, u31], DD⟩ (fun (_ : Nat → Bool) (W : World) => Below W0.heap.size W0 W) (regEn3R W0 O o A c b) 13 (⟨some 2, Op.assign (Operand.tmp 31), 31, "model.go:308", #[{ on := 12, ground := Ground.data }, { on := 12, ground := Ground.chain }, { on := 0, ground := Ground.phase }, { on := 1, ground := Ground.phase }, { on := 2, ground := Ground.phase }, { on := 3, ground := Ground.phase }, { on := 4, ground := Ground.phase }, { on := 5, ground := Ground.phase }, { on := 6, ground := Ground.phase }, { on := 7, ground := Ground.phase }, { on := 8, ground := Ground.phase }, { on := 9, ground := Ground.phase }, { on := 10, ground := Ground.phase }, { on := 11, ground := Ground.phase }, { on := 12, ground := Ground.phase }], none⟩ : Oper) := by
  intro done a w hun hpr hsh hS hout hpre
  obtain ⟨v12, e12, r12⟩ := hpre ⟨12, Ground.data⟩ (by simp) rfl (⟨some 31, Op.call { callee := Callee.value (Operand.func 72), args := #[Operand.tmp 27, Operand.tmp 30], argTypes := #[31, 144] }, 31, "model.go:308", #[{ on := 8, ground := Ground.data }, { on := 11, ground := Ground.data }, { on := 8, ground := Ground.chain }], none⟩ : Oper) 31 rfl rfl
  replace e12 := ev e12
  change regEn3R W0 O o A c b 12 v12 w at r12
  simp only [regEn3R] at r12
  refine .inl ⟨by kernel_rfl, ?_⟩
  obtain ⟨A1, c1, rfl, h1, h2⟩ := r12
  exact GivesR.same (run_assign_op e12) hS ⟨A1, c1, rfl, h1, h2⟩
theorem regEn3 {u0 u2 u4 u5 u6 u7 u8 u9 u10 u11 u12 u13 u14 u15 u16 u17 u18 u19 u20 u21 u22 u23 u24 u25 u26 u27 u28 u29 u30 u31 : Value} {DD : List Deferred} (W0 : World) (O : Nat) (o : OM) (A : Option Addr) (c : Nat) (b : Bts) (hO : Blk W0 O 33 o.cells.toArray) (hr : Rd W0 A (byts b)) (hc : b.length ≤ c) (hd : Rd W0 o.A (byts o.l)) (hdc : o.l.length ≤ o.c) (hdl : o.l.length ≤ 2097152) (hl : b.length ≤ 4194304) {Q : Exit → Act → World → Prop} {w : World} (hS : (fun (_ : Nat → Bool) (W : World) => Below W0.heap.size W0 W) (fun _ => false) w.drew)
    (hend : ∀ (v : Nat → Value) (w2 : World), (fun (_ : Nat → Bool) (W : World) => Below W0.heap.size W0 W) (fun k => decide (k < 14)) w2 → (∀ i, i < 14 → regEn3R W0 O o A c b i (v i) w2) → Q .normal ⟨#[u0, .pointer (some ⟨O, 0, none⟩), v 13, .slice A b.length c, u4, u5, u6, u7, u8, u9, u10, u11, u12, u13, u14, u15, u16, u17, u18, v 0, v 1, v 2, v 3, v 4, v 5, v 6, v 7, v 8, v 9, v 10, v 11, v 12], DD⟩ w2) :
    (Code.region 3 opsEn3 true).wp Tryd.prog Q ⟨#[u0, .pointer (some ⟨O, 0, none⟩), u2, .slice A b.length c, u4, u5, u6, u7, u8, u9, u10, u11, u12, u13, u14, u15, u16, u17, u18, u19, u20, u21, u22, u23, u24, u25, u26, u27, u28, u29, u30, u31], DD⟩ w := by
  refine wp_region_flow (S := fun (_ : Nat → Bool) (W : World) => Below W0.heap.size W0 W) (R := regEn3R W0 O o A c b) (by kernel_rfl) (by kernel_rfl) hS ?_ ?_
  · intro i o hi
    match i, hi with
    | 0, hi => injection hi with hi; subst hi; exact regEn3_0 (u0 := u0) (u2 := u2) (u4 := u4) (u5 := u5) (u6 := u6) (u7 := u7) (u8 := u8) (u9 := u9) (u10 := u10) (u11 := u11) (u12 := u12) (u13 := u13) (u14 := u14) (u15 := u15) (u16 := u16) (u17 := u17) (u18 := u18) (u19 := u19) (u20 := u20) (u21 := u21) (u22 := u22) (u23 := u23) (u24 := u24) (u25 := u25) (u26 := u26) (u27 := u27) (u28 := u28) (u29 := u29) (u30 := u30) (u31 := u31) (DD := DD) W0 O o A c b hO hr hc hd hdc hdl hl
    | 1, hi => injection hi with hi; subst hi; exact regEn3_1 (u0 := u0) (u2 := u2) (u4 := u4) (u5 := u5) (u6 := u6) (u7 := u7) (u8 := u8) (u9 := u9) (u10 := u10) (u11 := u11) (u12 := u12) (u13 := u13) (u14 := u14) (u15 := u15) (u16 := u16) (u17 := u17) (u18 := u18) (u19 := u19) (u20 := u20) (u21 := u21) (u22 := u22) (u23 := u23) (u24 := u24) (u25 := u25) (u26 := u26) (u27 := u27) (u28 := u28) (u29 := u29) (u30 := u30) (u31 := u31) (DD := DD) W0 O o A c b hO hr hc hd hdc hdl hl
    | 2, hi => injection hi with hi; subst hi; exact regEn3_2 (u0 := u0) (u2 := u2) (u4 := u4) (u5 := u5) (u6 := u6) (u7 := u7) (u8 := u8) (u9 := u9) (u10 := u10) (u11 := u11) (u12 := u12) (u13 := u13) (u14 := u14) (u15 := u15) (u16 := u16) (u17 := u17) (u18 := u18) (u19 := u19) (u20 := u20) (u21 := u21) (u22 := u22) (u23 := u23) (u24 := u24) (u25 := u25) (u26 := u26) (u27 := u27) (u28 := u28) (u29 := u29) (u30 := u30) (u31 := u31) (DD := DD) W0 O o A c b hO hr hc hd hdc hdl hl
    | 3, hi => injection hi with hi; subst hi; exact regEn3_3 (u0 := u0) (u2 := u2) (u4 := u4) (u5 := u5) (u6 := u6) (u7 := u7) (u8 := u8) (u9 := u9) (u10 := u10) (u11 := u11) (u12 := u12) (u13 := u13) (u14 := u14) (u15 := u15) (u16 := u16) (u17 := u17) (u18 := u18) (u19 := u19) (u20 := u20) (u21 := u21) (u22 := u22) (u23 := u23) (u24 := u24) (u25 := u25) (u26 := u26) (u27 := u27) (u28 := u28) (u29 := u29) (u30 := u30) (u31 := u31) (DD := DD) W0 O o A c b hO hr hc hd hdc hdl hl
    | 4, hi => injection hi with hi; subst hi; exact regEn3_4 (u0 := u0) (u2 := u2) (u4 := u4) (u5 := u5) (u6 := u6) (u7 := u7) (u8 := u8) (u9 := u9) (u10 := u10) (u11 := u11) (u12 := u12) (u13 := u13) (u14 := u14) (u15 := u15) (u16 := u16) (u17 := u17) (u18 := u18) (u19 := u19) (u20 := u20) (u21 := u21) (u22 := u22) (u23 := u23) (u24 := u24) (u25 := u25) (u26 := u26) (u27 := u27) (u28 := u28) (u29 := u29) (u30 := u30) (u31 := u31) (DD := DD) W0 O o A c b hO hr hc hd hdc hdl hl
    | 5, hi => injection hi with hi; subst hi; exact regEn3_5 (u0 := u0) (u2 := u2) (u4 := u4) (u5 := u5) (u6 := u6) (u7 := u7) (u8 := u8) (u9 := u9) (u10 := u10) (u11 := u11) (u12 := u12) (u13 := u13) (u14 := u14) (u15 := u15) (u16 := u16) (u17 := u17) (u18 := u18) (u19 := u19) (u20 := u20) (u21 := u21) (u22 := u22) (u23 := u23) (u24 := u24) (u25 := u25) (u26 := u26) (u27 := u27) (u28 := u28) (u29 := u29) (u30 := u30) (u31 := u31) (DD := DD) W0 O o A c b hO hr hc hd hdc hdl hl
    | 6, hi => injection hi with hi; subst hi; exact regEn3_6 (u0 := u0) (u2 := u2) (u4 := u4) (u5 := u5) (u6 := u6) (u7 := u7) (u8 := u8) (u9 := u9) (u10 := u10) (u11 := u11) (u12 := u12) (u13 := u13) (u14 := u14) (u15 := u15) (u16 := u16) (u17 := u17) (u18 := u18) (u19 := u19) (u20 := u20) (u21 := u21) (u22 := u22) (u23 := u23) (u24 := u24) (u25 := u25) (u26 := u26) (u27 := u27) (u28 := u28) (u29 := u29) (u30 := u30) (u31 := u31) (DD := DD) W0 O o A c b hO hr hc hd hdc hdl hl
    | 7, hi => injection hi with hi; subst hi; exact regEn3_7 (u0 := u0) (u2 := u2) (u4 := u4) (u5 := u5) (u6 := u6) (u7 := u7) (u8 := u8) (u9 := u9) (u10 := u10) (u11 := u11) (u12 := u12) (u13 := u13) (u14 := u14) (u15 := u15) (u16 := u16) (u17 := u17) (u18 := u18) (u19 := u19) (u20 := u20) (u21 := u21) (u22 := u22) (u23 := u23) (u24 := u24) (u25 := u25) (u26 := u26) (u27 := u27) (u28 := u28) (u29 := u29) (u30 := u30) (u31 := u31) (DD := DD) W0 O o A c b hO hr hc hd hdc hdl hl
    | 8, hi => injection hi with hi; subst hi; exact regEn3_8 (u0 := u0) (u2 := u2) (u4 := u4) (u5 := u5) (u6 := u6) (u7 := u7) (u8 := u8) (u9 := u9) (u10 := u10) (u11 := u11) (u12 := u12) (u13 := u13) (u14 := u14) (u15 := u15) (u16 := u16) (u17 := u17) (u18 := u18) (u19 := u19) (u20 := u20) (u21 := u21) (u22 := u22) (u23 := u23) (u24 := u24) (u25 := u25) (u26 := u26) (u27 := u27) (u28 := u28) (u29 := u29) (u30 := u30) (u31 := u31) (DD := DD) W0 O o A c b hO hr hc hd hdc hdl hl
    | 9, hi => injection hi with hi; subst hi; exact regEn3_9 (u0 := u0) (u2 := u2) (u4 := u4) (u5 := u5) (u6 := u6) (u7 := u7) (u8 := u8) (u9 := u9) (u10 := u10) (u11 := u11) (u12 := u12) (u13 := u13) (u14 := u14) (u15 := u15) (u16 := u16) (u17 := u17) (u18 := u18) (u19 := u19) (u20 := u20) (u21 := u21) (u22 := u22) (u23 := u23) (u24 := u24) (u25 := u25) (u26 := u26) (u27 := u27) (u28 := u28) (u29 := u29) (u30 := u30) (u31 := u31) (DD := DD) W0 O o A c b hO hr hc hd hdc hdl hl
    | 10, hi => injection hi with hi; subst hi; exact regEn3_10 (u0 := u0) (u2 := u2) (u4 := u4) (u5 := u5) (u6 := u6) (u7 := u7) (u8 := u8) (u9 := u9) (u10 := u10) (u11 := u11) (u12 := u12) (u13 := u13) (u14 := u14) (u15 := u15) (u16 := u16) (u17 := u17) (u18 := u18) (u19 := u19) (u20 := u20) (u21 := u21) (u22 := u22) (u23 := u23) (u24 := u24) (u25 := u25) (u26 := u26) (u27 := u27) (u28 := u28) (u29 := u29) (u30 := u30) (u31 := u31) (DD := DD) W0 O o A c b hO hr hc hd hdc hdl hl
    | 11, hi => injection hi with hi; subst hi; exact regEn3_11 (u0 := u0) (u2 := u2) (u4 := u4) (u5 := u5) (u6 := u6) (u7 := u7) (u8 := u8) (u9 := u9) (u10 := u10) (u11 := u11) (u12 := u12) (u13 := u13) (u14 := u14) (u15 := u15) (u16 := u16) (u17 := u17) (u18 := u18) (u19 := u19) (u20 := u20) (u21 := u21) (u22 := u22) (u23 := u23) (u24 := u24) (u25 := u25) (u26 := u26) (u27 := u27) (u28 := u28) (u29 := u29) (u30 := u30) (u31 := u31) (DD := DD) W0 O o A c b hO hr hc hd hdc hdl hl
    | 12, hi => injection hi with hi; subst hi; exact regEn3_12 (u0 := u0) (u2 := u2) (u4 := u4) (u5 := u5) (u6 := u6) (u7 := u7) (u8 := u8) (u9 := u9) (u10 := u10) (u11 := u11) (u12 := u12) (u13 := u13) (u14 := u14) (u15 := u15) (u16 := u16) (u17 := u17) (u18 := u18) (u19 := u19) (u20 := u20) (u21 := u21) (u22 := u22) (u23 := u23) (u24 := u24) (u25 := u25) (u26 := u26) (u27 := u27) (u28 := u28) (u29 := u29) (u30 := u30) (u31 := u31) (DD := DD) W0 O o A c b hO hr hc hd hdc hdl hl
    | 13, hi => injection hi with hi; subst hi; exact regEn3_13 (u0 := u0) (u2 := u2) (u4 := u4) (u5 := u5) (u6 := u6) (u7 := u7) (u8 := u8) (u9 := u9) (u10 := u10) (u11 := u11) (u12 := u12) (u13 := u13) (u14 := u14) (u15 := u15) (u16 := u16) (u17 := u17) (u18 := u18) (u19 := u19) (u20 := u20) (u21 := u21) (u22 := u22) (u23 := u23) (u24 := u24) (u25 := u25) (u26 := u26) (u27 := u27) (u28 := u28) (u29 := u29) (u30 := u30) (u31 := u31) (DD := DD) W0 O o A c b hO hr hc hd hdc hdl hl
    | n + 14, hi => exact absurd (Array.getElem?_eq_some_iff.1 hi).1 (by show ¬ n + 14 < 14; omega)
  · intro v w2 h1 h2
    have hp : puts opsEn3 ⟨#[u0, .pointer (some ⟨O, 0, none⟩), u2, .slice A b.length c, u4, u5, u6, u7, u8, u9, u10, u11, u12, u13, u14, u15, u16, u17, u18, u19, u20, u21, u22, u23, u24, u25, u26, u27, u28, u29, u30, u31], DD⟩ v = ⟨#[u0, .pointer (some ⟨O, 0, none⟩), v 13, .slice A b.length c, u4, u5, u6, u7, u8, u9, u10, u11, u12, u13, u14, u15, u16, u17, u18, v 0, v 1, v 2, v 3, v 4, v 5, v 6, v 7, v 8, v 9, v 10, v 11, v 12], DD⟩ := by kernel_rfl
    rw [hp]
    refine hend v w2 h1 fun i hi => ?_
    match i, hi with
    | 0, _ => exact h2 0 _ _ rfl rfl
    | 1, _ => exact h2 1 _ _ rfl rfl
    | 2, _ => exact h2 2 _ _ rfl rfl
    | 3, _ => exact h2 3 _ _ rfl rfl
    | 4, _ => exact h2 4 _ _ rfl rfl
    | 5, _ => exact h2 5 _ _ rfl rfl
    | 6, _ => exact h2 6 _ _ rfl rfl
    | 7, _ => exact h2 7 _ _ rfl rfl
    | 8, _ => exact h2 8 _ _ rfl rfl
    | 9, _ => exact h2 9 _ _ rfl rfl
    | 10, _ => exact h2 10 _ _ rfl rfl
    | 11, _ => exact h2 11 _ _ rfl rfl
    | 12, _ => exact h2 12 _ _ rfl rfl
    | 13, _ => exact h2 13 _ _ rfl rfl
    | n + 14, hi => omega

end Go.Proofs.YthhpcilinkebeaaDoor
/- ModelCodes: an operation is written as bytes. -/
namespace Go.Proofs.YthhpcilinkebeaaDoor
open Go.RowKit Go.Maps
set_option maxHeartbeats 4000000
set_option maxRecDepth 100000

/-- bytes that a call has made, and where nothing else was turned -/
def MadeB (w : World) (l : Bts) (e : Ending) (w' : World) : Prop := ∃ A c, e = .returned (.slice A l.length c) ∧ Rd w' A (byts l) ∧ l.length ≤ c ∧ Below w.heap.size w w'
theorem encode_any (o : OM) (w : World) (hok : o.ok w) (hn : o.name.size ≤ 1048576) (hd : o.dst.size ≤ 1048576) (hx : o.l.length ≤ 2097152) :
    Calls Tryd.prog 37 #[o.val] w (MadeB w (encV o.ov)) := by
  have hov : o.val = .agg o.cells.toArray := rfl
  rw [hov]
  have hb0 := (Below.refl w.heap.size w).alloc (Nat.le_refl _) (.cells o.cells.toArray 33)
  have hO := Blk.new w 33 o.cells.toArray
  have hku := conv_u64 o.kind
  have hnum := number1_any none 0 (u64V o.kind) [] (w.alloc (.cells o.cells.toArray 33)) Rd.none_ (Nat.le_refl _) (by decide) (u64V_lt _)
  have k0 : (w.alloc (.cells o.cells.toArray 33)).cell? ⟨w.heap.size, 0, none⟩ = some (.int .i64 o.kind) := hO.cell 0
  generalize hW : w.alloc (.cells o.cells.toArray 33) = W at *
  have hWW := Lib.hid hW.symm
  go_enter Tryd.func37, Tryd.ntmps37
  go_upto_region 1 with fail
  have hku := hku W
  clear hW
  go_wp2_with fail
  refine hnum.mono ?_
  rintro e w1 ⟨A1, c1, rfl, r1, l1, hb1⟩
  clear hnum hku k0
  have hO1 := hO.below' hb1
  have hb01 := hb0.trans (hb1.mono hb0.size)
  have n0 := numB_le (u64V o.kind)
  have e1 := textB_le (strB o.name)
  have e2 := textB_le (strB o.dst)
  have e3 : (strB o.name).length = o.name.size := rfl
  have e4 : (strB o.dst).length = o.dst.size := rfl
  go_upto_region 2 with fail
  refine regEn2 w1.drew w.heap.size o A1 c1 ([] ++ numB (u64V o.kind)) hO1 r1 l1 hn hd (by simp only [List.length_append, List.length_nil]; omega) (Below.refl _ _) ?_
  intro v w2 hS2 hR2
  obtain ⟨A2, c2, hv2, r2, l2⟩ := hR2 11 (by omega)
  rw [hv2]
  clear hR2 hv2
  have hO2 := Blk.below' (w := w1.drew) hO1 hS2
  have hb02 := hb01.trans (((Below.refl _ w1).drew).trans hS2 |>.mono hb01.size)
  go_upto_region 3 with fail
  refine regEn3 w2.drew w.heap.size o A2 c2 _ hO2 r2 l2 ((hok.rd.below hb02).drew) hok.cap hx (by simp only [List.length_append, List.length_nil]; omega) (Below.refl _ _) ?_
  intro v3 w3 hS3 hR3
  obtain ⟨A3, c3, hv3, r3, l3⟩ := hR3 13 (by omega)
  rw [hv3]
  have hb03 := hb02.trans (((Below.refl _ w2).drew).trans hS3 |>.mono hb02.size)
  go_wp2_with fail
  go_ret
  exact ⟨A3, c3, rfl, r3, l3, hb03⟩
end Go.Proofs.YthhpcilinkebeaaDoor
/- ModelCodes: the functions that read on. -/
namespace Go.Proofs.YthhpcilinkebeaaDoor
open Go.RowKit Go.Maps
set_option maxHeartbeats 4000000
set_option maxRecDepth 100000

/-- the bytes that are left, in a block of their own -/
structure Rest (w : World) (R Bd : Nat) (r : Bts) : Prop where
  blk : ∃ A c, Blk w R 31 #[.slice A r.length c] ∧ Rd w A (byts r) ∧ r.length ≤ c ∧ (r ≠ [] → ∀ ad, A = some ad → ad.block < Bd)
  len : r.length ≤ 1048576
  lo : Bd ≤ R
theorem Rest.lt {w : World} {R Bd : Nat} {r : Bts} (h : Rest w R Bd r) : R < w.heap.size := by
  obtain ⟨⟨A, c, hB, _⟩, _⟩ := h
  exact hB.lt
theorem Rest.keep {w w' : World} {R Bd : Nat} {r : Bts} (h : Rest w R Bd r) {S : Nat → Prop} (hc : Chg S w w') (h1 : ¬ S R) (h2 : ∀ k, S k → Bd ≤ k) : Rest w' R Bd r := by
  obtain ⟨⟨A, c, hB, hr, hcp, hA⟩, hl, hlo⟩ := h
  refine ⟨⟨A, c, hB.keep hc h1, hr.keepN hc fun hne ad e hs => ?_, hcp, hA⟩, hl, hlo⟩
  have := hA (fun h0 => hne (by rw [h0]; rfl)) ad e
  have := h2 _ hs
  omega
theorem rdF_zero : ∀ (l : Bts) (i v : Nat), (rdF i v l).2.2 ≠ 0 → (rdF i v l).2.1 = 0 ∧ (rdF i v l).1 = 0 := by
  intro l
  induction l with
  | nil => intro i v _; exact ⟨rfl, rfl⟩
  | cons c r ih =>
    intro i v h
    unfold rdF at h ⊢
    split at h
    · rename_i hc; rw [if_pos hc]; exact ⟨rfl, rfl⟩
    · rename_i hc
      rw [if_neg hc]
      split at h
      · rename_i h2
        rw [if_pos h2]
        split at h
        · rename_i h3; rw [if_pos h3]; exact ⟨rfl, rfl⟩
        · exact absurd rfl h
      · rename_i h2
        rw [if_neg h2]
        exact ih _ _ h
theorem rdNum_le (r : Bts) : (rdNum r).2.1 ≤ r.length := by
  by_cases h : (rdNum r).2.2 = 0
  · exact (rdNum_ok h).2.1
  · rw [show (rdNum r).2.1 = 0 from (rdF_zero r 0 0 h).1]; exact Nat.zero_le _
theorem rdNum_lt (r : Bts) : (rdNum r).1 < 18446744073709551616 := by
  by_cases h : (rdNum r).2.2 = 0
  · exact (rdNum_ok h).2.2.2
  · rw [show (rdNum r).1 = 0 from (rdF_zero r 0 0 h).2]; decide
theorem rdBytes_le (most : Int) (r : Bts) : (rdBytes most r).2.1 ≤ r.length := by
  have h1 := rdNum_le r
  unfold rdBytes
  split
  · exact Nat.zero_le _
  · split
    · exact Nat.zero_le _
    · split
      · exact Nat.zero_le _
      · dsimp only; omega
theorem Rest.set {w : World} {R : Nat} {r : Bts} {A : Option Addr} {c : Nat} (hB : Blk w R 31 #[.slice A r.length c]) (hr : Rd w A (byts r)) (hc : r.length ≤ c) (hl : r.length ≤ 1048576) {Bd : Nat} (hlo : Bd ≤ R) (hA : r ≠ [] → ∀ ad, A = some ad → ad.block < Bd) (p : Nat) (hp : p ≤ r.length) :
    Rest (w.setCell ⟨R, 0, none⟩ (.slice (if c = p then A else A.map (·.add p)) (r.length - p) (c - p))) R Bd (r.drop p) ∧ Chg (fun k => k = R) w (w.setCell ⟨R, 0, none⟩ (.slice (if c = p then A else A.map (·.add p)) (r.length - p) (c - p))) := by
  have hcg := (Chg.refl (fun k => k = R) w).set (g := R) rfl 0 (.slice (if c = p then A else A.map (·.add p)) (r.length - p) (c - p))
  have hd := hr.drop p c (by rw [byts_length]; exact hc)
  have hA2 : r.drop p ≠ [] → ∀ ad, (if c = p then A else A.map (·.add p)) = some ad → ad.block < Bd := fun hne ad e => by
    have hne2 : r ≠ [] := fun h0 => hne (by rw [h0]; simp)
    split at e
    · exact hA hne2 ad e
    · obtain ⟨a1, h1, rfl⟩ := Option.map_eq_some_iff.1 e
      rw [add_block]; exact hA hne2 a1 h1
  refine ⟨⟨⟨_, c - p, ?_, ?_, ?_, hA2⟩, ?_, hlo⟩, hcg⟩
  · rw [List.length_drop]; exact hB.set 0 _
  · have : byts (r.drop p) = (byts r).drop p := by simp [byts]
    rw [this]
    exact hd.keepN hcg (fun hne ad e e2 => by
      have := hA2 (fun h0 => hne (by rw [← this, h0]; rfl)) ad e
      omega)
  · rw [List.length_drop]; omega
  · rw [List.length_drop]; omega
theorem num_clo (w : World) (R Bd : Nat) (r : Bts) (h : Rest w R Bd r) :
    Calls Tryd.prog 67 #[.pointer (some ⟨R, 0, none⟩)] w fun e w' => e = .returned (.int .i64 (numD r).1) ∧ Rest w' R Bd (numD r).2 ∧ Chg (fun k => k = R) w w' := by
  obtain ⟨⟨A, c, hB, hr, hc, hA⟩, hl, hlo⟩ := h
  have c0 : w.cell? ⟨R, 0, none⟩ = some (.slice A r.length c) := hB.cell 0
  have f0 := hB.frozen 0
  have hrn := readNumber_any A c r w hr (by omega)
  have hp := rdNum_le r
  have hn := rdNum_lt r
  have hst := Rest.set hB hr hc hl hlo hA (rdNum r).2.1 hp
  unfold numD
  have kw : IntKind.i64.wrap ((rdNum r).1 : Int) = i64V (rdNum r).1 := by
    unfold i64V; rw [IntKind.wrap_i64]; split <;> omega
  dsimp only
  generalize rdNum r = N at *
  obtain ⟨n, p, er⟩ := N
  dsimp only at *
  generalize i64V n = z at *
  have hsl : (if c = p then A else A.map (·.add p)) = A.map (·.add p) ∨ True := .inr trivial
  generalize hA1 : (if c = p then A else A.map (·.add p)) = A1 at *
  clear hsl
  go_enter Tryd.func67, Tryd.ntmps67
  go_wp2_with fail
  refine hrn.mono ?_
  rintro e w1 ⟨rfl, rfl⟩
  clear hrn
  go_wp2_with fail
  go_ret
  exact ⟨rfl, hst.1, hst.2⟩
theorem text_clo (w : World) (R Bd : Nat) (r : Bts) (h : Rest w R Bd r) (most : Nat) (hm : most ≤ 2097152) :
    Calls Tryd.prog 69 #[.int .i64 (most : Nat), .pointer (some ⟨R, 0, none⟩)] w fun e w' => ∃ B c', e = .returned (.slice B (textD most r).1.length c') ∧ Rd w' B (byts (textD most r).1) ∧ (textD most r).1.length ≤ c' ∧ (∀ ad, B = some ad → w.heap.size ≤ ad.block) ∧ (textD most r).1.length ≤ 1048576 ∧ Rest w' R Bd (textD most r).2 ∧ Chg (fun k => k = R) w w' := by
  obtain ⟨⟨A, c, hB, hr, hc, hA⟩, hl, hlo⟩ := h
  have c0 : w.cell? ⟨R, 0, none⟩ = some (.slice A r.length c) := hB.cell 0
  have hrn := readBytes_any A c r (most : Nat) w hr (by omega) hc (by omega) (by omega)
  have hp := rdBytes_le (most : Nat) r
  have hxl : (rdBytes (most : Nat) r).1.length ≤ r.length := by
    unfold rdBytes
    split
    · exact Nat.zero_le _
    · split
      · exact Nat.zero_le _
      · split
        · exact Nat.zero_le _
        · simp only [List.length_take, List.length_drop]; omega
  unfold textD
  dsimp only
  generalize rdBytes (most : Nat) r = N at *
  obtain ⟨x, p, er⟩ := N
  dsimp only at *
  go_enter Tryd.func69, Tryd.ntmps69
  go_wp2_with fail
  refine hrn.mono ?_
  rintro e w1 ⟨B, c2, out, rfl, rfl, ho, hb⟩
  clear hrn
  have hB1 := hB.below' hb
  have c1 : w1.cell? ⟨R, 0, none⟩ = some (.slice A r.length c) := hB1.cell 0
  have f1 := hB1.frozen 0
  have hst := Rest.set hB1 (hr.below hb) hc hl hlo hA p hp
  have hcap := own_cap ho
  have hBR : ∀ ad, B = some ad → ad.block ≠ R := fun ad e => by have h1 := (hcap.2.2 ad e).1; have := hB.lt; omega
  have hro := (Rd.of_own ho).keepC hst.2 hBR
  have hcb := (Chg.of_below (S := fun k => k = R) hb).trans hst.2
  generalize hA1 : (if c = p then A else A.map (·.add p)) = A1 at *
  clear c0 hB hr
  go_wp2_with fail
  go_ret
  exact ⟨B, c2, rfl, hro, hcap.1, fun ad e => (hcap.2.2 ad e).1, by omega, hst.1, hcb⟩
end Go.Proofs.YthhpcilinkebeaaDoor
