/- Parts and records are written. -/
import Derived.Test.YtppfjdohajomoaaFg
namespace Go.Proofs.Ytppfjdohajomoaa
open Go.RowKit
set_option maxHeartbeats 1000000
set_option maxRecDepth 100000

theorem head_any (s r sh sz : Int) (w : World) :
    Calls Try.prog 58 #[.agg #[.int .u64 s, .int .i64 r, .int .i64 sh, .int .i64 sz]] w fun e w' => e = .returned (.agg #[.int .u64 s, .int .i64 r, .int .i64 sh, .int .i64 sz]) ∧ Below w.heap.size w w' := by
  go_enter Try.func58, Try.ntmps58
  go_wp2
  refine bodyPost_ret (v := .agg #[.int .u64 s, .int .i64 r, .int .i64 sh, .int .i64 sz]) (by simp [results, Try.results58, go_sem]) rfl ⟨rfl, ?_⟩
  exact ((Below.refl _ _).alloc (Nat.le_refl _) _).alloc (by simp) _

theorem indexFunc_any (A : Option Addr) (c : Nat) (l : List UInt8) (w : World) (hr : Rd w A (byts l)) (hl : l.length ≤ 140737488351232) :
    Calls Try.prog 104 #[.slice A l.length c, .func (.func 87) #[] #[]] w fun e w' => (∃ r : Int, e = .returned (.int .i64 r) ∧ decide (0 ≤ r) = l.any (· != 0)) ∧ w = w' := by
  go_enter Try.func104, Try.ntmps104
  go_wp2
  go_loop [8] (fun i => ∃ k : Nat, k ≤ l.length ∧ i = .int .i64 k ∧ (l.take k).any (· != 0) = false) (fun i => l.length - (intOf i).toNat)
  case atStart => exact ⟨0, by omega, rfl, rfl⟩
  case round =>
    obtain ⟨k, hk, rfl, hs⟩ := hrel
    by_cases hlt : k < l.length
    · obtain ⟨ad, rfl, hb, hcell⟩ := hr.at_ (k := k) (by rw [byts_length]; exact hlt)
      have hc1 : w.cell? (ad.add k) = some (byt l[k]) := by rw [hcell]; simp [byts]
      have hs2 : (l.take (k + 1)).any (· != 0) = (l[k] != 0) := by rw [List.take_succ_eq_append_getElem hlt, List.any_append, hs]; simp
      have hs3 : l[k] ≠ 0 → l.any (· != 0) = true := fun h => List.any_eq_true.2 ⟨_, List.getElem_mem hlt, by simpa using h⟩
      generalize l[k] = b at *
      have hcall := isNot0_any b w
      have hbt : byt b = .int .u8 (b.toNat : Int) := rfl
      have HS := Lib.hid hs2
      have HT := Lib.hid hs3
      by_cases h0 : b = 0
      · subst h0
        have e0 : ((0 : UInt8).toNat != 0) = false := rfl
        rw [e0] at hcall
        clear hs hs2 hs3 hcell
        go_wp2_with (go_at_call 87; refine hcall.mono ?_; rintro e w' ⟨rfl, rfl⟩)
        go_round
        case rel => exact ⟨k + 1, by omega, by go_num, by rw [HS.out]; rfl⟩
        case measure => simp [intOf]; omega
      · have e0 : (b.toNat != 0) = true := by
          rw [bne_iff_ne]; intro h; exact h0 (UInt8.toNat_inj.1 h)
        rw [e0] at hcall
        have H0 := Lib.hid h0
        clear hs hs2 hs3 hcell h0 e0
        go_wp2_with (go_at_call 87; refine hcall.mono ?_; rintro e w' ⟨rfl, rfl⟩)
        go_ret
        exact ⟨⟨k, rfl, by rw [HT.out H0.out]; simp⟩, rfl⟩
    · obtain rfl : k = l.length := by omega
      rw [List.take_length] at hs
      have HS := Lib.hid hs
      clear hs
      go_wp2
      go_ret
      exact ⟨⟨-1, rfl, by rw [HS.out]; rfl⟩, rfl⟩
theorem containsFunc_any (A : Option Addr) (c : Nat) (l : List UInt8) (w : World) (hr : Rd w A (byts l)) (hl : l.length ≤ 140737488351232) :
    Calls Try.prog 86 #[.slice A l.length c, .func (.func 87) #[] #[]] w fun e w' => e = .returned (.bool (l.any (· != 0))) ∧ w = w' := by
  go_enter Try.func86, Try.ntmps86
  go_wp2_with (go_at_call 104; refine (indexFunc_any A c l _ hr hl).mono ?_; rintro e w' ⟨⟨r, rfl, hr2⟩, rfl⟩)
  go_ret
  exact ⟨by rw [← hr2]; rfl, rfl⟩

/-- parts that are not too many -/
def joinOk (ps : List Sb) : Bool := decide (ps = [] ∨ (ps.length ≤ 1000 ∧ (flat ps).length ≤ 65536))
def joinL (ps : List Sb) : List UInt8 := if joinOk ps then flat ps else []
theorem flat_take_le (ps : List Sb) (k : Nat) : (flat (ps.take k)).length ≤ (flat ps).length := by
  have h : flat ps = flat (ps.take k) ++ flat (ps.drop k) := by
    unfold flat
    rw [← List.flatMap_append, List.take_append_drop]
  rw [h, List.length_append]
  omega
theorem joined_any (A : Option Addr) (c : Nat) (ps : List Sb) (w : World) (hr : Rd w A (ps.map Sb.val)) (hl : ps.length ≤ 5864062014806) (hok : ∀ s ∈ ps, s.ok w) :
    Calls Try.prog 23 #[.slice A ps.length c] w fun e w' => ∃ A' c', e = .returned (.tuple #[.slice A' (joinL ps).length c', .bool (joinOk ps)]) ∧
      w'.ownsRow w.heap.size 5 1 (.slice A' (joinL ps).length c') (joinL ps).length (byts (joinL ps)) ∧ Below w.heap.size w w' := by
  generalize hJ : joinOk ps = J
  generalize hL : joinL ps = L
  have HJ0 := Lib.hid hJ
  have HL0 := Lib.hid hL
  clear hJ hL
  go_enter Try.func23, Try.ntmps23
  go_wp2
  go_loopw [4, 5] (fun b i wr => ∃ (k : Nat) (A' : Option Addr) (c' : Nat), k ≤ ps.length ∧ i = .int .i64 k ∧ b = .slice A' (flat (ps.take k)).length c' ∧ (0 < k → ps.length ≤ 1000) ∧ (flat (ps.take k)).length ≤ 65536 ∧
      wr.ownsRow w.heap.size 5 1 (.slice A' (flat (ps.take k)).length c') (flat (ps.take k)).length (byts (flat (ps.take k))) ∧ Below w.heap.size w wr) (fun _ i _ => ps.length - (intOf i).toNat)
  case atStart => exact ⟨0, none, 0, by omega, rfl, rfl, by omega, by simp [flat], World.ownsRow_nil _ _ _ _, Below.refl _ _⟩
  case round =>
    obtain ⟨k, A', c', hk, rfl, rfl, h1000, h64, ho, hb⟩ := hrel
    have hsz := hb.size
    by_cases hlt : k < ps.length
    · obtain ⟨ad, rfl, hba, hcell⟩ := (hr.below hb).at_ (k := k) (by simpa using hlt)
      have hc1 : wr.cell? (ad.add k) = some (ps[k]).val := by rw [hcell]; simp
      have hft := flat_take ps k hlt
      have hle := flat_take_le ps (k + 1)
      obtain ⟨hpr, hpl, hpc⟩ := Sb.ok_below (hok _ (List.getElem_mem hlt)) hb
      have hne : ps ≠ [] := by rintro rfl; simp at hlt
      generalize ps[k] = p at *
      obtain ⟨Ap, cp, lp⟩ := p
      simp only [Sb.val] at *
      have hlen : (flat (ps.take (k + 1))).length = (flat (ps.take k)).length + lp.length := by rw [hft, List.length_append]
      by_cases hbig : 1000 < ps.length
      · have hJ : joinOk ps = false := by simp [joinOk, hne]; omega
        have hL : joinL ps = [] := by simp [joinL, hJ]
        rw [HJ0.out] at hJ
        rw [HL0.out] at hL
        subst hJ hL
        clear hne hft hlen hcell
        go_wp2
        go_ret2
        exact ⟨none, 0, rfl, World.ownsRow_nil _ _ _ _, hb⟩
      · by_cases hmany : 65536 < (flat (ps.take k)).length + lp.length
        · have hJ : joinOk ps = false := by simp [joinOk, hne]; omega
          have hL : joinL ps = [] := by simp [joinL, hJ]
          rw [HJ0.out] at hJ
          rw [HL0.out] at hL
          subst hJ hL
          clear hne hft hlen hcell
          generalize (flat (ps.take k)).length = n at *
          have hm : 65536 - (n : Int) < (lp.length : Int) := by omega
          go_wp2
          go_ret2
          exact ⟨none, 0, rfl, World.ownsRow_nil _ _ _ _, hb⟩
        · have HF := Lib.hid hft
          have HL := Lib.hid hlen
          clear hne hft hlen hcell h1000
          generalize hn : (flat (ps.take k)).length = n at *
          have HN := Lib.hid hn
          have hm : ¬ 65536 - (n : Int) < (lp.length : Int) := by omega
          clear hn
          go_wp2_with (first | (at_builtin; refine wpList_app _ rfl _ _ rfl slB w.heap.size (.slice A' n c') n (byts (flat (ps.take k))) rfl ho Ap lp.length cp (byts lp) rfl (by rw [byts_length, Nat.mul_one]) hpr (byts_one _) (by unfold maxLen; omega) (by omega) (by omega) ?_; intro A2 c2 w2 ho2 hg2))
          go_roundw
          case rel => exact ⟨k + 1, A2, c2, by omega, by go_num, by rw [HL.out], by omega, by rw [HL.out]; omega, by rw [HL.out, HF.out, byts_append]; exact ho2, hb.trans (hg2.under ho (Nat.le_refl _) hsz)⟩
          case measure => simp [intOf]; omega
    · obtain rfl : k = ps.length := by omega
      rw [List.take_length] at *
      have hJ : joinOk ps = true := by
        simp only [joinOk, decide_eq_true_eq]
        rcases Nat.eq_zero_or_pos ps.length with h0 | h0
        · exact .inl (List.eq_nil_of_length_eq_zero h0)
        · exact .inr ⟨h1000 h0, h64⟩
      have hL : joinL ps = flat ps := by simp [joinL, hJ]
      rw [HJ0.out] at hJ
      rw [HL0.out] at hL
      subst hJ hL
      go_wp2
      go_ret2
      exact ⟨A', c', rfl, ho, hb⟩
end Go.Proofs.Ytppfjdohajomoaa
