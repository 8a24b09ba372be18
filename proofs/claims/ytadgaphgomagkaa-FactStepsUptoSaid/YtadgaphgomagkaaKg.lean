/- Four bytes as numbers, sums ahead of bytes. -/
import Derived.Test.YtadgaphgomagkaaFi
import Derived.Test.YtadgaphgomagkaaFg
import Derived.Test.YtadgaphgomagkaaFl
import Derived.Test.YtadgaphgomagkaaKd
import Derived.Deep.QuietTactic
import Derived.BigQuiet
import Derived.Lib.ConvBytes
namespace Go.Proofs.Ytadgaphgomagkaa
open Go.RowKit
set_option maxHeartbeats 2000000
set_option maxRecDepth 100000

theorem ffour_any (A : Option Addr) (c v m base : Nat) (xs : List Value) (w : World) (hown : w.ownsRow base 5 1 (.slice A m c) m xs) (hb : base ≤ w.heap.size) (hm : m + 10 ≤ 140737488355328) (hv : v < 4294967296) :
    Calls Try.prog 64 #[.slice A m c, .int .i64 v] w fun e w' => ∃ A' c', e = .returned (.slice A' (m + 4) c') ∧
      w'.ownsRow base 5 1 (.slice A' (m + 4) c') (m + 4) (xs ++ byts (lowB v 4)) ∧ Grew w w' (.slice A m c) (.slice A' (m + 4) c') := by
  have hE : byts (lowB v 4) = [.int .u8 ((v : Int) % 256), .int .u8 ((v : Int) / 256 % 256), .int .u8 ((v : Int) / 65536 % 256), .int .u8 ((v : Int) / 16777216)] := by
    simp [byts, byt, lowB, List.range_succ]
    omega
  have hrd := Rd.many w (byts (lowB v 4)) 5
  rw [hE] at hrd
  have HE := Lib.hid hE
  clear hE
  go_enter Try.func64, Try.ntmps64
  go_wp2_with (first | (at_builtin; go_loud (refine wpList_app _ rfl _ _ rfl slB base (.slice A m c) _ _ rfl (hown.alloc _) _ 4 4 (byts (lowB v 4)) rfl (by rw [byts_length, lowB_length]) (by rw [HE.out]; exact hrd) (byts_one _) (by unfold maxLen; omega) (by omega) (by simp; omega) ?_); intro A2 c2 w2 ho2 hg2))
  go_ret
  exact ⟨A2, c2, rfl, ho2, ((Grew.refl _ _).alloc _).trans hg2⟩
theorem ffour2_any (A : Option Addr) (c v m base : Nat) (xs : List Value) (w : World) (hown : w.ownsRow base 5 1 (.slice A m c) m xs) (hb : base ≤ w.heap.size) (hm : m + 10 ≤ 140737488355328) (_hv : v < 4611686018427387904) :
    Calls Try.prog 64 #[.slice A m c, .int .i64 v] w fun e w' => ∃ A' c', e = .returned (.slice A' (m + 4) c') ∧
      w'.ownsRow base 5 1 (.slice A' (m + 4) c') (m + 4) (xs ++ byts (lowB v 4)) ∧ Grew w w' (.slice A m c) (.slice A' (m + 4) c') := by
  have hE : byts (lowB v 4) = [.int .u8 ((v : Int) % 256), .int .u8 ((v : Int) / 256 % 256), .int .u8 ((v : Int) / 65536 % 256), .int .u8 ((v : Int) / 16777216 % 256)] := by
    simp [byts, byt, lowB, List.range_succ]
    try omega
  have hrd := Rd.many w (byts (lowB v 4)) 5
  rw [hE] at hrd
  have HE := Lib.hid hE
  clear hE
  go_enter Try.func64, Try.ntmps64
  go_wp2_with (first | (at_builtin; go_loud (refine wpList_app _ rfl _ _ rfl slB base (.slice A m c) _ _ rfl (hown.alloc _) _ 4 4 (byts (lowB v 4)) rfl (by rw [byts_length, lowB_length]) (by rw [HE.out]; exact hrd) (byts_one _) (by unfold maxLen; omega) (by omega) (by simp; omega) ?_); intro A2 c2 w2 ho2 hg2))
  go_ret
  exact ⟨A2, c2, rfl, ho2, ((Grew.refl _ _).alloc _).trans hg2⟩
theorem i64_or_nat (a b : Nat) (ha : a < 4294967296) (hb : b < 4294967296) : bits .or .i64 (a : Int) (b : Int) = ((a ||| b : Nat) : Int) := by
  have hx : a ||| b < 2 ^ 32 := Nat.or_lt_two_pow (by omega) (by omega)
  show IntKind.i64.wrap ((BitVec.ofInt 64 (a : Int) ||| BitVec.ofInt 64 (b : Int)).toNat : Int) = _
  rw [BitVec.toNat_or, ofInt_u64 a (by omega), ofInt_u64 b (by omega), IntWalk.i64_in _ (by omega)]
theorem ori_join (i P x y : Nat) (hP : P = 2 ^ i) (hx : x < P) (h1 : x < 4294967296) (h2 : y * P < 4294967296) : bits .or .i64 (x : Int) ((y : Int) * (P : Int)) = ((x + y * P : Nat) : Int) := by
  subst hP
  have h := i64_or_nat x (y * 2 ^ i) h1 h2
  rw [Nat.or_comm, nat_join i (y * 2 ^ i) x (by simp) hx] at h
  rw [← Int.natCast_mul, h, Nat.add_comm]
theorem fnumber_any (A : Option Addr) (c n : Nat) (l : List UInt8) (w : World) (hr : Rd w A (byts l)) (hn : l.length = n) (hl : 4 ≤ n) :
    Calls Try.prog 77 #[.slice A n c] w fun e w' => e = .returned (.int .i64 (leN (l.take 4) : Nat)) ∧ ∃ q, w' = w.drewN q := by
  match l, (show 4 ≤ l.length by omega) with
  | b0 :: b1 :: b2 :: b3 :: l, _ =>
  obtain ⟨ad, rfl, hb, hc⟩ := hr (by simp [byts])
  have c0 : w.cell? (ad.add 0) = some (.int .u8 (b0.toNat : Int)) := hc 0 _ rfl
  have c1 : w.cell? (ad.add 1) = some (.int .u8 (b1.toNat : Int)) := hc 1 _ rfl
  have c2 : w.cell? (ad.add 2) = some (.int .u8 (b2.toNat : Int)) := hc 2 _ rfl
  have c3 : w.cell? (ad.add 3) = some (.int .u8 (b3.toNat : Int)) := hc 3 _ rfl
  have h0 : b0.toNat < 256 := b0.toNat_lt
  have h1 : b1.toNat < 256 := b1.toNat_lt
  have h2 : b2.toNat < 256 := b2.toNat_lt
  have h3 : b3.toNat < 256 := b3.toNat_lt
  have hV : bits .or .i64 (bits .or .i64 (bits .or .i64 (b0.toNat : Int) ((b1.toNat : Int) * 256)) ((b2.toNat : Int) * 65536)) ((b3.toNat : Int) * 16777216) = ((leN ((b0 :: b1 :: b2 :: b3 :: l).take 4) : Nat) : Int) := by
    have e1 := ori_join 8 256 b0.toNat b1.toNat (by decide) (by omega) (by omega) (by omega)
    have e2 := ori_join 16 65536 (b0.toNat + b1.toNat * 256) b2.toNat (by decide) (by omega) (by omega) (by omega)
    have e3 := ori_join 24 16777216 (b0.toNat + b1.toNat * 256 + b2.toNat * 65536) b3.toNat (by decide) (by omega) (by omega) (by omega)
    rw [show ((b1.toNat : Int) * 256) = (b1.toNat : Int) * ((256 : Nat) : Int) from rfl, e1, show ((b2.toNat : Int) * 65536) = (b2.toNat : Int) * ((65536 : Nat) : Int) from rfl, e2, show ((b3.toNat : Int) * 16777216) = (b3.toNat : Int) * ((16777216 : Nat) : Int) from rfl, e3]
    show _ = ((b0.toNat + 256 * (b1.toNat + 256 * (b2.toNat + 256 * (b3.toNat + 256 * 0))) : Nat) : Int)
    congr 1
    omega
  have HV := Lib.hid hV
  clear hV hn
  simp [Addr.add] at c0 c1 c2 c3
  have k0 : (0 : Int) < n := by omega
  have k1 : (1 : Int) < n := by omega
  have k2 : (2 : Int) < n := by omega
  have k3 : (3 : Int) < n := by omega
  go_enter Try.func77, Try.ntmps77
  go_wp2_with fail
  go_quiet (fail)
  go_wp2
  go_ret
  exact ⟨by rw [← HV.out]; rfl, nq, rfl⟩
end Go.Proofs.Ytadgaphgomagkaa
/- Sums ahead of bytes: the program's, the reference's. -/
namespace Go.Proofs.Ytadgaphgomagkaa
open Go.RowKit
set_option maxHeartbeats 2000000
set_option maxRecDepth 100000

def sumB (l : List UInt8) : List UInt8 := lowB (crcB l) 4 ++ l
theorem sumB_length (l : List UInt8) : (sumB l).length = l.length + 4 := by simp [sumB, lowB_length]; omega
theorem flat_one (A : Option Addr) (c : Nat) (l : List UInt8) : flat [(⟨A, c, l⟩ : Sb)] = l := by simp [flat]
theorem sum1_any (A : Option Addr) (c : Nat) (l : List UInt8) (g : Nat) (w : World) (hr : Rd w A (byts l)) (hc : l.length ≤ c) (hl : l.length ≤ 140737488351232) (hg : Rd w (some ⟨g, 0, none⟩) [.slice A l.length c]) :
    Calls Try.prog 65 #[.slice (some ⟨g, 0, none⟩) 1 1] w fun e w' => e = .returned (.int .u32 (crcB l : Nat)) ∧ Below w.heap.size w w' := by
  have h := sum_any (some ⟨g, 0, none⟩) 1 [⟨A, c, l⟩] w hg (by simp) (by
    intro s hs
    rw [List.mem_singleton.1 hs]
    exact ⟨hr, hc, hl⟩)
  rw [flat_one] at h
  exact h
theorem fsummed_any (A : Option Addr) (c : Nat) (l : List UInt8) (w : World) (hr : Rd w A (byts l)) (hc : l.length ≤ c) (hl : l.length ≤ 70368744177664) :
    Calls Try.prog 63 #[.slice A l.length c] w fun e w' => ∃ A' c', e = .returned (.slice A' (l.length + 4) c') ∧
      w'.ownsRow w.heap.size 5 1 (.slice A' (l.length + 4) c') (l.length + 4) (byts (sumB l)) ∧ Below w.heap.size w w' := by
  have hcr := crcB_lt l
  have hs := fun g W => sum1_any A c l g W
  have HL := Lib.hid (byts_length l)
  have hE : byts (sumB l) = byts (lowB (crcB l) 4) ++ byts l := by simp [sumB, byts]
  have HE := Lib.hid hE
  clear hE
  generalize crcB l = s at *
  have hf := fun W => ffour_any none 0 s 0 W.heap.size [] W (World.ownsRow_nil _ _ _ _) (Nat.le_refl _) (by omega) hcr
  generalize sumB l = sl at *
  have hb0 := (Below.refl w.heap.size w).alloc (Nat.le_refl _) (.cells #[.slice A l.length c] 35)
  have hg := Rd.one w (.slice A l.length c) 35
  have hr0 := hr.below hb0
  have hs0 := hs _ _ hr0 hc (by omega) hg
  clear hs
  go_enter Try.func63, Try.ntmps63
  go_wp2_with fail
  refine hs0.mono ?_
  rintro e w1 ⟨rfl, hb1⟩
  have hb01 := hb0.trans (hb1.mono hb0.size)
  have hf1 := hf w1
  clear hs0 hf
  go_wp2_with fail
  refine hf1.mono ?_
  rintro e w2 ⟨A2, c2, rfl, ho2, hg2⟩
  have hb2 : Below w1.heap.size w1 w2 := hg2.toBelow (Nat.le_refl _) (by simp [Value.ownBlock])
  have hb02 := hb01.trans (hb2.mono hb01.size)
  have hr2 := hr.below hb02
  simp only [Nat.zero_add, List.nil_append] at ho2
  clear hf1 hg2
  go_wp2_with (at_builtin; refine wpList_app _ rfl _ _ rfl slB w1.heap.size (.slice A2 4 c2) _ _ rfl ho2 A l.length c (byts l) rfl (by rw [HL.out, Nat.mul_one]) hr2 (byts_one _) (by unfold maxLen; omega) (by omega) hb2.size ?_; intro A3 c3 w3 ho3 hg3)
  go_ret
  have hlt : w.heap.size ≤ w1.heap.size := hb01.size
  have hb3 : Below w.heap.size w w3 := hb02.trans (hg3.toBelow hb02.size (fun g h => Nat.le_trans hlt (ho2.lt g h).1))
  refine ⟨A3, c3, by rw [Nat.add_comm]; rfl, ?_, hb3⟩
  rw [HE.out, Nat.add_comm l.length 4]
  exact own_mono ho3 hlt
theorem rsummed_any (A : Option Addr) (c : Nat) (l : List UInt8) (w : World) (hr : Rd w A (byts l)) (hl : l.length ≤ 70368744177664) :
    Calls Try.prog 68 #[.slice A l.length c] w fun e w' => ∃ A' c', e = .returned (.slice A' (l.length + 4) c') ∧
      w'.ownsRow w.heap.size 5 1 (.slice A' (l.length + 4) c') (l.length + 4) (byts (sumB l)) ∧ Below w.heap.size w w' := by
  have hcr := crcB_lt l
  have hs := refSum_any A c l w hr (by omega)
  rw [← crc_eq] at hs
  have HL := Lib.hid (byts_length l)
  have hE : byts (sumB l) = byts (lowB (crcB l) 4) ++ byts l := by simp [sumB, byts]
  have HE := Lib.hid hE
  clear hE
  generalize crcB l = s at *
  have hf := four_any none 0 s 0 w.heap.size [] w (World.ownsRow_nil _ _ _ _) (Nat.le_refl _) (by omega) hcr
  generalize sumB l = sl at *
  go_enter Try.func68, Try.ntmps68
  go_wp2_with fail
  refine hs.mono ?_
  rintro e w1 ⟨rfl, rfl⟩
  clear hs
  go_wp2_with fail
  refine hf.mono ?_
  rintro e w2 ⟨A2, c2, rfl, ho2, hg2⟩
  have hb2 : Below w.heap.size w w2 := hg2.toBelow (Nat.le_refl _) (by simp [Value.ownBlock])
  have hr2 := hr.below hb2
  simp only [Nat.zero_add, List.nil_append] at ho2
  clear hf hg2
  go_wp2_with (at_builtin; refine wpList_app _ rfl _ _ rfl slB w.heap.size (.slice A2 4 c2) _ _ rfl ho2 A l.length c (byts l) rfl (by rw [HL.out, Nat.mul_one]) hr2 (byts_one _) (by unfold maxLen; omega) (by omega) hb2.size ?_; intro A3 c3 w3 ho3 hg3)
  go_ret
  refine ⟨A3, c3, by rw [Nat.add_comm]; rfl, ?_, hb2.trans (hg3.toBelow hb2.size (fun g h => (ho2.lt g h).1))⟩
  rw [HE.out, Nat.add_comm l.length 4]
  exact ho3
end Go.Proofs.Ytadgaphgomagkaa
/- Facts that are too long are sought. -/
namespace Go.Proofs.Ytadgaphgomagkaa
open Go.RowKit
set_option maxHeartbeats 4000000
set_option maxRecDepth 100000

def longF (f : FM) : Bool := decide (1024 < f.k.size) || decide (1048576 < f.l.length)
theorem tooLong_any (f : FM) (w : World) : Calls Try.prog 60 #[f.val] w fun e w' => e = .returned (.bool (longF f)) ∧ Below w.heap.size w w' := by
  have HL : Hid (longF f = (decide (1024 < f.k.size) || decide (1048576 < f.l.length))) := Lib.hid rfl
  generalize longF f = R at *
  unfold FM.val
  obtain ⟨k, s, A, c, l⟩ := f
  simp only at HL ⊢
  have hb := (Below.refl w.heap.size w).alloc (Nat.le_refl _) (.cells #[.string k, .int .u64 (s : Nat), .slice A l.length c] 71)
  by_cases h1 : 1024 < k.size
  · have d1 : decide ((1024 : Int) < (k.size : Int)) = true := by simp; omega
    have HR := Lib.hid (show R = true by rw [HL.out]; simp [h1])
    clear h1 HL
    go_enter Try.func60, Try.ntmps60
    go_wp2
    go_ret
    exact ⟨by rw [HR.out]; rfl, hb⟩
  · have d1 : decide ((1024 : Int) < (k.size : Int)) = false := by simp; omega
    by_cases h2 : 1048576 < l.length
    · have d2 : decide ((1048576 : Int) < (l.length : Int)) = true := by simp; omega
      have HR := Lib.hid (show R = true by rw [HL.out]; simp [h2])
      clear h2 h1 HL
      go_enter Try.func60, Try.ntmps60
      go_wp2
      go_ret
      exact ⟨by rw [HR.out]; rfl, hb⟩
    · have d2 : decide ((1048576 : Int) < (l.length : Int)) = false := by simp; omega
      have HR := Lib.hid (show R = false by rw [HL.out]; simp; omega)
      clear h2 h1 HL
      go_enter Try.func60, Try.ntmps60
      go_wp2
      go_ret
      exact ⟨by rw [HR.out]; rfl, hb⟩
theorem indexFact_any (A : Option Addr) (c : Nat) (l : List FM) (w : World) (hr : Rd w A (fcells l)) (hl : l.length ≤ 1048576) :
    Calls Try.prog 95 #[.slice A l.length c, .func (.func 60) #[] #[]] w fun e w' => (∃ r : Int, e = .returned (.int .i64 r) ∧ decide (0 ≤ r) = l.any longF) ∧ Below w.heap.size w w' := by
  go_enter Try.func95, Try.ntmps95
  go_wp2
  go_loopg [8] l.length (fun m i wr => ∃ k : Nat, m = l.length - k ∧ k ≤ l.length ∧ i = .int .i64 k ∧ (l.take k).any longF = false ∧ Below w.heap.size w wr)
  case atStart => exact ⟨0, by omega, by omega, rfl, rfl, Below.refl _ _⟩
  case round =>
    obtain ⟨k, rfl, hk, rfl, hs, hb⟩ := hrel
    by_cases hlt : k < l.length
    · obtain ⟨ad, rfl, c0, c1, c2⟩ := facts_at (hr.below hb) k hlt
      have hs2 : (l.take (k + 1)).any longF = longF l[k] := by rw [List.take_succ_eq_append_getElem hlt, List.any_append, hs]; simp
      have hs3 : longF l[k] = true → l.any longF = true := fun h => List.any_eq_true.2 ⟨_, List.getElem_mem hlt, h⟩
      have hcall := fun W => tooLong_any l[k] W
      unfold FM.val at hcall
      generalize longF l[k] = b at *
      have HS := Lib.hid hs2
      have HT := Lib.hid hs3
      clear hs hs2 hs3
      cases b with
      | false =>
        go_wp2_with (go_at_call 60; refine (hcall _).mono ?_; rintro e w' ⟨rfl, hb2⟩)
        go_roundg (l.length - (k + 1))
        case measure => omega
        case rel => exact ⟨k + 1, rfl, by omega, by go_num, HS.out, hb.trans (hb2.mono hb.size)⟩
      | true =>
        go_wp2_with (go_at_call 60; refine (hcall _).mono ?_; rintro e w' ⟨rfl, hb2⟩)
        go_ret
        exact ⟨⟨k, rfl, by rw [HT.out trivial]; simp⟩, hb.trans (hb2.mono hb.size)⟩
    · obtain rfl : k = l.length := by omega
      rw [List.take_length] at hs
      have HS := Lib.hid hs
      clear hs
      go_wp2
      go_ret
      exact ⟨⟨-1, rfl, by rw [HS.out]; rfl⟩, hb⟩
theorem anyLong_any (A : Option Addr) (c : Nat) (l : List FM) (w : World) (hr : Rd w A (fcells l)) (hl : l.length ≤ 1048576) :
    Calls Try.prog 59 #[.slice A l.length c, .func (.func 60) #[] #[]] w fun e w' => e = .returned (.bool (l.any longF)) ∧ Below w.heap.size w w' := by
  go_enter Try.func59, Try.ntmps59
  go_wp2_with (go_at_call 95; refine (indexFact_any A c l _ hr hl).mono ?_; rintro e w' ⟨⟨r, rfl, hr2⟩, hb⟩)
  go_ret
  exact ⟨by rw [← hr2]; rfl, hb⟩
end Go.Proofs.Ytadgaphgomagkaa
/- Texts as bytes; bytes with their length, numbers: one part at a time. -/
namespace Go.Proofs.Ytadgaphgomagkaa
open Go.RowKit
set_option maxHeartbeats 2000000
set_option maxRecDepth 100000

/-- a text's bytes -/
def strB (k : ByteArray) : List UInt8 := k.data.toList
theorem strB_length (k : ByteArray) : (strB k).length = k.size := rfl
theorem conv_str (w : World) (k : ByteArray) : ∃ c' w2, (convert 9 35 (.string k)).run Try.prog w = .ok (.slice (some ⟨w.heap.size, 0, none⟩) k.size c') w2 ∧ Rd w2 (some ⟨w.heap.size, 0, none⟩) (byts (strB k)) ∧ k.size ≤ c' ∧ Below w.heap.size w w2 := by
  refine ⟨_, _, Lib.run_convert_string_bytes w 9 35 5 k Try.underlying9 Try.underlying35 Try.underlying5, ?_, ?_, ?_⟩
  · intro _
    refine ⟨_, rfl, by rw [Lib.bytesWorld_size]; show w.heap.size < _; omega, fun j u hu => ?_⟩
    have hj : j < k.size := by
      have := (List.getElem?_eq_some_iff.1 hu).1
      rwa [byts_length, strB_length] at this
    have h := Lib.bytesWorld_cell w 5 k j hj
    have e : (⟨w.heap.size, 0, none⟩ : Addr).add j = ⟨w.heap.size, j, none⟩ := by
      by_cases h0 : j = 0
      · subst h0; rfl
      · simp [Addr.add, h0]
    rw [e, h, ← hu, byts, List.getElem?_map]
    have hj2 : j < k.data.toList.length := hj
    simp [strB, List.getD, List.getElem?_eq_getElem hj2, byt]
  · exact grownCap_ge w k.size 0 5
  · exact ⟨rfl, rfl, rfl, by rw [Lib.bytesWorld_size]; omega, fun j hj => Lib.bytesWorld_at_old w _ k j hj⟩
def lenB (x : List UInt8) : List UInt8 := numB x.length ++ x
theorem lenB_le (x : List UInt8) : (lenB x).length ≤ 10 + x.length := by
  have := (numF_length 9 x.length).1
  simp only [lenB, List.length_append]
  show (numF 9 x.length).length + _ ≤ _
  omega
theorem bytes1_any (A : Option Addr) (c : Nat) (l : List UInt8) (Ax : Option Addr) (cx : Nat) (x : List UInt8) (g : Nat) (w : World) (hr : Rd w A (byts l)) (hl : l.length ≤ c) (hx : Rd w Ax (byts x)) (hxc : x.length ≤ cx) (hg : Rd w (some ⟨g, 0, none⟩) [.slice Ax x.length cx]) (hsum : l.length + 10 + x.length ≤ 140737488351232) :
    Calls Try.prog 61 #[.slice A l.length c, .slice (some ⟨g, 0, none⟩) 1 1] w fun e w' => ∃ A' c', e = .returned (.slice A' (l ++ lenB x).length c') ∧ Rd w' A' (byts (l ++ lenB x)) ∧ (l ++ lenB x).length ≤ c' ∧ Below w.heap.size w w' := by
  have h := bytes_any A (some ⟨g, 0, none⟩) c 1 l [⟨Ax, cx, x⟩] w hr hl hg (by simp) (by
    intro s hs
    rw [List.mem_singleton.1 hs]
    exact ⟨hx, hxc, by simp only; omega⟩) (by rw [flat_one]; exact hsum)
  rw [flat_one] at h
  refine h.mono ?_
  rintro e w' ⟨A', c', rfl, ho, hb⟩
  exact ⟨A', c', rfl, Rd.of_own ho, (own_cap ho).1, hb⟩
theorem num1_any (A : Option Addr) (c v : Nat) (l : List UInt8) (w : World) (hr : Rd w A (byts l)) (hl : l.length ≤ c) (hc : l.length ≤ 140737488351232) (hv : v < 18446744073709551616) :
    Calls Try.prog 62 #[.slice A l.length c, .int .u64 v] w fun e w' => ∃ A' c', e = .returned (.slice A' (l ++ numB v).length c') ∧ Rd w' A' (byts (l ++ numB v)) ∧ (l ++ numB v).length ≤ c' ∧ Below w.heap.size w w' := by
  refine (number_any A c v l w hr hl hc hv).mono ?_
  rintro e w' ⟨A', c', rfl, ho, hb⟩
  exact ⟨A', c', rfl, Rd.of_own ho, (own_cap ho).1, hb⟩
theorem num1x_any (A : Option Addr) (c v : Nat) (l : List UInt8) (w : World) (hr : Rd w A (byts l)) (hl : l.length ≤ c) (hc : l.length ≤ 140737488351232) (hv : v < 18446744073709551616) :
    Calls Try.prog 62 #[.slice A l.length c, .int .u64 v] w fun e w' => ∃ A' c', e = .returned (.slice A' (l ++ numB v).length c') ∧ Rd w' A' (byts (l ++ numB v)) ∧ (l ++ numB v).length ≤ c' ∧ (∀ ad, A' = some ad → w.heap.size ≤ ad.block) ∧ Below w.heap.size w w' := by
  refine (number_any A c v l w hr hl hc hv).mono ?_
  rintro e w' ⟨A', c', rfl, ho, hb⟩
  exact ⟨A', c', rfl, Rd.of_own ho, (own_cap ho).1, fun ad e => ((own_cap ho).2.2 ad e).1, hb⟩
theorem Rd.grew {w w' : World} {A : Option Addr} {xs : List Value} {v v' : Value} (h : Rd w A xs) (hg : Grew w w' v v') (hA : ∀ ad, A = some ad → v.ownBlock ≠ some ad.block) : Rd w' A xs := fun hn => by
  obtain ⟨ad, e, hb, hcell⟩ := h hn
  refine ⟨ad, e, Nat.lt_of_lt_of_le hb hg.grown.size, fun j u hu => ?_⟩
  rw [World.cell?_of_block (w := w) (hg.grown.block _ (by rw [add_block]; exact hb) (by rw [add_block]; exact fun e' => hA ad e e'.symm))]
  exact hcell j u hu
/-- a fact's bytes -/
def encF (f : FM) : List UInt8 := lenB (strB f.k) ++ (numB f.s ++ lenB f.l)
theorem encF_le (f : FM) : (encF f).length ≤ 40 + f.k.size + f.l.length := by
  have h1 := lenB_le (strB f.k)
  have h2 := lenB_le f.l
  have h3 := (numF_length 9 f.s).1
  rw [strB_length] at h1
  have h4 : (numB f.s).length = (numF 9 f.s).length := rfl
  simp only [encF, List.length_append]
  omega
end Go.Proofs.Ytadgaphgomagkaa
