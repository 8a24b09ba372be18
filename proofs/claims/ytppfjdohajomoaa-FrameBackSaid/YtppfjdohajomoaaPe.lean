/- Plain: a byte that is another one is found by the checksum; a number's low bytes are read as they were. -/
import Derived.Test.YtppfjdohajomoaaPd
import Derived.Test.YtppfjdohajomoaaPc
namespace Go.Proofs.Ytppfjdohajomoaa

theorem bit1_zero {c : Nat} (hc : c < 4294967296) (h : bit1 c = 0) : c = 0 := by
  unfold bit1 at h
  split at h
  · exfalso
    have h1 : c / 2 = 2197175160 := by
      have := congrArg (· ^^^ 2197175160) h
      simpa [Nat.xor_assoc] using this
    omega
  · omega
theorem bitN_zero {c : Nat} (hc : c < 4294967296) : ∀ n, bitN n c = 0 → c = 0
  | 0, h => h
  | n + 1, h => bitN_zero hc n (bit1_zero (bitN_lt n hc) h)
theorem xor_zero {a b : Nat} (h : a ^^^ b = 0) : a = b := by
  apply Nat.eq_of_testBit_eq
  intro i
  have := congrArg (·.testBit i) h
  simp only [Nat.testBit_xor, Nat.zero_testBit] at this
  cases ha : a.testBit i <;> cases hb : b.testBit i <;> simp_all
theorem bitN_inj {a b : Nat} (n : Nat) (ha : a < 4294967296) (hb : b < 4294967296) (h : bitN n a = bitN n b) : a = b := by
  have h0 : bitN n (a ^^^ b) = 0 := by rw [bitN_xor, h, Nat.xor_self]
  exact xor_zero (bitN_zero (Nat.xor_lt_two_pow (n := 32) (by omega) (by omega)) n h0)
theorem xor_cancel {a b x : Nat} (h : a ^^^ x = b ^^^ x) : a = b := by
  have := congrArg (· ^^^ x) h
  simpa [Nat.xor_assoc] using this
theorem crcStep_inj {c d : Nat} (hc : c < 4294967296) (hd : d < 4294967296) (x : UInt8) (h : crcStep c x = crcStep d x) : c = d := by
  rw [step_eq, step_eq] at h
  exact xor_cancel (bitN_inj 8 (xorb_lt hc x) (xorb_lt hd x) h)
theorem crcStep_inj' {c : Nat} (hc : c < 4294967296) {x y : UInt8} (h : crcStep c x = crcStep c y) : x = y := by
  rw [step_eq, step_eq] at h
  have h1 := bitN_inj 8 (xorb_lt hc x) (xorb_lt hc y) h
  rw [Nat.xor_comm c, Nat.xor_comm c] at h1
  exact UInt8.toNat_inj.1 (xor_cancel h1)
theorem crcFold_inj : ∀ (l : List UInt8) {c d : Nat}, c < 4294967296 → d < 4294967296 → l.foldl crcStep c = l.foldl crcStep d → c = d
  | [], _, _, _, _, h => h
  | b :: l, _, _, hc, hd, h => crcStep_inj hc hd b (crcFold_inj l (crcStep_lt hc b) (crcStep_lt hd b) h)
theorem crcB_ne (p q : List UInt8) {x y : UInt8} (hne : x ≠ y) : crcB (p ++ x :: q) ≠ crcB (p ++ y :: q) := by
  intro h
  unfold crcB at h
  have h1 := xor_cancel h
  rw [List.foldl_append, List.foldl_append, List.foldl_cons, List.foldl_cons] at h1
  have hp := crcFold_lt p (c := 4294967295) (by omega)
  exact hne (crcStep_inj' hp (crcFold_inj q (crcStep_lt hp x) (crcStep_lt hp y) h1))
theorem crcB_set (l : List UInt8) (i : Nat) (hi : i < l.length) (y : UInt8) (hne : l[i] ≠ y) : crcB (l.set i y) ≠ crcB l := by
  have e1 : l.set i y = l.take i ++ y :: l.drop (i + 1) := List.set_eq_take_append_cons_drop.trans (by rw [if_pos hi])
  have e2 : l = l.take i ++ l[i] :: l.drop (i + 1) := by rw [List.getElem_cons_drop, List.take_append_drop]
  rw [e1]
  conv => rhs; rw [e2]
  exact (crcB_ne _ _ hne).symm

theorem lowB_zero (v : Nat) : lowB v 0 = [] := rfl
theorem lowB_cons (v n : Nat) : lowB v (n + 1) = UInt8.ofNat v :: lowB (v / 256) n := by
  unfold lowB
  rw [List.range_succ_eq_map, List.map_cons, List.map_map]
  congr 1
  · simp
  · refine List.map_congr_left fun k _ => ?_
    simp only [Function.comp]
    rw [Nat.pow_succ, Nat.mul_comm, Nat.div_div_eq_div_mul]
theorem leN_lowB : ∀ (n v : Nat), v < 256 ^ n → leN (lowB v n) = v
  | 0, v, h => by simp [lowB, leN]; omega
  | n + 1, v, h => by
    rw [lowB_cons]
    have h1 : v / 256 < 256 ^ n := by rw [Nat.div_lt_iff_lt_mul (by omega), ← Nat.pow_succ]; exact h
    simp only [leN, leN_lowB n _ h1, UInt8.toNat_ofNat']
    omega
theorem lowB_leN : ∀ l : List UInt8, lowB (leN l) l.length = l
  | [] => rfl
  | b :: l => by
    have hb := b.toNat_lt
    rw [List.length_cons, lowB_cons]
    have e1 : (leN (b :: l)) / 256 = leN l := by simp only [leN]; omega
    rw [e1, lowB_leN l]
    congr 1
    apply UInt8.toNat_inj.1
    rw [UInt8.toNat_ofNat']
    simp only [leN]
    omega
theorem leN_inj {l m : List UInt8} (hl : l.length = m.length) (h : leN l = leN m) : l = m := by
  rw [← lowB_leN l, ← lowB_leN m, h, hl]
theorem leN_set (l : List UInt8) (i : Nat) (hi : i < l.length) (y : UInt8) (hne : l[i] ≠ y) : leN (l.set i y) ≠ leN l := by
  intro h
  have h1 := leN_inj (by simp) h
  have h2 := congrArg (·[i]?) h1
  simp only [List.getElem?_set_self hi, List.getElem?_eq_getElem hi, Option.some.injEq] at h2
  exact hne h2.symm

/-- a page with another byte is found -/
theorem rdPage_set (room : Int) (hroom : room ≠ 0) (T : List UInt8) (i : Nat) (hi : i < (lowB (crcB T) 4 ++ T).length) (y : UInt8) (hne : (lowB (crcB T) 4 ++ T)[i] ≠ y) :
    rdPage room ((lowB (crcB T) 4 ++ T).set i y) = ((0, 0, 0, 0), [], 23) := by
  have hc : leN (lowB (crcB T) 4) = crcB T := leN_lowB 4 _ (crcB_lt T)
  have hlen : (lowB (crcB T) 4).length = 4 := lowB_length _ _
  generalize lowB (crcB T) 4 = C at *
  have key : leN (((C ++ T).set i y).take 4) ≠ crcB (((C ++ T).set i y).drop 4) := by
    by_cases h4 : i < 4
    · have e1 : ((C ++ T).set i y).take 4 = C.set i y := by
        rw [List.set_append, if_pos (by omega), List.take_append_of_le_length (by simp; omega), List.take_of_length_le (by simp; omega)]
      have e2 : ((C ++ T).set i y).drop 4 = T := by
        rw [List.set_append, if_pos (by omega), List.drop_append_of_le_length (by simp; omega), List.drop_of_length_le (by simp; omega)]
        rfl
      rw [e1, e2, ← hc]
      refine leN_set C i (by omega) y ?_
      rwa [List.getElem_append_left (by omega)] at hne
    · have e1 : ((C ++ T).set i y).take 4 = C := by
        rw [List.set_append, if_neg (by omega), List.take_append_of_le_length (by omega), List.take_of_length_le (by omega)]
      have e2 : ((C ++ T).set i y).drop 4 = T.set (i - 4) y := by
        rw [List.set_append, if_neg (by omega), List.drop_append_of_le_length (by omega), List.drop_of_length_le (by omega), hlen]
        rfl
      rw [e1, e2, hc]
      have hi' : i - 4 < T.length := by simp at hi; omega
      refine (crcB_set T (i - 4) hi' y ?_).symm
      rw [List.getElem_append_right (by omega)] at hne
      simpa [hlen] using hne
  unfold rdPage
  rw [if_neg hroom, if_pos key]

theorem cutB_app_left (a b : List UInt8) (i n : Nat) (h : i + n ≤ a.length) : cutB (a ++ b) i n = cutB a i n := by
  unfold cutB
  rw [List.drop_append_of_le_length (by omega), List.take_append_of_le_length (by simp; omega)]
theorem cutB_app_right (a b : List UInt8) (i n : Nat) (h : a.length ≤ i) : cutB (a ++ b) i n = cutB b (i - a.length) n := by
  unfold cutB
  rw [List.drop_append, List.drop_of_length_le h, List.nil_append]
theorem cutB_all (a : List UInt8) (n : Nat) (h : a.length = n) : cutB a 0 n = a := by
  unfold cutB
  rw [List.drop_zero, List.take_of_length_le (by omega)]
theorem cutB_mid (a b c : List UInt8) (i n : Nat) (hi : a.length = i) (hn : b.length = n) : cutB (a ++ (b ++ c)) i n = b := by
  rw [cutB_app_right _ _ _ _ (by omega), hi, Nat.sub_self, cutB_app_left _ _ _ _ (by omega), cutB_all _ _ hn]

/-- a record whose payload has another byte is found -/
theorem rdRec_set (seq : Nat) (x : List UInt8) (hx : x.length ≤ 65536) (i : Nat) (hi : i < x.length) (y : UInt8) (hne : x[i] ≠ y) :
    rdRec (numB x.length ++ (lowB (crcB (lowB seq 8 ++ x)) 4 ++ (lowB seq 8 ++ x.set i y))) = (0, [], 0, 23) := by
  have hnum := rdNum_numB x.length (by omega) (lowB (crcB (lowB seq 8 ++ x)) 4 ++ (lowB seq 8 ++ x.set i y))
  have hS : (lowB seq 8).length = 8 := lowB_length _ _
  generalize lowB seq 8 = S at *
  have hc : leN (lowB (crcB (S ++ x)) 4) = crcB (S ++ x) := leN_lowB 4 _ (crcB_lt _)
  have hlen : (lowB (crcB (S ++ x)) 4).length = 4 := lowB_length _ _
  generalize lowB (crcB (S ++ x)) 4 = C at *
  generalize hN : numB x.length = N at *
  have e1 : cutB (N ++ (C ++ (S ++ x.set i y))) N.length 4 = C := cutB_mid _ _ _ _ _ rfl hlen
  have e2 : cutB (N ++ (C ++ (S ++ x.set i y))) (N.length + 4) (8 + x.length) = S ++ x.set i y := by
    rw [← List.append_assoc]
    have := cutB_mid (N ++ C) (S ++ x.set i y) [] (N.length + 4) (8 + x.length) (by simp [hlen]) (by simp [hS])
    simpa using this
  have e3 : crcB (S ++ x.set i y) ≠ crcB (S ++ x) := by
    have h1 := crcB_set (S ++ x) (S.length + i) (by simp; omega) y (by simpa using hne)
    rwa [List.set_append, if_neg (by omega), Nat.add_sub_cancel_left] at h1
  unfold rdRec
  rw [hnum]
  simp only [e1, e2, hc]
  rw [if_neg (by simp), if_neg (by omega), if_neg (by simp [hlen, hS]; omega), if_pos e3.symm]
end Go.Proofs.Ytppfjdohajomoaa
