/- Plain: what is written is read, and what is read is written just so. -/
import Derived.Test.YtppfjdohajomoaaPe
namespace Go.Proofs.Ytppfjdohajomoaa

theorem rdF_back : ∀ (l : List UInt8) (i acc : Nat), i ≤ 9 → (rdF i acc l).2.2 = 0 → ∃ w m, (rdF i acc l).1 = acc + w * 2 ^ (7 * i) ∧ (rdF i acc l).2.1 = i + m ∧ numF (9 - i) w = l.take m ∧ m ≤ l.length ∧ (0 < i → w ≠ 0)
  | [], i, acc, _, h => by simp [rdF] at h
  | c :: l, i, acc, hi, h => by
    have hc := c.toNat_lt
    have hcc : UInt8.ofNat c.toNat = c := by simp
    unfold rdF at h ⊢
    by_cases h1 : i = 9 ∧ 1 < c.toNat
    · simp [h1] at h
    · rw [if_neg h1] at h ⊢
      by_cases h2 : c.toNat < 128
      · rw [if_pos h2] at h ⊢
        by_cases h3 : c.toNat = 0 ∧ 0 < i
        · simp [h3] at h
        · rw [if_neg h3]
          refine ⟨c.toNat, 1, by rw [Nat.mod_eq_of_lt h2], rfl, ?_, by simp, fun h0 => by omega⟩
          have e : numF (9 - i) c.toNat = [UInt8.ofNat c.toNat] := by
            cases h9 : 9 - i with
            | zero => rfl
            | succ k => simp [numF, h2]
          rw [e, hcc]
          rfl
      · rw [if_neg h2] at h ⊢
        have h9 : i < 9 := by omega
        obtain ⟨w, m, e1, e2, e3, e4, e5⟩ := rdF_back l (i + 1) _ (by omega) h
        have hw := e5 (by omega)
        refine ⟨c.toNat % 128 + 128 * w, m + 1, ?_, by omega, ?_, by simpa using e4, fun _ => by omega⟩
        · rw [e1]
          have hp : 2 ^ (7 * (i + 1)) = 128 * 2 ^ (7 * i) := by rw [show 7 * (i + 1) = 7 + 7 * i by omega, Nat.pow_add]
          rw [hp, Nat.add_mul, ← Nat.mul_assoc, Nat.mul_comm w 128]
          omega
        · have e9 : 9 - i = (9 - (i + 1)) + 1 := by omega
          have hge : ¬ (c.toNat % 128 + 128 * w < 128) := by omega
          have hb : (c.toNat % 128 + 128 * w) % 128 + 128 = c.toNat := by omega
          have hq : (c.toNat % 128 + 128 * w) / 128 = w := by omega
          rw [e9, numF, if_neg hge, hb, hq, e3, hcc]
          rfl
theorem rdNum_back {l : List UInt8} (h : (rdNum l).2.2 = 0) : numB (rdNum l).1 = l.take (rdNum l).2.1 := by
  obtain ⟨w, m, e1, e2, e3, _⟩ := rdF_back l 0 0 (by omega) h
  unfold rdNum numB
  rw [e1, e2]
  simpa using e3

theorem cutB_join (l : List UInt8) (i n m : Nat) : cutB l i n ++ cutB l (i + n) m = cutB l i (n + m) := by
  unfold cutB
  rw [← List.drop_drop, List.take_add]
theorem cutB_zero (l : List UInt8) (n : Nat) : cutB l 0 n = l.take n := by simp [cutB]

theorem rdRec_recB (seq : Nat) (hs : seq < 18446744073709551616) (x r : List UInt8) (hx : x.length ≤ 65536) :
    rdRec ((numB x.length ++ (lowB (crcB (lowB seq 8 ++ x)) 4 ++ (lowB seq 8 ++ x))) ++ r) = (seq, x, (numB x.length ++ (lowB (crcB (lowB seq 8 ++ x)) 4 ++ (lowB seq 8 ++ x))).length, 0) := by
  have hnum := rdNum_numB x.length (by omega) ((lowB (crcB (lowB seq 8 ++ x)) 4 ++ (lowB seq 8 ++ x)) ++ r)
  have hS : (lowB seq 8).length = 8 := lowB_length _ _
  have hse : leN (lowB seq 8) = seq := leN_lowB 8 _ (by omega)
  generalize lowB seq 8 = S at *
  have hc : leN (lowB (crcB (S ++ x)) 4) = crcB (S ++ x) := leN_lowB 4 _ (crcB_lt _)
  have hlen : (lowB (crcB (S ++ x)) 4).length = 4 := lowB_length _ _
  generalize lowB (crcB (S ++ x)) 4 = C at *
  generalize hN : numB x.length = N at *
  have e1 : cutB (N ++ (C ++ (S ++ x)) ++ r) N.length 4 = C := by
    rw [List.append_assoc, List.append_assoc]
    exact cutB_mid _ _ _ _ _ rfl hlen
  have e2 : cutB (N ++ (C ++ (S ++ x)) ++ r) (N.length + 4) (8 + x.length) = S ++ x := by
    rw [← List.append_assoc N, List.append_assoc]
    exact cutB_mid (N ++ C) (S ++ x) r (N.length + 4) (8 + x.length) (by simp [hlen]) (by simp [hS])
  have e3 : cutB (N ++ (C ++ (S ++ x)) ++ r) (N.length + 4) 8 = S := by
    rw [← List.append_assoc N, List.append_assoc, List.append_assoc S]
    exact cutB_mid (N ++ C) S (x ++ r) (N.length + 4) 8 (by simp [hlen]) hS
  have e4 : cutB (N ++ (C ++ (S ++ x)) ++ r) (N.length + 12) x.length = x := by
    rw [← List.append_assoc C, ← List.append_assoc N, List.append_assoc]
    exact cutB_mid (N ++ (C ++ S)) x r (N.length + 12) x.length (by simp [hlen, hS]) rfl
  unfold rdRec
  have hnum' : rdNum (N ++ (C ++ (S ++ x)) ++ r) = (x.length, N.length, 0) := by rw [List.append_assoc]; exact hnum
  rw [hnum']
  simp only [e1, e2, e3, e4, hc, hse]
  rw [if_neg (by simp), if_neg (by omega), if_neg (by simp [hlen, hS]; omega), if_neg (by simp)]
  congr 2
  simp [hlen, hS]
  omega

theorem rdRec_back {l : List UInt8} (h : (rdRec l).2.2.2 = 0) :
    (rdRec l).2.1.length ≤ 16777216 ∧ (rdRec l).1 < 18446744073709551616 ∧ (rdRec l).2.2.1 ≤ l.length ∧
    (numB (rdRec l).2.1.length ++ (lowB (crcB (lowB (rdRec l).1 8 ++ (rdRec l).2.1)) 4 ++ (lowB (rdRec l).1 8 ++ (rdRec l).2.1))) = l.take (rdRec l).2.2.1 := by
  unfold rdRec at h ⊢
  by_cases h1 : (rdNum l).2.2 ≠ 0
  · rw [if_pos h1] at h; exact absurd h h1
  rw [if_neg h1] at h ⊢
  have h1' : (rdNum l).2.2 = 0 := by simpa using h1
  have hb := rdNum_back h1'
  have hk := rdNum_ok h1'
  generalize (rdNum l).1 = n at *
  generalize (rdNum l).2.1 = p at *
  by_cases h2 : 16777216 < n
  · rw [if_pos h2] at h; simp at h
  rw [if_neg h2] at h ⊢
  by_cases h3 : l.length < p + n + 12
  · rw [if_pos h3] at h; simp at h
  rw [if_neg h3] at h ⊢
  by_cases h4 : leN (cutB l p 4) ≠ crcB (cutB l (p + 4) (8 + n))
  · rw [if_pos h4] at h; simp at h
  rw [if_neg h4]
  have h4' : leN (cutB l p 4) = crcB (cutB l (p + 4) (8 + n)) := by simpa using h4
  have l1 := cutB_length l p 4 (by omega)
  have l2 := cutB_length l (p + 4) 8 (by omega)
  have l3 := cutB_length l (p + 12) n (by omega)
  have e8 : lowB (leN (cutB l (p + 4) 8)) 8 = cutB l (p + 4) 8 := by
    have := lowB_leN (cutB l (p + 4) 8)
    rwa [l2] at this
  have ej : cutB l (p + 4) 8 ++ cutB l (p + 12) n = cutB l (p + 4) (8 + n) := by
    have := cutB_join l (p + 4) 8 n
    rwa [show p + 4 + 8 = p + 12 by omega] at this
  have e4 : lowB (leN (cutB l p 4)) 4 = cutB l p 4 := by
    have := lowB_leN (cutB l p 4)
    rwa [l1] at this
  refine ⟨by simp only [l3]; omega, ?_, by simp only; omega, ?_⟩
  · have := leN_lt (cutB l (p + 4) 8)
    rw [l2] at this
    exact this
  · simp only [l3, e8, ej, ← h4', e4, hb]
    rw [cutB_join, ← cutB_zero, show cutB l p (4 + (8 + n)) = cutB l (0 + p) (4 + (8 + n)) by rw [Nat.zero_add], cutB_join, cutB_zero]
    congr 1
    omega

theorem any_replicate (k : Nat) : (List.replicate k (0 : UInt8)).any (· != 0) = false := by
  induction k with
  | zero => rfl
  | succ k ih => simp [List.replicate_succ]
theorem zeros_of_any : ∀ l : List UInt8, l.any (· != 0) = false → l = List.replicate l.length 0
  | [], _ => rfl
  | b :: l, h => by
    simp only [List.any_cons, Bool.or_eq_false_iff, bne_eq_false_iff_eq] at h
    rw [List.length_cons, List.replicate_succ, ← zeros_of_any l h.2, h.1]

theorem rdPage_pageB (seg row sh : Nat) (x : List UInt8) (n : Nat) (room : Int) (hn : 19 + x.length ≤ n) (hr0 : room ≠ 0) (hr : (x.length : Int) ≤ room) (hx : x.length < 65536) (hs : seg < 18446744073709551616) (hrow : row ≤ 1073741824) (hsh : sh < 256) :
    rdPage room (pageB seg row sh x n) = ((seg, row, sh, x.length), x, 0) := by
  unfold pageB
  have hT : pageT seg row sh x n = lowB seg 8 ++ (lowB row 4 ++ (lowB sh 1 ++ (lowB x.length 2 ++ (x ++ List.replicate (n - 19 - x.length) 0)))) := by simp [pageT]
  have hc : leN (lowB (crcB (pageT seg row sh x n)) 4) = crcB (pageT seg row sh x n) := leN_lowB 4 _ (crcB_lt _)
  have hlen : (lowB (crcB (pageT seg row sh x n)) 4).length = 4 := lowB_length _ _
  generalize hCC : lowB (crcB (pageT seg row sh x n)) 4 = C at *
  have a1 : (lowB seg 8).length = 8 := lowB_length _ _
  have a2 : (lowB row 4).length = 4 := lowB_length _ _
  have a3 : (lowB sh 1).length = 1 := lowB_length _ _
  have a4 : (lowB x.length 2).length = 2 := lowB_length _ _
  have b1 : leN (lowB seg 8) = seg := leN_lowB 8 _ (by omega)
  have b2 : leN (lowB row 4) = row := leN_lowB 4 _ (by omega)
  have b4 : leN (lowB x.length 2) = x.length := leN_lowB 2 _ (by omega)
  have b3 : lowB sh 1 = [UInt8.ofNat sh] := by simp [lowB]
  have c3 : (UInt8.ofNat sh).toNat = sh := ofNat_toNat hsh
  generalize lowB seg 8 = S at *
  generalize lowB row 4 = R at *
  generalize lowB sh 1 = H at *
  generalize lowB x.length 2 = Z at *
  have t1 : (C ++ pageT seg row sh x n).take 4 = C := by rw [List.take_append_of_le_length (by omega), List.take_of_length_le (by omega)]
  have t2 : (C ++ pageT seg row sh x n).drop 4 = pageT seg row sh x n := by rw [List.drop_append_of_le_length (by omega), List.drop_of_length_le (by omega)]; rfl
  have t3 : cutB (C ++ pageT seg row sh x n) 12 4 = R := by
    rw [hT, ← List.append_assoc]
    exact cutB_mid _ _ _ _ _ (by simp [hlen, a1]) a2
  have t4 : cutB (C ++ pageT seg row sh x n) 17 2 = Z := by
    rw [hT, ← List.append_assoc, ← List.append_assoc, ← List.append_assoc]
    exact cutB_mid _ _ _ _ _ (by simp [hlen, a1, a2, a3]) a4
  have t5 : cutB (C ++ pageT seg row sh x n) 4 8 = S := by
    rw [hT]
    exact cutB_mid _ _ _ _ _ hlen a1
  have t6 : cutB (C ++ pageT seg row sh x n) 19 x.length = x := by
    rw [hT, ← List.append_assoc, ← List.append_assoc, ← List.append_assoc, ← List.append_assoc]
    exact cutB_mid _ _ _ _ _ (by simp [hlen, a1, a2, a3, a4]) rfl
  have t7 : (C ++ pageT seg row sh x n).drop (19 + x.length) = List.replicate (n - 19 - x.length) 0 := by
    rw [hT, ← List.append_assoc, ← List.append_assoc, ← List.append_assoc, ← List.append_assoc, ← List.append_assoc]
    exact List.drop_left' (by simp [hlen, a1, a2, a3, a4]; omega)
  have t8 : (C ++ pageT seg row sh x n).getD 16 0 = UInt8.ofNat sh := by
    rw [hT, ← List.append_assoc, ← List.append_assoc, b3, List.getD_eq_getElem?_getD, List.getElem?_append_right (by simp [hlen, a1, a2])]
    simp [hlen, a1, a2]
  unfold rdPage
  simp only [t1, t2, t3, t4, t5, t7, t8, b1, b2, b4, t6, hc, c3, any_replicate]
  rw [if_neg hr0, if_neg (by simp), if_neg (by omega), if_neg (by simp)]

theorem rdPage_back {room : Int} {l : List UInt8} (hroom : room = (l.length : Int) - 19) (hl : 19 ≤ l.length) (h : (rdPage room l).2.2 = 0) :
    (rdPage room l).1.1 < 18446744073709551616 ∧ (rdPage room l).1.2.1 ≤ 1073741824 ∧ (rdPage room l).1.2.2.1 < 256 ∧ ((rdPage room l).2.1.length : Int) ≤ room ∧ (rdPage room l).2.1.length < 65536 ∧ room ≠ 0 ∧
    pageB (rdPage room l).1.1 (rdPage room l).1.2.1 (rdPage room l).1.2.2.1 (rdPage room l).2.1 l.length = l := by
  unfold rdPage at h ⊢
  by_cases h0 : room = 0
  · rw [if_pos h0] at h; simp at h
  rw [if_neg h0] at h ⊢
  by_cases h1 : leN (l.take 4) ≠ crcB (l.drop 4)
  · rw [if_pos h1] at h; simp at h
  rw [if_neg h1] at h ⊢
  by_cases h2 : 1073741824 < leN (cutB l 12 4) ∨ room < (leN (cutB l 17 2) : Int)
  · rw [if_pos h2] at h; simp at h
  rw [if_neg h2] at h ⊢
  by_cases h3 : (l.drop (19 + leN (cutB l 17 2))).any (· != 0) = true
  · rw [if_pos h3] at h; simp at h
  rw [if_neg h3]
  have h1' : leN (l.take 4) = crcB (l.drop 4) := by simpa using h1
  have h3' := zeros_of_any _ (by simpa using h3)
  have l1 := cutB_length l 4 8 (by omega)
  have l2 := cutB_length l 12 4 (by omega)
  have l3 := cutB_length l 17 2 (by omega)
  have l4 : (cutB l 19 (leN (cutB l 17 2))).length = leN (cutB l 17 2) := cutB_length _ _ _ (by omega)
  have w1 := leN_lt (cutB l 4 8)
  have w3 := leN_lt (cutB l 17 2)
  rw [l1] at w1
  rw [l3] at w3
  have e1 := lowB_leN (cutB l 4 8)
  have e2 := lowB_leN (cutB l 12 4)
  have e3 := lowB_leN (cutB l 17 2)
  rw [l1] at e1
  rw [l2] at e2
  rw [l3] at e3
  have e16 : lowB (l.getD 16 0).toNat 1 = cutB l 16 1 := by
    have hg : l.getD 16 0 = l[16]'(by omega) := by rw [List.getD_eq_getElem?_getD, List.getElem?_eq_getElem (by omega)]; rfl
    rw [hg]
    unfold cutB
    have hd : List.drop 16 l = l[16]'(by omega) :: List.drop 17 l := List.drop_eq_getElem_cons (by omega)
    rw [hd]
    show lowB (l[16]'(by omega)).toNat 1 = [l[16]'(by omega)]
    simp [lowB]
  have e4 : lowB (leN (l.take 4)) 4 = l.take 4 := by
    have := lowB_leN (l.take 4)
    rwa [show (l.take 4).length = 4 by simp; omega] at this
  have hT : pageT (leN (cutB l 4 8)) (leN (cutB l 12 4)) (l.getD 16 0).toNat (cutB l 19 (leN (cutB l 17 2))) l.length = l.drop 4 := by
    unfold pageT
    rw [l4, e1, e2, e16, e3]
    have hz : List.replicate (l.length - 19 - leN (cutB l 17 2)) (0 : UInt8) = l.drop (19 + leN (cutB l 17 2)) := by
      rw [h3']
      congr 1
      simp
      omega
    rw [hz]
    have j1 := cutB_join l 4 8 4
    have j2 := cutB_join l 4 12 1
    have j3 := cutB_join l 4 13 2
    have j4 := cutB_join l 4 15 (leN (cutB l 17 2))
    simp only [Nat.reduceAdd] at j1 j2 j3 j4
    rw [j1, j2, j3, j4]
    unfold cutB
    rw [show l.drop (19 + leN ((l.drop 17).take 2)) = (l.drop 4).drop (15 + leN ((l.drop 17).take 2)) by rw [List.drop_drop]; congr 1; omega, List.take_append_drop]
  refine ⟨w1, by simp only; omega, (l.getD 16 0).toNat_lt, ?_, by simp only [l4]; omega, h0, ?_⟩
  · simp only [l4]; omega
  · unfold pageB
    rw [hT, ← h1', e4, List.take_append_drop]
end Go.Proofs.Ytppfjdohajomoaa
