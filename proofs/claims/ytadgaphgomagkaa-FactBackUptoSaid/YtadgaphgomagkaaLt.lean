/- Plain: a table that is built is opened, with just its facts. -/
import Derived.Test.YtadgaphgomagkaaLr
import Derived.Test.YtadgaphgomagkaaPc
namespace Go.Proofs.Ytadgaphgomagkaa
open Go.RowKit
set_option maxHeartbeats 2000000
set_option maxRecDepth 100000

theorem take_left (a b : List UInt8) (n : Nat) (h : a.length = n) : (a ++ b).take n = a := by subst h; simp
theorem drop_left (a b : List UInt8) (n : Nat) (h : a.length = n) : (a ++ b).drop n = b := by subst h; simp
theorem rdBytes_lenB (most : Nat) (x r : List UInt8) (h : x.length ≤ most) (h64 : x.length < 18446744073709551616) : rdBytes (most : Int) (lenB x ++ r) = (x, (lenB x).length, 0) := by
  have hn := rdNum_numB x.length h64 (x ++ r)
  unfold rdBytes lenB
  rw [List.append_assoc, hn]
  simp only [ne_eq, not_true_eq_false, if_false]
  rw [if_neg (by omega), if_neg (by simp only [List.length_append]; omega), drop_left _ _ _ rfl, take_left _ _ _ rfl, List.length_append]
/-- a fact that fits in -/
def FM.fits (f : FM) : Prop := f.k.size ≤ 1024 ∧ f.l.length ≤ 1048576 ∧ f.s < 18446744073709551616
theorem fac1_enc (f : FM) (r : List UInt8) (h : f.fits) : fac1 (encF f ++ r) = (f.fv, r, false) := by
  obtain ⟨h1, h2, h3⟩ := h
  have e : encF f ++ r = lenB (strB f.k) ++ (numB f.s ++ (lenB f.l ++ r)) := by simp [encF]
  have b1 := rdBytes_lenB 1024 (strB f.k) (numB f.s ++ (lenB f.l ++ r)) (by rw [strB_length]; exact h1) (by rw [strB_length]; omega)
  have b2 := rdNum_numB f.s h3 (lenB f.l ++ r)
  have b3 := rdBytes_lenB 1048576 f.l r h2 (by omega)
  rw [show ((1024 : Nat) : Int) = 1024 from rfl] at b1
  rw [show ((1048576 : Nat) : Int) = 1048576 from rfl] at b3
  unfold fac1
  rw [e, b1]
  simp only
  rw [drop_left _ _ _ rfl, b2]
  simp only
  rw [drop_left _ _ _ rfl, b3]
  simp only
  rw [drop_left _ _ _ rfl]
  rfl
/-- facts' bytes -/
def encL (l : List FM) : List UInt8 := l.flatMap encF
theorem facN_enc : ∀ (l : List FM) (n : Nat), (encL l).length ≤ n → (∀ f ∈ l, f.fits) → facN n (encL l) = (l.map FM.fv, false)
  | [], n, _, _ => by cases n <;> simp [facN, encL]
  | f :: r, n, hn, h => by
    have e : encL (f :: r) = encF f ++ encL r := rfl
    have hp := encF_pos f
    rw [e, List.length_append] at hn
    obtain ⟨n, rfl⟩ : ∃ m, n = m + 1 := ⟨n - 1, by omega⟩
    have hne : ¬ encF f ++ encL r = [] := by
      intro h0
      have := congrArg List.length h0
      rw [List.length_append, List.length_nil] at this
      omega
    have ih := facN_enc r n (by omega) fun g hg => h g (by simp [hg])
    rw [e, facN, if_neg hne, fac1_enc f _ (h f (by simp))]
    simp only [Bool.false_eq_true, if_false, ih, List.map_cons]
theorem facP_enc (l : List FM) (h : ∀ f ∈ l, f.fits) : facP (encL l) = (l.map FM.fv, false) := facN_enc l _ (Nat.le_refl _) h
theorem leN_lowB : ∀ (n v : Nat), v < 256 ^ n → leN (lowB v n) = v
  | 0, v, h => by simp at h; subst h; rfl
  | n + 1, v, h => by
    have e : lowB v (n + 1) = UInt8.ofNat v :: lowB (v / 256) n := by
      unfold lowB
      rw [List.range_succ_eq_map, List.map_cons, List.map_map]
      congr 1
      · simp
      · apply List.map_congr_left
        intro k _
        simp only [Function.comp]
        rw [Nat.pow_succ, Nat.mul_comm, Nat.div_div_eq_div_mul]
    have ih := leN_lowB n (v / 256) (by rw [Nat.pow_succ] at h; exact Nat.div_lt_of_lt_mul (by omega))
    rw [e, leN, ih]
    have : (UInt8.ofNat v).toNat = v % 256 := by rw [UInt8.toNat_ofNat']
    rw [this]
    omega
theorem fits_sumB (x : List UInt8) : fitsB (sumB x) = true := by
  have h4 : (lowB (crcB x) 4).length = 4 := lowB_length _ _
  have hl := leN_lowB 4 (crcB x) (crcB_lt x)
  have e1 : (sumB x).take 4 = lowB (crcB x) 4 := take_left _ _ 4 h4
  have e2 : (sumB x).drop 4 = x := drop_left _ _ 4 h4
  have e3 : 4 ≤ (sumB x).length := by rw [sumB_length]; omega
  unfold fitsB
  rw [e1, e2, hl, decide_eq_true e3]
  simp
theorem par1_enc (k : List UInt8) (n : Nat) (r : List UInt8) (hk : k.length ≤ 1024) (hn : n < 18446744073709551616) : par1 (lenB k ++ numB n ++ r) = ((k, n), r, false) := by
  have b1 := rdBytes_lenB 1024 k (numB n ++ r) hk (by omega)
  have b2 := rdNum_numB n hn r
  rw [show ((1024 : Nat) : Int) = 1024 from rfl] at b1
  unfold par1
  rw [List.append_assoc, b1]
  simp only
  rw [drop_left _ _ _ rfl, b2]
  simp only
  rw [drop_left _ _ _ rfl]
  rfl
/-- blocks of facts -/
def grp (block : Nat) : List FM → List FM → List (List FM)
  | [], _ => []
  | f :: r, cur => if block ≤ (encL (cur ++ [f])).length ∨ r = [] then (cur ++ [f]) :: grp block r [] else grp block r (cur ++ [f])
def hdK (g : List FM) : List UInt8 := match g with | f :: _ => strB f.k | [] => []
def blkB (g : List FM) : List UInt8 := sumB (encL g)
def ixB (g : List FM) : List UInt8 := lenB (hdK g) ++ numB ((encL g).length + 4)
theorem encL_append (a b : List FM) : encL (a ++ b) = encL a ++ encL b := by simp [encL]
theorem encL_nil {l : List FM} : encL l = [] ↔ l = [] := by
  constructor
  · intro h
    cases l with
    | nil => rfl
    | cons f r =>
      have := encF_pos f
      have h2 := congrArg List.length h
      simp only [encL, List.flatMap_cons, List.length_append, List.length_nil] at h2
      omega
  · intro h; subst h; rfl
theorem bld_grp (block : Nat) : ∀ (l cur : List FM) (fst : ByteArray) (out ix : List UInt8), (cur ≠ [] → hdK cur = strB fst) →
    bld block l (encL cur) fst out ix = (out ++ (grp block l cur).flatMap blkB, ix ++ (grp block l cur).flatMap ixB)
  | [], cur, fst, out, ix, _ => by simp [bld, grp]
  | f :: r, cur, fst, out, ix, h => by
    have e : encL cur ++ encF f = encL (cur ++ [f]) := by simp [encL]
    have hk : strB (if encL cur = [] then f.k else fst) = hdK (cur ++ [f]) := by
      by_cases hc : cur = []
      · subst hc
        rw [if_pos (encL_nil.2 rfl)]
        rfl
      · rw [if_neg fun h0 => hc (encL_nil.1 h0), ← h hc]
        cases cur with
        | nil => exact absurd rfl hc
        | cons a b => rfl
    unfold bld grp
    rw [e]
    split
    · have ih := bld_grp block r [] (if encL cur = [] then f.k else fst) (out ++ sumB (encL (cur ++ [f]))) (ix ++ (lenB (strB (if encL cur = [] then f.k else fst)) ++ numB ((encL (cur ++ [f])).length + 4))) (fun h => absurd rfl h)
      rw [show encL [] = [] from rfl] at ih
      rw [ih, hk]
      simp [blkB, ixB]
    · exact bld_grp block r (cur ++ [f]) _ out ix fun _ => hk.symm
theorem grp_flat (block : Nat) : ∀ (l cur : List FM), l ≠ [] → (grp block l cur).flatten = cur ++ l
  | [], _, h => absurd rfl h
  | f :: r, cur, _ => by
    unfold grp
    split
    · rename_i h1
      by_cases hr : r = []
      · subst hr; simp [grp]
      · have ih := grp_flat block r [] hr
        simp [ih]
    · rename_i h1
      have ih := grp_flat block r (cur ++ [f]) (fun h => h1 (.inr h))
      rw [ih]
      simp
theorem grp_ne (block : Nat) : ∀ (l cur : List FM), ∀ g ∈ grp block l cur, g ≠ []
  | [], _, g, h => by simp [grp] at h
  | f :: r, cur, g, h => by
    unfold grp at h
    split at h
    · rcases List.mem_cons.1 h with rfl | h2
      · simp
      · exact grp_ne block r [] g h2
    · exact grp_ne block r _ g h
theorem parN_enc : ∀ (gs : List (List FM)) (n : Nat), (gs.flatMap ixB).length ≤ n → (∀ g ∈ gs, g ≠ [] ∧ ∀ f ∈ g, f.fits) → (∀ g ∈ gs, (encL g).length < 4294967296) →
    parN n (gs.flatMap ixB) (gs.flatMap blkB) = some (gs.map fun g => (hdK g, blkB g))
  | [], n, _, _, _ => by cases n <;> simp [parN]
  | g :: r, n, hn, h, hs => by
    obtain ⟨hg, hf⟩ := h g (by simp)
    have hk : (hdK g).length ≤ 1024 := by
      cases g with
      | nil => exact absurd rfl hg
      | cons a b => exact (hf a (by simp)).1
    have hl := hs g (by simp)
    have e1 : (g :: r).flatMap ixB = lenB (hdK g) ++ numB ((encL g).length + 4) ++ r.flatMap ixB := rfl
    have e2 : (g :: r).flatMap blkB = blkB g ++ r.flatMap blkB := rfl
    have hb : (blkB g).length = (encL g).length + 4 := sumB_length _
    have hp : 1 ≤ (numB ((encL g).length + 4)).length := (numF_length 9 _).2
    rw [e1] at hn
    simp only [List.length_append] at hn
    obtain ⟨n, rfl⟩ : ∃ m, n = m + 1 := ⟨n - 1, by omega⟩
    have hne : ¬ lenB (hdK g) ++ numB ((encL g).length + 4) ++ r.flatMap ixB = [] := by
      intro h0
      have := congrArg List.length h0
      simp only [List.length_append, List.length_nil] at this
      omega
    have ih := parN_enc r n (by omega) (fun q hq => h q (by simp [hq])) fun q hq => hs q (by simp [hq])
    rw [e1, e2, parN, if_neg hne, par1_enc _ _ _ hk (by omega)]
    simp only [Bool.false_eq_true, false_or]
    rw [if_neg (by simp only [List.length_append]; omega), drop_left _ _ _ hb, take_left _ _ _ hb, ih]
    rfl
theorem blkP_enc : ∀ (gs : List (List FM)) (acc : List FV), (∀ g ∈ gs, g ≠ [] ∧ ∀ f ∈ g, f.fits) → blkP (gs.map fun g => (hdK g, blkB g)) acc = (0, acc ++ gs.flatten.map FM.fv)
  | [], acc, _ => by simp [blkP]
  | g :: r, acc, h => by
    obtain ⟨hg, hf⟩ := h g (by simp)
    have hd : (blkB g).drop 4 = encL g := drop_left _ _ 4 (lowB_length _ _)
    have hfp := facP_enc g hf
    have ih := blkP_enc r (acc ++ g.map FM.fv) fun q hq => h q (by simp [hq])
    rw [List.map_cons, blkP]
    simp only
    rw [if_neg (by rw [show fitsB (blkB g) = true from fits_sumB _]; decide), hd, hfp]
    simp only
    rw [if_neg, ih]
    · simp
    · simp only [Bool.false_eq_true, false_or, ne_eq, Decidable.not_not]
      cases g with
      | nil => exact absurd rfl hg
      | cons a b => rfl
theorem blk_len {gs : List (List FM)} {g : List FM} (hg : g ∈ gs) : (blkB g).length ≤ (gs.flatMap blkB).length := by
  induction gs with
  | nil => simp at hg
  | cons a r ih =>
    simp only [List.flatMap_cons, List.length_append]
    rcases List.mem_cons.1 hg with rfl | h
    · omega
    · have := ih h; omega
/-- what is built is opened -/
theorem open_tab (l : List FM) (block : Nat) (hf : ∀ f ∈ l, f.fits) (hr : rightF l = true) (hl : l.length < 4294967296) (hs : (tabB l block).length < 4294967296) : openP (tabB l block) = (0, l.map FM.fv) := by
  have hb := bld_grp block l [] ⟨#[]⟩ [] [] (fun h => absurd rfl h)
  rw [show encL [] = [] from rfl] at hb
  generalize hgs : grp block l [] = gs at *
  have hgne : ∀ g ∈ gs, g ≠ [] := by rw [← hgs]; exact grp_ne block l []
  have hflat : gs.flatten = l := by
    by_cases h0 : l = []
    · subst h0; rw [← hgs]; simp [grp]
    · rw [← hgs, grp_flat block l [] h0]; rfl
  have hgf : ∀ g ∈ gs, g ≠ [] ∧ ∀ f ∈ g, f.fits := fun g hg => ⟨hgne g hg, fun f h => hf f (by rw [← hflat]; exact List.mem_flatten.2 ⟨g, hg, h⟩)⟩
  have ht : tabB l block = gs.flatMap blkB ++ (sumB (gs.flatMap ixB) ++ footB (sumB (gs.flatMap ixB)).length l.length) := by
    rw [tabB, hb]
    simp only [List.nil_append]
  have hgl : ∀ g ∈ gs, (encL g).length < 4294967296 := by
    intro g hg
    have h1 : (blkB g).length ≤ (gs.flatMap blkB).length := blk_len hg
    have h2 : (blkB g).length = (encL g).length + 4 := sumB_length _
    rw [ht] at hs
    simp only [List.length_append] at hs
    omega
  have hX := sumB_length (gs.flatMap ixB)
  have hfit := fits_sumB (gs.flatMap ixB)
  have hdx : (sumB (gs.flatMap ixB)).drop 4 = gs.flatMap ixB := drop_left _ _ 4 (lowB_length _ _)
  have hpar := parN_enc gs _ (Nat.le_refl _) hgf hgl
  generalize hO : gs.flatMap blkB = O at *
  generalize hI : gs.flatMap ixB = I at *
  generalize sumB I = X at *
  rw [ht] at hs ⊢
  have hfl : (footB X.length l.length).length = 12 := by simp [footB, lowB_length]
  have hlen : (O ++ (X ++ footB X.length l.length)).length = (O.length + X.length) + 12 := by simp only [List.length_append, hfl]; omega
  have hft : ftB (O ++ (X ++ footB X.length l.length)) = footB X.length l.length := by
    rw [ftB, hlen, Nat.add_sub_cancel, ← List.append_assoc]
    exact drop_left _ _ _ (by rw [List.length_append])
  have e8 : (footB X.length l.length).take 8 = lowB X.length 4 ++ lowB l.length 4 := take_left _ _ 8 (by rw [List.length_append, lowB_length, lowB_length])
  have ed8 : (footB X.length l.length).drop 8 = lowB (crcB (lowB X.length 4 ++ lowB l.length 4)) 4 := drop_left _ _ 8 (by rw [List.length_append, lowB_length, lowB_length])
  have e4 : (footB X.length l.length).take 4 = lowB X.length 4 := by
    rw [footB, List.append_assoc]
    exact take_left _ _ 4 (lowB_length _ _)
  have ed4 : (footB X.length l.length).drop 4 = lowB l.length 4 ++ lowB (crcB (lowB X.length 4 ++ lowB l.length 4)) 4 := by
    rw [footB, List.append_assoc]
    exact drop_left _ _ 4 (lowB_length _ _)
  have hN : ftN (O ++ (X ++ footB X.length l.length)) = X.length := by
    rw [ftN, hft, e4]
    exact leN_lowB 4 _ (by simp only [List.length_append] at hs; show X.length < 4294967296; omega)
  have hC : ftC (O ++ (X ++ footB X.length l.length)) = l.length := by
    rw [ftC, hft, ed4, take_left _ _ 4 (lowB_length _ _)]
    exact leN_lowB 4 _ hl
  unfold openP
  rw [if_neg (by omega), hft, e8, ed8, if_neg, hN, hlen, if_neg (by omega)]
  · rw [show O.length + X.length + 12 - 12 - X.length = O.length by omega, drop_left _ _ _ rfl, take_left X _ _ rfl, if_neg (by rw [hfit]; decide), take_left O _ _ rfl]
    have e1 : ((O ++ (X ++ footB X.length l.length)).drop (O.length + 4)).take (X.length - 4) = I := by
      rw [← List.drop_drop, drop_left _ _ _ rfl, List.drop_append_of_le_length (by omega), hdx]
      exact take_left _ _ _ (by omega)
    rw [e1, parP, hpar]
    simp only
    rw [blkP_enc gs [] hgf, hflat, hC, endP]
    simp only [ne_eq, not_true_eq_false, if_false, List.nil_append, List.length_map]
    rw [rightF_fv, hr]
    simp
  · rw [List.take_of_length_le (by rw [lowB_length]; exact Nat.le_refl _)]
    exact fun h => h (leN_lowB 4 _ (crcB_lt _))
theorem open_build (l : List FM) (block : Int) (hok : ∀ f ∈ l, f.s < 18446744073709551616) (hl : l.length < 4294967296) (hs : (buildR l block).1.length < 4294967296) (h : (buildR l block).2 = 0) : openP (buildR l block).1 = (0, l.map FM.fv) := by
  unfold buildR at h hs ⊢
  split
  · rename_i h1; rw [if_pos h1] at h; cases h
  · rename_i h1
    rw [if_neg h1] at h hs
    split
    · rename_i h2; rw [if_pos h2] at h; cases h
    · rename_i h2
      rw [if_neg h2] at h hs
      split
      · rename_i h3; rw [if_pos h3] at h; cases h
      · rename_i h3
        rw [if_neg h3] at hs
        refine open_tab l block.toNat (fun f hf => ?_) (by simpa using h2) hl hs
        have h0 : ¬ longF f = true := fun h => h3 (List.any_eq_true.2 ⟨f, hf, h⟩)
        simp only [longF, Bool.or_eq_true, decide_eq_true_eq, not_or] at h0
        exact ⟨by omega, by omega, hok f hf⟩
end Go.Proofs.Ytadgaphgomagkaa
