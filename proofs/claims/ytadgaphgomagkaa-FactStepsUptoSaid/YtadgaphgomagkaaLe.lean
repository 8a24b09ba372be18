/- A table's bytes are opened. -/
import Derived.Test.YtadgaphgomagkaaLc
import Derived.Lib.Strings
namespace Go.Proofs.Ytadgaphgomagkaa
open Go.RowKit
set_option maxHeartbeats 8000000
set_option maxRecDepth 100000

def FV.fm (v : FV) : FM := ⟨⟨v.k.toArray⟩, v.s, none, 0, v.v⟩
def rightV (L : List FV) : Bool := rightF (L.map FV.fm)
theorem cmpF_fm (a b : FM) : cmpF a.fv.fm b.fv.fm = cmpF a b := rfl
theorem rightF_fv (L : List FM) : rightV (L.map FM.fv) = rightF L := by
  unfold rightV
  induction L with
  | nil => rfl
  | cons a L ih =>
    cases L with
    | nil => rfl
    | cons b r =>
      simp only [List.map_cons, rightF] at ih ⊢
      rw [ih, cmpF_fm]
/-- blocks are taken to be facts -/
def blkP : List (List UInt8 × List UInt8) → List FV → Nat × List FV
  | [], acc => (0, acc)
  | p :: r, acc => if fitsB p.2 = false then (23, []) else if (facP (p.2.drop 4)).2 = true ∨ (facP (p.2.drop 4)).1.head?.map FV.k ≠ some p.1 then (24, []) else blkP r (acc ++ (facP (p.2.drop 4)).1)
def ftB (b : List UInt8) : List UInt8 := b.drop (b.length - 12)
def ftN (b : List UInt8) : Nat := leN ((ftB b).take 4)
def ftC (b : List UInt8) : Nat := leN (((ftB b).drop 4).take 4)
def endP (r : Nat × List FV) (count : Nat) : Nat × List FV := if r.1 ≠ 0 then (r.1, []) else if rightV r.2 = false ∨ r.2.length ≠ count then (24, []) else r
def openP (b : List UInt8) : Nat × List FV :=
  if b.length < 12 then (21, [])
  else if leN (((ftB b).drop 8).take 4) ≠ crcB ((ftB b).take 8) then (23, [])
  else if b.length - 12 < ftN b then (21, [])
  else if fitsB ((b.drop (b.length - 12 - ftN b)).take (ftN b)) = false then (23, [])
  else match parP ((b.drop (b.length - 12 - ftN b + 4)).take (ftN b - 4)) (b.take (b.length - 12 - ftN b)) with
    | none => (24, [])
    | some ps => endP (blkP ps []) (ftC b)
theorem facN_length : ∀ (n : Nat) (l : List UInt8), (facN n l).1.length ≤ l.length
  | 0, l => by simp [facN]
  | n + 1, l => by
    unfold facN
    split
    · simp
    · rename_i h
      have hp := List.length_pos_iff.2 h
      split
      · simp only [List.length_singleton]; omega
      · rename_i h2
        have h3 := fac1_less l (by simpa using h2)
        have h4 := facN_length n (fac1 l).2.1
        simp only [List.length_cons]
        omega
def sumL (X : List (List UInt8 × List UInt8)) : Nat := (X.map fun p => p.2.length).sum
theorem parN_sum : ∀ (n : Nat) (ix b : List UInt8) (X : List (List UInt8 × List UInt8)), parN n ix b = some X → sumL X = b.length
  | 0, ix, b, X, h => by
    unfold parN at h
    split at h
    · rename_i h0
      injection h with h
      subst h0 h
      rfl
    · cases h
  | n + 1, ix, b, X, h => by
    unfold parN at h
    split at h
    · split at h
      · rename_i h0
        injection h with h
        subst h0 h
        rfl
      · cases h
    · split at h
      · cases h
      · rename_i h1 h2
        obtain ⟨Y, hY, rfl⟩ := Option.map_eq_some_iff.1 h
        have := parN_sum n _ _ Y hY
        simp only [not_or, Nat.not_lt] at h2
        simp only [sumL, List.map_cons, List.sum_cons, List.length_take, List.length_drop] at this ⊢
        omega
theorem pcells_length (l : List PM) : (pcells l).length = l.length * 2 := by
  induction l with
  | nil => rfl
  | cons p L ih => simp [pcells, PM.cells] at ih ⊢; omega
theorem pcells_get (l : List PM) (i j : Nat) (h : i < l.length) (hj : j < 2) : (pcells l)[i * 2 + j]? = (l[i].cells)[j]? := by
  induction l generalizing i with
  | nil => simp at h
  | cons p L ih =>
    have e : pcells (p :: L) = p.cells ++ pcells L := rfl
    have hp : p.cells.length = 2 := rfl
    cases i with
    | zero =>
      rw [e, List.getElem?_append_left (by omega)]
      simp
    | succ i =>
      rw [e, List.getElem?_append_right (by omega), hp, show (i + 1) * 2 + j - 2 = i * 2 + j by omega]
      simpa using ih i (by simpa using h)
theorem parts_at {w : World} {A : Option Addr} {l : List PM} (hr : Rd w A (pcells l)) (i : Nat) (h : i < l.length) : ∃ ad, A = some ad ∧ w.cell? (ad.add (i * 2)) = some (.string l[i].k) ∧ w.cell? ⟨(ad.add (i * 2)).block, (ad.add (i * 2)).off + 1, none⟩ = some (.slice l[i].A l[i].l.length l[i].l.length) := by
  have hl := pcells_length l
  obtain ⟨ad, e, _, hc⟩ := hr (by intro h0; rw [h0] at hl; simp at hl; omega)
  have g := fun j u hj hu => hc (i * 2 + j) u (by rw [pcells_get l i j h hj]; exact hu)
  refine ⟨ad, e, g 0 _ (by omega) rfl, ?_⟩
  rw [← add_off _ _ _ (by omega)]
  exact g 1 _ (by omega) rfl
def OpenPost (w : World) (R : Nat × List FV) (e : Ending) (w' : World) : Prop :=
  Below w.heap.size w w' ∧ (R.1 ≠ 0 ∧ e = .returned (.tuple #[.pointer none, .int .i64 (R.1 : Nat)]) ∨ R.1 = 0 ∧ ∃ g A c L, e = .returned (.tuple #[.pointer (some ⟨g, 0, none⟩), .int .i64 0]) ∧ L.map FM.fv = R.2 ∧ Blk w' g 129 #[.slice A L.length c] ∧ w.heap.size ≤ g ∧ Facts w' (g + 1) A c L)
theorem OpenPost.bad {w w' : World} {R : Nat × List FV} (n : Nat) (hn : n ≠ 0) (hR : R.1 = n) (hb : Below w.heap.size w w') : OpenPost w R (.returned (.tuple #[.pointer none, .int .i64 (n : Nat)])) w' :=
  ⟨hb, .inl ⟨by rw [hR]; exact hn, by rw [hR]⟩⟩
def PartsP (R : Option (List (List UInt8 × List UInt8))) (w : World) (x : Value) (ok : Bool) (w' : World) : Prop :=
  Below w.heap.size w w' ∧ match R with
  | none => ok = false
  | some X => ok = true ∧ ∃ A' c' L, x = .slice A' L.length c' ∧ L.map PM.pv = X ∧ w'.ownsRow w.heap.size 131 2 (.slice A' L.length c') L.length (pcells L) ∧ ∀ f ∈ L, Rd w' f.A (byts f.l) ∧ ∀ ad, f.A = some ad → ad.block < w.heap.size
theorem PartsPost.of {w : World} {R : Option (List (List UInt8 × List UInt8))} {e : Ending} {w' : World} (h : PartsPost w R e w') : ∃ x ok, e = .returned (.tuple #[x, .bool ok]) ∧ PartsP R w x ok w' := by
  obtain ⟨hb, h⟩ := h
  cases R with
  | none =>
    obtain ⟨x, rfl⟩ := h
    exact ⟨x, false, rfl, hb, rfl⟩
  | some X =>
    obtain ⟨A', c', L, rfl, h2⟩ := h
    exact ⟨_, true, rfl, hb, rfl, A', c', L, rfl, h2⟩
theorem Facts.drewN {w : World} {B : Nat} {A : Option Addr} {c : Nat} {L : List FM} (h : Facts w B A c L) (n : Nat) : Facts (w.drewN n) B A c L := ⟨h.own, fun f hf => ⟨(h.ok f hf).rd, (h.ok f hf).cap, (h.ok f hf).few, (h.ok f hf).seq, (h.ok f hf).key⟩, h.lo, h.ap⟩
theorem key_eq (a b : ByteArray) : (a.toList == b.toList) = decide (strB a = strB b) := by
  rw [Lib.toList_data, Lib.toList_data]
  by_cases h : strB a = strB b
  · have h' : a.data.toList = b.data.toList := h
    simp [h, h']
  · have h' : ¬ a.data.toList = b.data.toList := h
    rw [decide_eq_false h]
    exact beq_eq_false_iff_ne.2 h'
theorem facts4_any (A : Option Addr) (pl : List UInt8) (w : World) (hr : Rd w A (byts pl)) (h4 : 4 ≤ pl.length) (hl : pl.length ≤ 1048576) (hA : ∀ ad, A = some ad → ad.block < w.heap.size) :
    (pl.length = 4 → Calls Try.prog 80 #[.slice A 0 0] w (FactsPost w (facP (pl.drop 4)))) ∧
    (¬ pl.length = 4 → Calls Try.prog 80 #[.slice (Option.map (fun x : Addr => (⟨x.block, x.off + 4, none⟩ : Addr)) A) (pl.length - 4) (pl.length - 4)] w (FactsPost w (facP (pl.drop 4)))) := by
  have hdl : (pl.drop 4).length = pl.length - 4 := List.length_drop
  have hdr := hr.drop 4 pl.length (by rw [byts_length]; exact Nat.le_refl _)
  rw [show (byts pl).drop 4 = byts (pl.drop 4) by simp [byts]] at hdr
  refine ⟨fun h => ?_, fun h => ?_⟩
  · rw [if_pos h] at hdr
    exact facts_any A 0 0 (pl.drop 4) w hdr (by omega) (Nat.le_refl _) (by omega) hA
  · rw [if_neg h] at hdr
    have e4 : (Option.map (fun x : Addr => (⟨x.block, x.off + 4, none⟩ : Addr)) A) = A.map (·.add 4) := by cases A <;> simp [Addr.add]
    rw [e4]
    refine facts_any (A.map (·.add 4)) (pl.length - 4) (pl.length - 4) (pl.drop 4) w hdr hdl (Nat.le_refl _) (by omega) fun a ha => ?_
    cases A with
    | none => simp at ha
    | some q =>
      simp only [Option.map_some, Option.some.injEq] at ha
      subst ha
      rw [add_block]
      exact hA q rfl
theorem open_short (A : Option Addr) (c : Nat) (b : List UInt8) (w : World) (hs : b.length < 12) :
    Calls Try.prog 37 #[.slice A b.length c] w (OpenPost w (openP b)) := by
  have hR : openP b = (21, []) := by rw [openP, if_pos hs]
  have d0 : (b.length : Int) - 12 < 0 := by omega
  have d1 : IntKind.i64.wrap ((b.length : Int) - 12) = (b.length : Int) - 12 := IntWalk.i64_in _ (by omega)
  rw [hR]
  clear hR hs
  go_enter Try.func37, Try.ntmps37
  go_wp2_with fail
  go_ret2
  exact OpenPost.bad 21 (by decide) rfl (Below.refl _ _)
theorem open_long (A : Option Addr) (c : Nat) (b : List UInt8) (n : Nat) (w : World) (hn : b.length = n + 12) (hr : Rd w A (byts b)) (hc : b.length ≤ c) (hl : b.length ≤ 1048576) (hA : ∀ ad, A = some ad → ad.block < w.heap.size) :
    Calls Try.prog 37 #[.slice A (n + 12) c] w (OpenPost w (openP b)) := by
  obtain ⟨ad, rfl, _, _⟩ := hr (by rw [← List.length_pos_iff, byts_length]; omega)
  have hft : ftB b = b.drop n := by rw [ftB, hn]; rfl
  have hfl : (b.drop n).length = 12 := by rw [List.length_drop]; omega
  have hfr : Rd w (some (ad.add n)) (byts (b.drop n)) := by
    have := hr.drop n c (by rw [byts_length]; exact hc)
    rw [if_neg (by omega)] at this
    simpa [byts] using this
  have hO : openP b = if leN (((b.drop n).drop 8).take 4) ≠ crcB ((b.drop n).take 8) then (23, [])
    else if n < leN ((b.drop n).take 4) then (21, [])
    else if fitsB ((b.drop (n - leN ((b.drop n).take 4))).take (leN ((b.drop n).take 4))) = false then (23, [])
    else match parP ((b.drop (n - leN ((b.drop n).take 4) + 4)).take (leN ((b.drop n).take 4) - 4)) (b.take (n - leN ((b.drop n).take 4))) with
      | none => (24, [])
      | some ps => endP (blkP ps []) (leN (((b.drop n).drop 4).take 4)) := by
    rw [openP, if_neg (by omega)]
    simp only [ftN, ftC, hft, hn, Nat.add_sub_cancel]
  generalize openP b = R at *
  have HO := Lib.hid hO
  have hcn : ¬ c = n := by omega
  have hnc : (n : Int) ≤ (n : Int) + 12 := by omega
  have hcc : 12 ≤ c - n := by omega
  have d1 : IntKind.i64.wrap ((n : Int) + 12 - 12) = (n : Int) := by rw [IntWalk.i64_in _ (by omega)]; omega
  have d0 : ¬ (n : Int) < 0 := by omega
  clear hO hft
  go_enter Try.func37, Try.ntmps37
  go_wp2_with fail
  refine regOpen5 hfr.drew hfl hcc ?_
  intro w2 _ _ _ _ _ hb2
  go_wp2_with fail
  refine regOpen6 (hfr.below hb2).drew hfl hcc ?_
  intro w3 _ _ _ _ _ _ _ _ _ hb3
  have hb3 := hb2.trans (hb3.mono hb2.size)
  clear hb2 d0 d1 hnc hcn
  by_cases hs : leN (((b.drop n).drop 8).take 4) ≠ crcB ((b.drop n).take 8)
  · have HR := Lib.hid (show R.1 = 23 by rw [HO.out, if_pos hs])
    have e : decide (leN (((b.drop n).drop 8).take 4) ≠ crcB ((b.drop n).take 8)) = true := by simpa using hs
    clear HO hs
    generalize decide (leN (((b.drop n).drop 8).take 4) ≠ crcB ((b.drop n).take 8)) = dd at *
    subst e
    go_wp2_with fail
    go_ret2
    exact OpenPost.bad 23 (by decide) HR.out hb3
  have HO2 := HO.out
  rw [if_neg hs] at HO2
  clear HO
  have e : decide (leN (((b.drop n).drop 8).take 4) ≠ crcB ((b.drop n).take 8)) = false := by simpa using hs
  generalize decide (leN (((b.drop n).drop 8).take 4) ≠ crcB ((b.drop n).take 8)) = dd at *
  subst e
  clear hs
  generalize leN ((b.drop n).take 4) = m at *
  generalize leN (((b.drop n).drop 4).take 4) = count at *
  by_cases hm : n < m
  · have HR := Lib.hid (show R.1 = 21 by rw [HO2, if_pos hm])
    have k1 : (n : Int) < (m : Int) := by omega
    clear HO2 hm
    go_wp2_with fail
    go_ret2
    exact OpenPost.bad 21 (by decide) HR.out hb3
  rw [if_neg hm] at HO2
  obtain ⟨e, rfl⟩ : ∃ e, n = e + m := ⟨n - m, by omega⟩
  simp only [Nat.add_sub_cancel] at HO2
  have k1 : ¬ ((e + m : Nat) : Int) < (m : Int) := by omega
  have k2 : IntKind.i64.wrap (((e + m : Nat) : Int) - (m : Int)) = (e : Int) := by rw [IntWalk.i64_in _ (by omega)]; omega
  have k3 : (e : Int) ≤ ((e + m : Nat) : Int) := by omega
  have k4 : ((e + m : Nat) : Int) ≤ (c : Int) := by omega
  have hxl : ((b.drop e).take m).length = m := by rw [List.length_take, List.length_drop]; omega
  have hrx : Rd w3 (some (ad.add e)) (byts ((b.drop e).take m)) := by
    have := ((hr.below hb3).drop e c (by rw [byts_length]; exact hc)).take m
    rw [if_neg (by omega)] at this
    simpa [byts] using this
  have hft := fits_any (some (ad.add e)) (c - e) m ((b.drop e).take m) w3 hrx hxl (by omega) (by omega)
  have HO3 := Lib.hid HO2
  clear HO2 hm k1
  have k1 : ¬ (e : Int) + (m : Int) < (m : Int) := by omega
  generalize hfb : fitsB ((b.drop e).take m) = fb at *
  have hm4 : fb = true → 4 ≤ m := fun h => by rw [h] at hfb; simp only [fitsB, Bool.and_eq_true, decide_eq_true_eq] at hfb; omega
  clear hfb
  go_wp2_with fail
  refine hft.mono ?_
  rintro e4 w4 ⟨rfl, hb4⟩
  have hb4 := hb3.trans (hb4.mono hb3.size)
  clear hb3 hft hrx hfr
  cases fb with
  | false =>
    have HR := Lib.hid (show R.1 = 23 by rw [HO3.out]; rfl)
    clear HO3
    go_wp2_with fail
    go_ret2
    exact OpenPost.bad 23 (by decide) HR.out hb4
  | true =>
    replace hm4 := hm4 rfl
    have HO4 := Lib.hid (show R = match parP ((b.drop (e + 4)).take (m - 4)) (b.take e) with
      | none => (24, [])
      | some ps => endP (blkP ps []) count from HO3.out)
    clear HO3
    have hr4 := hr.below hb4
    have hA4 : ∀ ad', some ad = some ad' → ad'.block < w4.heap.size := fun ad' h => Nat.lt_of_lt_of_le (hA ad' h) hb4.size
    have hpx : ((b.drop (e + 4)).take (m - 4)).length = e + m - (e + 4) := by rw [List.length_take, List.length_drop]; omega
    have hpb : (b.take e).length = e := by rw [List.length_take]; omega
    have hrx : Rd w4 (some (ad.add (e + 4))) (byts ((b.drop (e + 4)).take (m - 4))) := by
      have := (hr4.drop (e + 4) c (by rw [byts_length]; exact hc)).take (m - 4)
      rw [if_neg (by omega)] at this
      simpa [byts] using this
    have hrb : Rd w4 (some ad) (byts (b.take e)) := by
      have := hr4.take e
      simpa [byts] using this
    have hpt : ∀ W, Below w4.heap.size w4 W → Calls Try.prog 79 #[.slice (some (ad.add (e + 4))) (e + m - (e + 4)) (c - (e + 4)), .slice (some ad) e c] W fun e2 w' => ∃ x ok, e2 = .returned (.tuple #[x, .bool ok]) ∧ PartsP (parP ((b.drop (e + 4)).take (m - 4)) (b.take e)) W x ok w' := by
      intro W hW
      have h := parts_any (some (ad.add (e + 4))) (some ad) (c - (e + 4)) c _ _ W (hrx.below hW) (by rw [hpx]; omega) (by omega) (fun ad' h => by injection h with h; subst h; rw [add_block]; exact Nat.lt_of_lt_of_le (hA4 ad rfl) hW.size) (hrb.below hW) (by omega) (by omega) (fun ad' h => Nat.lt_of_lt_of_le (hA4 ad' h) hW.size)
      rw [hpx, hpb] at h
      exact h.mono fun e w' h => PartsPost.of h
    clear hrx hrb hpx hpb
    have hsum := fun X (h : parP ((b.drop (e + 4)).take (m - 4)) (b.take e) = some X) => (parN_sum _ _ _ X h).trans (show (b.take e).length = e by rw [List.length_take]; omega)
    generalize parP ((b.drop (e + 4)).take (m - 4)) (b.take e) = PR at *
    go_wp2_with fail
    refine regOpen12 hm4 rfl (by omega) (by omega) hpt ?_
    intro w5 _ _ _ _ _ _ _ _ _ _ _ _ _ _ _ _ x ok w45 hb45 hP
    cases PR with
    | none =>
      obtain ⟨hb5, rfl⟩ := hP
      have HR := Lib.hid (show R.1 = 24 by rw [HO4.out])
      have hb0 := hb4.trans ((hb45.trans (hb5.mono hb45.size)).mono hb4.size)
      clear HO4 hpt hb5 hb45
      go_wp2_with fail
      go_ret2
      exact OpenPost.bad 24 (by decide) HR.out hb0
    | some X =>
      obtain ⟨hb5, rfl, PA, pc, Ps, rfl, hX, hPo, hPe⟩ := hP
      have hsum := hsum X rfl
      subst hX
      have HO5 := Lib.hid (show R = endP (blkP (Ps.map PM.pv) []) count from HO4.out)
      have hb0 := hb4.trans ((hb45.trans (hb5.mono hb45.size)).mono hb4.size)
      clear HO4 hpt hr4 hA4 hb4
      have hPo5 := own_mono hPo (show w4.heap.size ≤ w45.heap.size from hb45.size)
      have hlt5 : ∀ f ∈ Ps, ∀ ad, f.A = some ad → ad.block < w5.heap.size := fun f hf ad h => Nat.lt_of_lt_of_le ((hPe f hf).2 ad h) hb5.size
      have hPr := Rd.of_own hPo
      have hPl : ∀ ad, PA = some ad → ad.block < w5.heap.size := fun ad h => ((own_cap hPo).2.2 ad h).2
      have hPn : Ps.length ≤ 9223372036854775807 := Nat.le_trans (own_cap hPo).1 (by have := (own_cap hPo).2.1; unfold maxLen at this; omega)
      have hPe5 : ∀ f ∈ Ps, Rd w5 f.A (byts f.l) := fun f hf => (hPe f hf).1
      go_wp2_with fail
      have hbT := (Below.refl w5.heap.size w5).alloc (Nat.le_refl _) (.cells #[.slice none 0 0] 129)
      have hBT := Blk.new w5 129 #[.slice none 0 0]
      have hFT := Facts.nil (w5.alloc (.cells #[.slice none 0 0] 129)) (w5.heap.size + 1)
      generalize w5.alloc (.cells #[.slice none 0 0] 129) = w6 at *
      generalize hgT : w5.heap.size = gT at *
      have HG := Lib.hid hgT
      clear hgT
      have hwg : w.heap.size ≤ gT := by rw [← HG.out]; exact hb0.size
      generalize hRB : blkP (Ps.map PM.pv) [] = RB at *
      have HRB := Lib.hid hRB
      clear hRB
      go_loopg [73] Ps.length (fun m s73 wr => ∃ (k : Nat) (L : List FM) (A' : Option Addr) (c' : Nat), m = Ps.length - k ∧ k ≤ Ps.length ∧ s73 = .int .i64 (k : Nat) ∧ Blk wr gT 129 #[.slice A' L.length c'] ∧ Facts wr (gT + 1) A' c' L ∧ Below gT w5 wr ∧ blkP ((Ps.map PM.pv).drop k) (L.map FM.fv) = RB ∧ L.length + sumL ((Ps.map PM.pv).drop k) ≤ 1048576)
      case atStart => exact ⟨0, [], none, 0, by omega, by omega, rfl, hBT, hFT, hbT, HRB.out, by simp only [List.drop_zero, List.length_nil]; omega⟩
      case round =>
        clear hBT hFT hbT HRB
        obtain ⟨k, L, A', c', rfl, hk, rfl, hB, hF, hb, hbl, hcnt⟩ := hrel
        have hb00 := hb0.trans (hb.mono hwg)
        have hglt := hB.lt
        by_cases hlt : k < Ps.length
        · have r1 : (k : Int) < (Ps.length : Int) := by omega
          obtain ⟨pad, rfl, c0, c1⟩ := parts_at (hPr.under hb hPl) k hlt
          have hpr := (hPe5 _ (List.getElem_mem hlt)).under hb (hlt5 _ (List.getElem_mem hlt))
          have hplo := hlt5 _ (List.getElem_mem hlt)
          have hd : (Ps.map PM.pv).drop k = Ps[k].pv :: (Ps.map PM.pv).drop (k + 1) := by
            rw [List.drop_eq_getElem_cons (by simpa using hlt)]
            simp
          rw [hd] at hbl hcnt
          clear hd
          generalize Ps[k] = p at *
          obtain ⟨pk, pA, pl⟩ := p
          simp only [PM.pv] at *
          have hpl : pl.length ≤ 1048576 := by simp only [sumL, List.map_cons, List.sum_cons] at hcnt; omega
          have HBL := Lib.hid hbl
          have HCN := Lib.hid hcnt
          clear hbl hcnt hlt hPe5
          have hX := (Below.refl wr.heap.size wr).alloc (Nat.le_refl _) (.cells #[.string pk, .slice pA pl.length pl.length] 131)
          have hBX := Blk.new wr 131 #[.string pk, .slice pA pl.length pl.length]
          have hft := fits_any pA pl.length pl.length pl _ (hpr.below hX) rfl (Nat.le_refl _) (by omega)
          generalize hfb : fitsB pl = fb at *
          have HFB := Lib.hid hfb
          have h4 : fb = true → 4 ≤ pl.length := fun h => by rw [h] at hfb; simp only [fitsB, Bool.and_eq_true, decide_eq_true_eq] at hfb; omega
          clear hfb
          go_wp2_with fail
          refine hft.mono ?_
          rintro e7 w7 ⟨rfl, hb7⟩
          have hX7 := hX.trans (hb7.mono hX.size)
          have hBX7 := hBX.below' hb7
          clear hft hX hBX hb7 c0 c1
          cases fb with
          | false =>
            have HR := Lib.hid (show R.1 = 23 by rw [HO5.out, ← HBL.out, blkP, if_pos HFB.out]; rfl)
            clear HO5
            go_wp2_with fail
            go_ret2
            exact OpenPost.bad 23 (by decide) HR.out (hb00.trans (hX7.mono hb00.size))
          | true =>
            replace h4 := h4 rfl
            have k5 : (4 : Int) ≤ (pl.length : Int) := by omega
            have z1 : w7.cell? ⟨wr.heap.size, 1, none⟩ = some (.slice pA pl.length pl.length) := hBX7.cell 1
            have hpr7 := hpr.below hX7
            obtain ⟨hfa0, hfa1⟩ := facts4_any pA pl w7 hpr7 h4 hpl fun a ha => Nat.lt_trans (hplo a ha) (Nat.lt_of_lt_of_le hglt hX7.size)
            have HBad := Lib.hid (show (facP (pl.drop 4)).2 = true ∨ (facP (pl.drop 4)).1.head?.map FV.k ≠ some (strB pk) → R.1 = 24 from fun h => by
              rw [HO5.out, ← HBL.out, blkP, if_neg (by rw [HFB.out]; decide), if_pos h]
              rfl)
            have HGood := Lib.hid (show ¬ ((facP (pl.drop 4)).2 = true ∨ (facP (pl.drop 4)).1.head?.map FV.k ≠ some (strB pk)) → blkP ((Ps.map PM.pv).drop (k + 1)) (L.map FM.fv ++ (facP (pl.drop 4)).1) = RB from fun h => by
              rw [← HBL.out, blkP, if_neg (by rw [HFB.out]; decide), if_neg h])
            have hfl : (facP (pl.drop 4)).1.length ≤ pl.length := Nat.le_trans (facN_length _ _) (by rw [List.length_drop]; omega)
            clear HBL HFB
            generalize facP (pl.drop 4) = FR at *
            generalize hgX : wr.heap.size = gX at *
            have HX := Lib.hid hgX
            clear hgX
            go_wp2_with fail
            · refine (hfa0 (by assumption)).mono ?_
              rintro e8 w8 ⟨A8, c8, M, rfl, hM, hMF, hb8⟩
              clear hfa0 hfa1
              have hsz7 : gX ≤ w7.heap.size := by rw [← HX.out]; exact (HX.out ▸ hX7).size
              have hX8 := hX7.trans (hb8.mono hsz7)
              have hBX8 := hBX7.below' hb8
              have z0 : w8.cell? ⟨gX, 0, none⟩ = some (.string pk) := hBX8.cell 0
              clear hb8 hBX7 z1 hpr7
              have hlM : M.length ≤ pl.length := by rw [← List.length_map (f := FM.fv), hM]; exact hfl
              have HM := Lib.hid hM
              have hbx8 : Below w.heap.size w w8 := hb00.trans (hX8.mono (by rw [← HX.out]; exact hb00.size))
              clear hM hfl
              by_cases hbad : FR.2 = true ∨ M = []
              · have hok : (!FR.2 && decide (0 < M.length)) = false := by
                  rcases hbad with h | h
                  · rw [h]; rfl
                  · subst h; simp
                have HR := Lib.hid (HBad.out (by
                  rcases hbad with h | h
                  · exact .inl h
                  · right; rw [← HM.out, h]; simp))
                generalize (!FR.2 && decide (0 < M.length)) = ok at *
                subst hok
                clear hbad HBad HGood
                go_wp2_with fail
                go_quiet (fail)
                go_wp2_with fail
                go_ret2
                exact OpenPost.bad 24 (by decide) HR.out (hbx8.trans ⟨rfl, rfl, rfl, Nat.le_refl _, fun _ _ => rfl⟩)
              · have hok : (!FR.2 && decide (0 < M.length)) = true := by
                  simp only [not_or, Bool.not_eq_true] at hbad
                  have := List.length_pos_iff.2 hbad.2
                  rw [hbad.1]
                  simp; omega
                have hF2 : FR.2 = false := by simpa using (not_or.1 hbad).1
                obtain ⟨f, M', rfl⟩ := List.exists_cons_of_ne_nil (not_or.1 hbad).2
                generalize (!FR.2 && decide (0 < (f :: M').length)) = ok at *
                subst hok
                clear hbad
                have hHd : FR.1.head?.map FV.k = some (strB f.k) := by rw [← HM.out]; rfl
                obtain ⟨gM, cM, hv, hgM1, hgM2⟩ := hMF.own.form (by simp)
                injection hv with hv1 _ hv2
                subst hv1 hv2
                have z2 : w8.cell? ⟨gM, 0, none⟩ = some (.string f.k) := hMF.own.cells (g := gM) rfl 0 _ rfl
                have hkq := key_eq f.k pk
                have hlen : (0 : Int) < ((f :: M').length : Int) := by simp only [List.length_cons]; omega
                by_cases hq : strB f.k = strB pk
                · have HG2 := Lib.hid (HGood.out (by rw [hF2, hHd, hq]; simp))
                  rw [decide_eq_true hq] at hkq
                  clear HBad HGood hHd hq hF2
                  generalize f :: M' = M at *
                  have hB8 := hB.below hX8 hglt
                  have hF8 := hF.below (HX.out ▸ hX8)
                  have hs8 : gX ≤ w8.heap.size := by rw [← HX.out]; exact (HX.out ▸ hX8 : Below wr.heap.size wr w8).size
                  have hcc2 : L.length + M.length + sumL ((Ps.map PM.pv).drop (k + 1)) ≤ 1048576 := by
                    have := HCN.out
                    simp only [sumL, List.map_cons, List.sum_cons] at this ⊢
                    omega
                  have hMap : ∀ f ∈ M, ∀ ad, f.A = some ad → (Value.slice A' L.length c').ownBlock ≠ some ad.block := fun f hf ad h e2 => by
                    have h1 := (hF.own.lt _ e2).2
                    have h2 := (hMF.lo f hf ad h).1
                    rw [HX.out] at h1
                    omega
                  have hgw : Below gT w5 w8 := hb.trans ((HX.out ▸ hX8 : Below wr.heap.size wr w8).mono (Nat.le_of_lt (HX.out ▸ hglt)))
                  have hfM := fcells_length M
                  have HFM := Lib.hid hfM
                  have hMB : gT + 1 ≤ w7.heap.size := by omega
                  clear hfM hB hF
                  go_wp2_with fail
                  go_quiet (fail)
                  replace hB8 := hB8.drewN nq
                  replace hF8 := hF8.drewN nq
                  replace hMF := hMF.drewN nq
                  replace hgw := belN hgw nq
                  replace hs8 : gX ≤ (w8.drewN nq).heap.size := hs8
                  clear z0 z2 hkq hX7 hX8 hBX8 hgM1 hgM2 hbx8
                  generalize w8.drewN nq = wq at *
                  have q0 : wq.cell? ⟨gT, 0, none⟩ = some (.slice A' L.length c') := hB8.cell 0
                  have hMr := Rd.of_own hMF.own
                  have hsd : gT + 1 ≤ wq.heap.size := by omega
                  have hMlo : ∀ f ∈ M, ∀ ad, f.A = some ad → gT + 1 ≤ ad.block ∧ ad.block < wq.heap.size := fun f hf ad h => ⟨by have := (hMF.lo f hf ad h).1; omega, (hMF.lo f hf ad h).2⟩
                  go_wp2_with (at_builtin; refine wpList_app _ rfl _ _ rfl slF (gT + 1) (.slice A' L.length c') L.length (fcells L) rfl hF8.own _ M.length _ (fcells M) rfl HFM.out hMr (fcells_one M) (by unfold maxLen; omega) (by omega) hsd ?_; intro A9 c9 w9 ho9 hg9; have hB9 := hB8.grown hg9.grown (fun e => by have := (hF8.own.lt gT e.symm).1; omega); have y0 := hB9.cell 0; have yf := hB9.frozen 0)
                  have hF9 := hF8.app hMF.ok hMlo hMap ho9 hg9
                  have hBs := hB9.set 0 (.slice A9 (L.length + M.length) c9)
                  have hbu := hgw.trans ((hg9.under hF8.own (Nat.le_refl _) hsd).mono (Nat.le_succ gT))
                  have hF9s := hF9.but (But.set gT 0 w9 (.slice A9 (L.length + M.length) c9)) (Nat.lt_succ_self gT)
                  have hbus := hbu.trans (Below.setCell (Below.refl gT w9) (p := ⟨gT, 0, none⟩) (Nat.le_refl _) (.slice A9 (L.length + M.length) c9))
                  go_roundg (Ps.length - (k + 1))
                  case measure => omega
                  case rel =>
                    refine ⟨k + 1, L ++ M, A9, c9, rfl, by omega, by go_num, ?_, hF9s, hbus, ?_, ?_⟩
                    · rw [List.length_append]; exact hBs
                    · rw [List.map_append, HM.out]; exact HG2.out
                    · rw [List.length_append]; exact hcc2
                · have HR := Lib.hid (HBad.out (.inr (by rw [hHd]; simpa using hq)))
                  rw [decide_eq_false hq] at hkq
                  clear HBad HGood hHd hq hF2
                  generalize f :: M' = M at *
                  go_wp2_with fail
                  go_quiet (fail)
                  go_wp2_with fail
                  go_ret2
                  exact OpenPost.bad 24 (by decide) HR.out (hbx8.trans ⟨rfl, rfl, rfl, Nat.le_refl _, fun _ _ => rfl⟩)
            · refine (hfa1 (by assumption)).mono ?_
              rintro e8 w8 ⟨A8, c8, M, rfl, hM, hMF, hb8⟩
              clear hfa0 hfa1
              have hsz7 : gX ≤ w7.heap.size := by rw [← HX.out]; exact (HX.out ▸ hX7).size
              have hX8 := hX7.trans (hb8.mono hsz7)
              have hBX8 := hBX7.below' hb8
              have z0 : w8.cell? ⟨gX, 0, none⟩ = some (.string pk) := hBX8.cell 0
              clear hb8 hBX7 z1 hpr7
              have hlM : M.length ≤ pl.length := by rw [← List.length_map (f := FM.fv), hM]; exact hfl
              have HM := Lib.hid hM
              have hbx8 : Below w.heap.size w w8 := hb00.trans (hX8.mono (by rw [← HX.out]; exact hb00.size))
              clear hM hfl
              by_cases hbad : FR.2 = true ∨ M = []
              · have hok : (!FR.2 && decide (0 < M.length)) = false := by
                  rcases hbad with h | h
                  · rw [h]; rfl
                  · subst h; simp
                have HR := Lib.hid (HBad.out (by
                  rcases hbad with h | h
                  · exact .inl h
                  · right; rw [← HM.out, h]; simp))
                generalize (!FR.2 && decide (0 < M.length)) = ok at *
                subst hok
                clear hbad HBad HGood
                go_wp2_with fail
                go_quiet (fail)
                go_wp2_with fail
                go_ret2
                exact OpenPost.bad 24 (by decide) HR.out (hbx8.trans ⟨rfl, rfl, rfl, Nat.le_refl _, fun _ _ => rfl⟩)
              · have hok : (!FR.2 && decide (0 < M.length)) = true := by
                  simp only [not_or, Bool.not_eq_true] at hbad
                  have := List.length_pos_iff.2 hbad.2
                  rw [hbad.1]
                  simp; omega
                have hF2 : FR.2 = false := by simpa using (not_or.1 hbad).1
                obtain ⟨f, M', rfl⟩ := List.exists_cons_of_ne_nil (not_or.1 hbad).2
                generalize (!FR.2 && decide (0 < (f :: M').length)) = ok at *
                subst hok
                clear hbad
                have hHd : FR.1.head?.map FV.k = some (strB f.k) := by rw [← HM.out]; rfl
                obtain ⟨gM, cM, hv, hgM1, hgM2⟩ := hMF.own.form (by simp)
                injection hv with hv1 _ hv2
                subst hv1 hv2
                have z2 : w8.cell? ⟨gM, 0, none⟩ = some (.string f.k) := hMF.own.cells (g := gM) rfl 0 _ rfl
                have hkq := key_eq f.k pk
                have hlen : (0 : Int) < ((f :: M').length : Int) := by simp only [List.length_cons]; omega
                by_cases hq : strB f.k = strB pk
                · have HG2 := Lib.hid (HGood.out (by rw [hF2, hHd, hq]; simp))
                  rw [decide_eq_true hq] at hkq
                  clear HBad HGood hHd hq hF2
                  generalize f :: M' = M at *
                  have hB8 := hB.below hX8 hglt
                  have hF8 := hF.below (HX.out ▸ hX8)
                  have hs8 : gX ≤ w8.heap.size := by rw [← HX.out]; exact (HX.out ▸ hX8 : Below wr.heap.size wr w8).size
                  have hcc2 : L.length + M.length + sumL ((Ps.map PM.pv).drop (k + 1)) ≤ 1048576 := by
                    have := HCN.out
                    simp only [sumL, List.map_cons, List.sum_cons] at this ⊢
                    omega
                  have hMap : ∀ f ∈ M, ∀ ad, f.A = some ad → (Value.slice A' L.length c').ownBlock ≠ some ad.block := fun f hf ad h e2 => by
                    have h1 := (hF.own.lt _ e2).2
                    have h2 := (hMF.lo f hf ad h).1
                    rw [HX.out] at h1
                    omega
                  have hgw : Below gT w5 w8 := hb.trans ((HX.out ▸ hX8 : Below wr.heap.size wr w8).mono (Nat.le_of_lt (HX.out ▸ hglt)))
                  have hfM := fcells_length M
                  have HFM := Lib.hid hfM
                  have hMB : gT + 1 ≤ w7.heap.size := by omega
                  clear hfM hB hF
                  go_wp2_with fail
                  go_quiet (fail)
                  replace hB8 := hB8.drewN nq
                  replace hF8 := hF8.drewN nq
                  replace hMF := hMF.drewN nq
                  replace hgw := belN hgw nq
                  replace hs8 : gX ≤ (w8.drewN nq).heap.size := hs8
                  clear z0 z2 hkq hX7 hX8 hBX8 hgM1 hgM2 hbx8
                  generalize w8.drewN nq = wq at *
                  have q0 : wq.cell? ⟨gT, 0, none⟩ = some (.slice A' L.length c') := hB8.cell 0
                  have hMr := Rd.of_own hMF.own
                  have hsd : gT + 1 ≤ wq.heap.size := by omega
                  have hMlo : ∀ f ∈ M, ∀ ad, f.A = some ad → gT + 1 ≤ ad.block ∧ ad.block < wq.heap.size := fun f hf ad h => ⟨by have := (hMF.lo f hf ad h).1; omega, (hMF.lo f hf ad h).2⟩
                  go_wp2_with (at_builtin; refine wpList_app _ rfl _ _ rfl slF (gT + 1) (.slice A' L.length c') L.length (fcells L) rfl hF8.own _ M.length _ (fcells M) rfl HFM.out hMr (fcells_one M) (by unfold maxLen; omega) (by omega) hsd ?_; intro A9 c9 w9 ho9 hg9; have hB9 := hB8.grown hg9.grown (fun e => by have := (hF8.own.lt gT e.symm).1; omega); have y0 := hB9.cell 0; have yf := hB9.frozen 0)
                  have hF9 := hF8.app hMF.ok hMlo hMap ho9 hg9
                  have hBs := hB9.set 0 (.slice A9 (L.length + M.length) c9)
                  have hbu := hgw.trans ((hg9.under hF8.own (Nat.le_refl _) hsd).mono (Nat.le_succ gT))
                  have hF9s := hF9.but (But.set gT 0 w9 (.slice A9 (L.length + M.length) c9)) (Nat.lt_succ_self gT)
                  have hbus := hbu.trans (Below.setCell (Below.refl gT w9) (p := ⟨gT, 0, none⟩) (Nat.le_refl _) (.slice A9 (L.length + M.length) c9))
                  go_roundg (Ps.length - (k + 1))
                  case measure => omega
                  case rel =>
                    refine ⟨k + 1, L ++ M, A9, c9, rfl, by omega, by go_num, ?_, hF9s, hbus, ?_, ?_⟩
                    · rw [List.length_append]; exact hBs
                    · rw [List.map_append, HM.out]; exact HG2.out
                    · rw [List.length_append]; exact hcc2
                · have HR := Lib.hid (HBad.out (.inr (by rw [hHd]; simpa using hq)))
                  rw [decide_eq_false hq] at hkq
                  clear HBad HGood hHd hq hF2
                  generalize f :: M' = M at *
                  go_wp2_with fail
                  go_quiet (fail)
                  go_wp2_with fail
                  go_ret2
                  exact OpenPost.bad 24 (by decide) HR.out (hbx8.trans ⟨rfl, rfl, rfl, Nat.le_refl _, fun _ _ => rfl⟩)
        · obtain rfl : k = Ps.length := by omega
          have r1 : ¬ (Ps.length : Int) < (Ps.length : Int) := by omega
          rw [List.drop_eq_nil_of_le (by simp)] at hbl hcnt
          have hRB2 : RB = (0, L.map FM.fv) := by rw [← hbl, blkP]
          have hLn : L.length ≤ 1048576 := by omega
          have hri := right_any A' c' L wr (Rd.of_own hF.own) hLn
          have hR2 : R = if rightF L = false ∨ L.length ≠ count then (24, []) else (0, L.map FM.fv) := by
            rw [HO5.out, hRB2]
            simp only [endP, rightF_fv, List.length_map]
            rfl
          have y0 : wr.cell? ⟨gT, 0, none⟩ = some (.slice A' L.length c') := hB.cell 0
          have HR2 := Lib.hid hR2
          clear hbl hcnt hRB2 HO5 hR2
          generalize rightF L = rf at *
          go_wp2_with fail
          refine hri.mono ?_
          rintro e9 w9 ⟨rfl, hb9⟩
          clear hri
          have hB9 := hB.below' hb9
          have hF9 := hF.below hb9
          have y1 : w9.cell? ⟨gT, 0, none⟩ = some (.slice A' L.length c') := hB9.cell 0
          have hb09 := hb00.trans (hb9.mono hb00.size)
          clear hb9 y0
          cases rf with
          | false =>
            have HR := Lib.hid (show R.1 = 24 by rw [HR2.out, if_pos (.inl rfl)])
            clear HR2
            go_wp2_with fail
            go_ret2
            exact OpenPost.bad 24 (by decide) HR.out hb09
          | true =>
            by_cases hcq : L.length = count
            · have HR := Lib.hid (show R = (0, L.map FM.fv) by rw [HR2.out, if_neg (by simp [hcq])])
              have k7 : ((L.length : Int) != (count : Int)) = false := by simp [hcq]
              clear HR2 hcq
              go_wp2_with fail
              go_ret2
              refine ⟨hb09, .inr ⟨by rw [HR.out], gT, A', c', L, rfl, by rw [HR.out], hB9, hwg, hF9⟩⟩
            · have HR := Lib.hid (show R.1 = 24 by rw [HR2.out, if_pos (.inr hcq)])
              have k7 : ((L.length : Int) != (count : Int)) = true := by simp; omega
              clear HR2 hcq
              go_wp2_with fail
              go_ret2
              exact OpenPost.bad 24 (by decide) HR.out hb09
theorem open_any (A : Option Addr) (c : Nat) (b : List UInt8) (w : World) (hr : Rd w A (byts b)) (hc : b.length ≤ c) (hl : b.length ≤ 1048576) (hA : ∀ ad, A = some ad → ad.block < w.heap.size) :
    Calls Try.prog 37 #[.slice A b.length c] w (OpenPost w (openP b)) := by
  by_cases hs : b.length < 12
  · exact open_short A c b w hs
  · have h := open_long A c b (b.length - 12) w (by omega) hr hc hl hA
    rw [show b.length - 12 + 12 = b.length by omega] at h
    exact h
end Go.Proofs.Ytadgaphgomagkaa
