/- The law's own helpers over facts: Few. -/
import Derived.Test.YtadgaphgomagkaaKo
import Derived.Deep.QuietTactic
import Derived.BigQuiet
import Derived.IntWalk
import Derived.StillTailTactics
import Derived.Test.YtadgaphgomagkaaFe
namespace Go.Proofs.Ytadgaphgomagkaa
open Go.RowKit
set_option maxHeartbeats 8000000
set_option maxRecDepth 100000

/-- how much facts hold -/
def sizeF (l : List FM) : Nat := (l.map fun f => f.k.size + f.l.length).sum
theorem sizeF_take (l : List FM) (k : Nat) (h : k < l.length) : sizeF (l.take (k + 1)) = sizeF (l.take k) + l[k].k.size + l[k].l.length := by
  rw [sizeF, sizeF, List.take_succ_eq_append_getElem h]
  simp only [List.map_append, List.map_cons, List.map_nil, List.sum_append, List.sum_cons, List.sum_nil]
  omega
theorem sizeF_le (l : List FM) (h : ∀ f ∈ l, f.k.size ≤ 1048576 ∧ f.l.length ≤ 1048576) : sizeF l ≤ l.length * 2097152 := by
  induction l with
  | nil => simp [sizeF]
  | cons f r ih =>
    have h1 := h f (by simp)
    have h2 := ih fun g hg => h g (by simp [hg])
    simp [sizeF] at h2 ⊢
    omega
def fewF (l : List FM) (most : Int) : Bool := decide ((l.length : Int) ≤ most) && decide (sizeF l ≤ 131072)
theorem few_any (A : Option Addr) (c : Nat) (l : List FM) (most : Int) (w : World) (hr : Rd w A (fcells l)) (hok : ∀ f ∈ l, f.ok w) (hl : l.length ≤ 1048576) :
    Calls Try.prog 32 #[.slice A l.length c, .int .i64 most] w fun e w' => e = .returned (.bool (fewF l most)) ∧ Below w.heap.size w w' := by
  have hsz : ∀ k, sizeF (l.take k) ≤ 1048576 * 2097152 := fun k => by
    have h1 := sizeF_le (l.take k) fun f hf => ⟨(hok f (List.mem_of_mem_take hf)).key, (hok f (List.mem_of_mem_take hf)).few⟩
    have h2 : (l.take k).length ≤ l.length := by simp; omega
    exact Nat.le_trans h1 (Nat.mul_le_mul_right _ (Nat.le_trans h2 hl))
  have hkl : ∀ i, (h : i < l.length) → l[i].k.size ≤ 1048576 ∧ l[i].l.length ≤ 1048576 := fun i h => ⟨(hok _ (List.getElem_mem h)).key, (hok _ (List.getElem_mem h)).few⟩
  have HF : Hid (fewF l most = (decide ((l.length : Int) ≤ most) && decide (sizeF l ≤ 131072))) := Lib.hid rfl
  generalize fewF l most = R at *
  clear hok
  go_enter Try.func32, Try.ntmps32
  go_wp2_with fail
  go_loopg [5, 6] l.length (fun m s5 s6 wr => ∃ k : Nat, m = l.length - k ∧ k ≤ l.length ∧ s6 = .int .i64 (k : Nat) ∧ s5 = .int .i64 (sizeF (l.take k) : Nat) ∧ Below w.heap.size w wr)
  case atStart => exact ⟨0, by omega, by omega, rfl, rfl, Below.refl _ _⟩
  case round =>
    obtain ⟨k, rfl, hk, rfl, rfl, hb⟩ := hrel
    by_cases hlt : k < l.length
    · have r1 : (k : Int) < (l.length : Int) := by omega
      obtain ⟨ad, rfl, c0, c1, c2⟩ := facts_at (hr.below hb) k hlt
      have hs := sizeF_take l k hlt
      have h1 := hsz k
      have h2 := hsz (k + 1)
      have h3 := hkl k hlt
      generalize l[k] = f at *
      generalize hz : sizeF (l.take (k + 1)) = z at *
      have HZ := Lib.hid hz
      clear hz
      generalize sizeF (l.take k) = y at *
      have HS := Lib.hid hs
      have p1 : IntKind.i64.wrap ((y : Int) + (f.k.size : Int)) = (y : Int) + (f.k.size : Int) := IntWalk.i64_in _ (by omega)
      have p2 : IntKind.i64.wrap ((y : Int) + (f.k.size : Int) + (f.l.length : Int)) = (z : Int) := by rw [IntWalk.i64_in _ (by omega)]; omega
      clear c1 hsz hkl hs h1 h2 h3 HF
      go_wp2_with fail
      go_quiet (fail)
      go_wp2_with fail
      clear p1 p2
      go_roundg (l.length - (k + 1))
      case measure => omega
      case rel => exact ⟨k + 1, rfl, by omega, by go_num, by rw [HZ.out], ⟨hb.os, hb.tape, hb.output, hb.size, hb.block⟩⟩
    · obtain rfl : k = l.length := by omega
      have r1 : ¬ (l.length : Int) < (l.length : Int) := by omega
      rw [List.take_length]
      clear hsz hkl
      have HS := Lib.hid (show sizeF l = sizeF l from rfl)
      generalize sizeF l = z at *
      cases h1 : decide ((l.length : Int) ≤ most) with
      | false =>
        have HR := Lib.hid (show R = false by rw [HF.out, h1]; rfl)
        clear HF
        go_wp2_with fail
        go_ret
        rw [HR.out]
        exact ⟨rfl, hb⟩
      | true =>
        cases h2 : decide ((z : Int) ≤ 131072) with
        | false =>
          have HR := Lib.hid (show R = false by rw [HF.out, h1]; simp at h2 ⊢; omega)
          clear HF
          go_wp2_with fail
          go_ret
          rw [HR.out]
          exact ⟨rfl, hb⟩
        | true =>
          have HR := Lib.hid (show R = true by rw [HF.out, h1]; simp at h2 ⊢; omega)
          clear HF
          go_wp2_with fail
          go_ret
          rw [HR.out]
          exact ⟨rfl, hb⟩
end Go.Proofs.Ytadgaphgomagkaa
/- A reader of bytes in memory: numbers are taken. -/
namespace Go.Proofs.Ytadgaphgomagkaa
open Go.RowKit
set_option maxHeartbeats 8000000
set_option maxRecDepth 100000

/-- all but one block stand as they stood -/
structure But (g : Nat) (w w' : World) : Prop where
  os : w'.os = w.os
  tape : w'.tape = w.tape
  output : w'.output = w.output
  size : w.heap.size ≤ w'.heap.size
  block : ∀ k, k < w.heap.size → k ≠ g → w'.heap[k]? = w.heap[k]?
theorem But.refl (g : Nat) (w : World) : But g w w := ⟨rfl, rfl, rfl, Nat.le_refl _, fun _ _ _ => rfl⟩
theorem But.trans {g : Nat} {a b c : World} (h : But g a b) (k : But g b c) : But g a c :=
  ⟨k.os.trans h.os, k.tape.trans h.tape, k.output.trans h.output, Nat.le_trans h.size k.size, fun i hi hn => (k.block i (Nat.lt_of_lt_of_le hi h.size) hn).trans (h.block i hi hn)⟩
theorem But.below {g : Nat} {w w' : World} (h : Below w.heap.size w w') : But g w w' := ⟨h.os, h.tape, h.output, h.size, fun k hk _ => h.block k hk⟩
theorem But.set (g i : Nat) (w : World) (u : Value) : But g w (w.setCell ⟨g, i, none⟩ u) :=
  ⟨rfl, rfl, rfl, by simp, fun k _ hn => Below.heap_setCell w ⟨g, i, none⟩ u k hn⟩
theorem But.drew {g : Nat} {a w : World} (h : But g a w) (n : Nat) : But g a (w.drewN n) := ⟨h.os, h.tape, h.output, h.size, h.block⟩
theorem Rd.but {w w' : World} {A : Option Addr} {xs : List Value} {g : Nat} (h : Rd w A xs) (hb : But g w w') (hA : ∀ ad, A = some ad → ad.block ≠ g) : Rd w' A xs := fun hn => by
  obtain ⟨ad, e, hlt, hc⟩ := h hn
  refine ⟨ad, e, Nat.lt_of_lt_of_le hlt hb.size, fun k u hk => ?_⟩
  have e2 : (ad.add k).block = ad.block := by simp only [Addr.add]; split <;> rfl
  rw [World.cell?_of_block (w := w) (hb.block _ (by rw [e2]; exact hlt) (by rw [e2]; exact hA ad e))]
  exact hc k u hk
/-- a reader in memory: what is left, and whether something was bad -/
structure RdrAt (w : World) (g : Nat) (A : Option Addr) (l : List UInt8) (c : Nat) (bad : Bool) : Prop where
  blk : Blk w g 157 #[.slice A l.length c, .bool bad]
  rd : Rd w A (byts l)
  cap : l.length ≤ c
  ap : ∀ ad, A = some ad → ad.block < g
def NumPost (g : Nat) (w : World) (n p er : Nat) (l : List UInt8) (bad : Bool) (e : Ending) (w' : World) : Prop :=
  ∃ A', e = .returned (.int .u64 (n : Nat)) ∧ RdrAt w' g A' (l.drop p) (l.length - p) (bad || decide (er ≠ 0)) ∧ But g w w'
theorem number_rd (g : Nat) (A : Option Addr) (l : List UInt8) (c : Nat) (bad : Bool) (w : World) (h : RdrAt w g A l c bad) (hl : l.length ≤ 140737488351232) (hn : (rdNum l).2.1 ≤ l.length) :
    Calls Try.prog 102 #[.pointer (some ⟨g, 0, none⟩)] w (NumPost g w (rdNum l).1 (rdNum l).2.1 (rdNum l).2.2 l bad) := by
  have hnum := readNumber_any A c l w h.rd hl
  have hap := h.ap
  have hapn : ∀ ad, A = some ad → ad.block ≠ g := fun ad e => Nat.ne_of_lt (h.ap ad e)
  have hcp := h.cap
  have hrd := h.rd
  have hB := h.blk
  have x0 := hB.cell 0
  have x1 := hB.cell 1
  clear h
  generalize rdNum l = N at *
  obtain ⟨n, p, er⟩ := N
  dsimp only at *
  have hd0 := Rd.drop hrd p l.length (by rw [byts_length]; exact Nat.le_refl _)
  go_enter Try.func102, Try.ntmps102
  go_wp2_with fail
  refine hnum.mono ?_
  rintro e w1 ⟨rfl, rfl⟩
  clear hnum
  have f1 := hB.frozen 1
  go_upto_region 2 with fail
  go_cut [23] (fun s23 wx => s23 = .bool (bad || decide (er ≠ 0)) ∧ w.setCell ⟨g, 1, none⟩ (.bool (bad || decide (er ≠ 0))) = wx)
  case first =>
    cases bad with
    | true =>
      go_wp2_with fail
      go_meet
      exact ⟨rfl, rfl⟩
    | false =>
      by_cases h0 : er = 0
      · subst h0
        go_wp2_with fail
        go_meet
        exact ⟨rfl, rfl⟩
      · have h1 : ((er : Int) != 0) = true := by simp; omega
        have h2 : decide (er ≠ 0) = true := by simpa using h0
        clear h0
        go_wp2_with fail
        go_meet
        rw [h2]
        exact ⟨rfl, rfl⟩
  case rest =>
  obtain ⟨rfl, rfl⟩ := hcut
  have hB2 := hB.set 1 (.bool (bad || decide (er ≠ 0)))
  have hbt := But.set g 1 w (.bool (bad || decide (er ≠ 0)))
  have hrd2 := hrd.but hbt hapn
  generalize w.setCell ⟨g, 1, none⟩ (.bool (bad || decide (er ≠ 0))) = w2 at *
  generalize hb2 : (bad || decide (er ≠ 0)) = b2 at *
  have HB2 := Lib.hid hb2
  have y0 : w2.cell? ⟨g, 0, none⟩ = some (.slice A l.length c) := hB2.cell 0
  have g0 := hB2.frozen 0
  have k1 : (p : Int) ≤ (l.length : Int) := by omega
  have k2 : (l.length : Int) ≤ (c : Int) := by omega
  clear x0 x1 f1 hB hb2
  go_wp2_with fail
  go_still_tail 17, (by kernel_rfl)
  change wpList _ _ _ _ _ w2.drew
  have hB3 : Blk w2.drew g 157 #[.slice A l.length c, .bool b2] := hB2
  have z0 : w2.drew.cell? ⟨g, 0, none⟩ = some (.slice A l.length c) := y0
  have g3 : w2.drew.frozen? ⟨g, 0, none⟩ = false := g0
  have hrd3 : Rd w2.drew A (byts l) := hrd2
  have hbt3 : But g w w2.drew := ⟨hbt.os, hbt.tape, hbt.output, hbt.size, hbt.block⟩
  clear hB2 y0 g0 hrd2 hbt hrd hd0
  generalize w2.drew = w3 at *
  go_wp2_with fail
  · go_ret
    refine ⟨A, rfl, ?_, hbt3.trans (But.set g 0 w3 _)⟩
    rw [HB2.out]
    have e0 : l.drop p = [] := List.drop_eq_nil_of_le (by omega)
    rw [e0, show l.length - p = 0 by omega]
    exact ⟨hB3.set 0 _, fun h => absurd rfl h, Nat.le_refl _, hap⟩
  · go_ret
    refine ⟨Option.map (fun x => x.add p) A, rfl, ?_, hbt3.trans (But.set g 0 w3 _)⟩
    rw [HB2.out]
    have hd := Rd.drop hrd3 p l.length (by rw [byts_length]; exact Nat.le_refl _)
    rw [if_neg h] at hd
    have e0 : (l.drop p).length = l.length - p := List.length_drop
    have e1 : (byts l).drop p = byts (l.drop p) := by simp [byts]
    rw [e1] at hd
    have hap2 : ∀ ad, Option.map (fun x : Addr => x.add p) A = some ad → ad.block < g := fun ad e => by
      cases A with
      | none => simp at e
      | some a =>
        simp at e
        subst e
        have e2 : (a.add p).block = a.block := by simp only [Addr.add]; split <;> rfl
        rw [e2]
        exact hap a rfl
    refine ⟨?_, hd.but (But.set g 0 w3 _) (fun ad e => Nat.ne_of_lt (hap2 ad e)), by rw [e0]; exact Nat.le_refl _, hap2⟩
    rw [e0]
    exact hB3.set 0 _
end Go.Proofs.Ytadgaphgomagkaa
/- A reader of bytes in memory: bytes are taken. -/
namespace Go.Proofs.Ytadgaphgomagkaa
open Go.RowKit
set_option maxHeartbeats 8000000
set_option maxRecDepth 100000

theorem rdF_le : ∀ (l : List UInt8) (i v : Nat), (rdF i v l).2.2 ≠ 0 → (rdF i v l).2.1 = 0
  | [], i, v => by simp [rdF]
  | c :: l, i, v => by
    unfold rdF
    split
    · simp
    · split
      · split <;> simp
      · exact rdF_le l _ _
theorem rdNum_le (l : List UInt8) : (rdNum l).2.1 ≤ l.length := by
  by_cases h : (rdNum l).2.2 = 0
  · exact (rdNum_ok h).2.1
  · have := rdF_le l 0 0 h
    change (rdNum l).2.1 = 0 at this
    omega
theorem rdBytes_le (most : Int) (l : List UInt8) : (rdBytes most l).2.1 ≤ l.length := by
  have := rdNum_le l
  unfold rdBytes
  split
  · simp
  · split
    · simp
    · split
      · simp
      · simp only; omega
def BytesPost (g : Nat) (w : World) (v : List UInt8) (p er : Nat) (l : List UInt8) (bad : Bool) (e : Ending) (w' : World) : Prop :=
  ∃ A' B d, e = .returned (.slice B v.length d) ∧ w'.ownsRow w.heap.size 5 1 (.slice B v.length d) v.length (byts v) ∧ RdrAt w' g A' (l.drop p) (l.length - p) (bad || decide (er ≠ 0)) ∧ But g w w'
theorem own_but {w w' : World} {base g : Nat} {e : TypeId} {size n : Nat} {v : Value} {xs : List Value} (h : w.ownsRow base e size v n xs) (hb : But g w w') (hg : g < base) : w'.ownsRow base e size v n xs := by
  refine ⟨h.1, ?_⟩
  rcases h.2 with h0 | ⟨g2, cap, cur, rfl, hbg, hgb, r⟩
  · exact .inl h0
  · exact .inr ⟨g2, cap, cur, rfl, hbg, (hb.block g2 (Array.getElem?_eq_some_iff.1 hgb).1 (by omega)).trans hgb, r⟩
theorem bytes_rd (g : Nat) (A : Option Addr) (l : List UInt8) (c : Nat) (bad : Bool) (most : Int) (w : World) (h : RdrAt w g A l c bad) (hl : l.length ≤ 140737488351232) (hm1 : most ≤ 9223372036854775807) (hm0 : -9223372036854775808 ≤ most) :
    Calls Try.prog 101 #[.pointer (some ⟨g, 0, none⟩), .int .i64 most] w (BytesPost g w (rdBytes most l).1 (rdBytes most l).2.1 (rdBytes most l).2.2 l bad) := by
  have hby := readBytes_any A c l most w h.rd hl h.cap hm1 hm0
  have hn := rdBytes_le most l
  have hap := h.ap
  have hapn : ∀ ad, A = some ad → ad.block ≠ g := fun ad e => Nat.ne_of_lt (h.ap ad e)
  have hcp := h.cap
  have hrd0 := h.rd
  have hB0 := h.blk
  have x0' := hB0.cell 0
  clear h
  generalize rdBytes most l = N at *
  obtain ⟨v0, p, er⟩ := N
  dsimp only at *
  go_enter Try.func101, Try.ntmps101
  go_wp2_with fail
  refine hby.mono ?_
  rintro e w1 ⟨B, d, v, rfl, rfl, ho1, hb1⟩
  have hB := hB0.below' hb1
  have hrd := hrd0.below hb1
  have hgl := hB0.lt
  have x0 := hB.cell 0
  have x1 := hB.cell 1
  have hbw : But g w w1 := But.below hb1
  clear hby hB0 hrd0 x0' hb1
  have f1 := hB.frozen 1
  go_upto_region 2 with fail
  go_cut [26] (fun s23 wx => s23 = .bool (bad || decide (er ≠ 0)) ∧ w1.setCell ⟨g, 1, none⟩ (.bool (bad || decide (er ≠ 0))) = wx)
  case first =>
    cases bad with
    | true =>
      go_wp2_with fail
      go_meet
      exact ⟨rfl, rfl⟩
    | false =>
      by_cases h0 : er = 0
      · subst h0
        go_wp2_with fail
        go_meet
        exact ⟨rfl, rfl⟩
      · have h1 : ((er : Int) != 0) = true := by simp; omega
        have h2 : decide (er ≠ 0) = true := by simpa using h0
        clear h0
        go_wp2_with fail
        go_meet
        rw [h2]
        exact ⟨rfl, rfl⟩
  case rest =>
  obtain ⟨rfl, rfl⟩ := hcut
  have hB2 := hB.set 1 (.bool (bad || decide (er ≠ 0)))
  have hbt := But.set g 1 w1 (.bool (bad || decide (er ≠ 0)))
  have hrd2 := hrd.but hbt hapn
  have ho2 := own_but ho1 hbt hgl
  have hbt := hbw.trans hbt
  clear hbw ho1
  generalize w1.setCell ⟨g, 1, none⟩ (.bool (bad || decide (er ≠ 0))) = w2 at *
  generalize hb2 : (bad || decide (er ≠ 0)) = b2 at *
  have HB2 := Lib.hid hb2
  have y0 : w2.cell? ⟨g, 0, none⟩ = some (.slice A l.length c) := hB2.cell 0
  have g0 := hB2.frozen 0
  have k1 : (p : Int) ≤ (l.length : Int) := by omega
  have k2 : (l.length : Int) ≤ (c : Int) := by omega
  clear x0 x1 f1 hB hb2
  go_wp2_with fail
  go_still_tail 17, (by kernel_rfl)
  change wpList _ _ _ _ _ w2.drew
  have hB3 : Blk w2.drew g 157 #[.slice A l.length c, .bool b2] := hB2
  have z0 : w2.drew.cell? ⟨g, 0, none⟩ = some (.slice A l.length c) := y0
  have g3 : w2.drew.frozen? ⟨g, 0, none⟩ = false := g0
  have hrd3 : Rd w2.drew A (byts l) := hrd2
  have ho3 : w2.drew.ownsRow w.heap.size 5 1 (.slice B v.length d) v.length (byts v) := ho2
  have hbt3 : But g w w2.drew := ⟨hbt.os, hbt.tape, hbt.output, hbt.size, hbt.block⟩
  clear hB2 y0 g0 hrd2 hbt hrd ho2
  generalize w2.drew = w3 at *
  go_wp2_with fail
  · go_ret
    refine ⟨A, B, d, rfl, own_but ho3 (But.set g 0 w3 _) hgl, ?_, hbt3.trans (But.set g 0 w3 _)⟩
    rw [HB2.out]
    have e0 : l.drop p = [] := List.drop_eq_nil_of_le (by omega)
    rw [e0, show l.length - p = 0 by omega]
    exact ⟨hB3.set 0 _, fun h => absurd rfl h, Nat.le_refl _, hap⟩
  · go_ret
    refine ⟨Option.map (fun x => x.add p) A, B, d, rfl, own_but ho3 (But.set g 0 w3 _) hgl, ?_, hbt3.trans (But.set g 0 w3 _)⟩
    rw [HB2.out]
    have hd := Rd.drop hrd3 p l.length (by rw [byts_length]; exact Nat.le_refl _)
    rw [if_neg h] at hd
    have e0 : (l.drop p).length = l.length - p := List.length_drop
    have e1 : (byts l).drop p = byts (l.drop p) := by simp [byts]
    rw [e1] at hd
    have hap2 : ∀ ad, Option.map (fun x : Addr => x.add p) A = some ad → ad.block < g := fun ad e => by
      cases A with
      | none => simp at e
      | some a =>
        simp at e
        subst e
        have e2 : (a.add p).block = a.block := by simp only [Addr.add]; split <;> rfl
        rw [e2]
        exact hap a rfl
    refine ⟨?_, hd.but (But.set g 0 w3 _) (fun ad e => Nat.ne_of_lt (hap2 ad e)), by rw [e0]; exact Nat.le_refl _, hap2⟩
    rw [e0]
    exact hB3.set 0 _
end Go.Proofs.Ytadgaphgomagkaa
/- Bytes with their sum ahead: do they fit? -/
namespace Go.Proofs.Ytadgaphgomagkaa
open Go.RowKit
set_option maxHeartbeats 8000000
set_option maxRecDepth 100000

def fitsB (l : List UInt8) : Bool := decide (4 ≤ l.length) && decide (leN (l.take 4) = crcB (l.drop 4))
theorem fits_any (A : Option Addr) (c n : Nat) (l : List UInt8) (w : World) (hr : Rd w A (byts l)) (hn : l.length = n) (hc : n ≤ c) (hl : n ≤ 140737488351232) :
    Calls Try.prog 78 #[.slice A n c] w fun e w' => e = .returned (.bool (fitsB l)) ∧ Below w.heap.size w w' := by
  have HF : Hid (fitsB l = (decide (4 ≤ l.length) && decide (leN (l.take 4) = crcB (l.drop 4)))) := Lib.hid rfl
  generalize fitsB l = R at *
  by_cases h4 : 4 ≤ n
  · have hq1 := fun W h => fnumber_any A c n l W h hn h4
    have hdl : (l.drop 4).length = n - 4 := by rw [List.length_drop, hn]
    have hd := Rd.drop hr 4 c (by rw [byts_length, hn]; exact hc)
    rw [show (byts l).drop 4 = byts (l.drop 4) by simp [byts]] at hd
    have hq2 := fun B d g W h1 h2 h3 h5 => sum1_any B d (l.drop 4) g W h1 h2 h3 h5
    rw [hdl] at hq2
    have HF2 := Lib.hid (show R = decide (leN (l.take 4) = crcB (l.drop 4)) by rw [HF.out, hn]; simp [h4])
    have d4 : decide ((4 : Int) ≤ (n : Int)) = true := by simp; omega
    have k1 : (4 : Int) ≤ (n : Int) := by omega
    have k2 : (n : Int) ≤ (c : Int) := by omega
    clear HF hdl
    have hY := crcB_lt (l.drop 4)
    generalize leN (l.take 4) = x at *
    generalize crcB (l.drop 4) = y at *
    generalize hbd : byts (l.drop 4) = bd at *
    clear hbd
    have HYW := Lib.hid (show IntKind.i64.wrap (y : Int) = (y : Int) from IntWalk.i64_in _ (by omega))
    clear hY
    have hd2 : Rd w (if c = 4 then A else Option.map (fun x : Addr => (⟨x.block, x.off + 4, none⟩ : Addr)) A) bd := hd
    clear hd
    by_cases hc4 : c = 4
    · obtain rfl : n = 4 := by omega
      subst hc4
      rw [if_pos rfl] at hd2
      simp only [Nat.sub_self] at hq2
      clear d4 k1 k2 h4
      have d4 : decide ((4 : Int) ≤ ((4 : Nat) : Int)) = true := rfl
      go_enter Try.func78, Try.ntmps78
      go_wp2_with fail
      go_region_with (first
        | (go_at_call 65; refine (hq2 _ 0 _ _ ((Rd.drewN hd2 _).alloc _) (by omega) (by omega) (Rd.one _ _ _)).mono ?_; rintro e w2 ⟨rfl, hb2⟩)
        | (go_at_call 77; refine (hq1 _ ?_).mono ?_; (first | exact hr | exact hr.alloc _ | exact (Rd.drew hr).alloc _ | exact (Rd.drewN hr _).alloc _); rintro e w' ⟨rfl, nq, rfl⟩))
      all_goals
        have hb0 : Below w.heap.size w ((w.drewN (1 + nq)).alloc (.cells #[.slice A 0 0] 35)) := (⟨rfl, rfl, rfl, Nat.le_refl _, fun _ _ => rfl⟩ : Below w.heap.size w (w.drewN (1 + nq))).alloc (Nat.le_refl _) _
        have hb : Below w.heap.size w w2 := hb0.trans (hb2.mono hb0.size)
        clear hb0 hb2 hq1 hq2
        go_simp
        go_wp2_with fail
        go_ret
        refine ⟨?_, hb⟩
        rw [HF2.out]
        have hxy : ((x : Int) == (y : Int)) = decide (x = y) := by
          by_cases h : x = y
          · subst h; simp
          · rw [decide_eq_false h]; simp; omega
        rw [← hxy]
        show Ending.returned (.bool ((x : Int) == IntKind.i64.wrap (y : Int))) = _
        rw [HYW.out]
    · rw [if_neg hc4] at hd2
      go_enter Try.func78, Try.ntmps78
      go_wp2_with fail
      go_region_with (first
        | (go_at_call 65; refine (hq2 _ (c - 4) _ _ ((Rd.drewN hd2 _).alloc _) (by omega) (by omega) (Rd.one _ _ _)).mono ?_; rintro e w2 ⟨rfl, hb2⟩)
        | (go_at_call 77; refine (hq1 _ ?_).mono ?_; (first | exact hr | exact hr.alloc _ | exact (Rd.drew hr).alloc _ | exact (Rd.drewN hr _).alloc _); rintro e w' ⟨rfl, nq, rfl⟩))
      all_goals
        have hb0 : Below w.heap.size w ((w.drewN (1 + nq)).alloc (.cells #[.slice (Option.map (fun x : Addr => (⟨x.block, x.off + 4, none⟩ : Addr)) A) (n - 4) (c - 4)] 35)) := (⟨rfl, rfl, rfl, Nat.le_refl _, fun _ _ => rfl⟩ : Below w.heap.size w (w.drewN (1 + nq))).alloc (Nat.le_refl _) _
        have hb : Below w.heap.size w w2 := hb0.trans (hb2.mono hb0.size)
        clear hb0 hb2 hq1 hq2
        go_simp
        go_wp2_with fail
        go_ret
        refine ⟨?_, hb⟩
        rw [HF2.out]
        have hxy : ((x : Int) == (y : Int)) = decide (x = y) := by
          by_cases h : x = y
          · subst h; simp
          · rw [decide_eq_false h]; simp; omega
        rw [← hxy]
        show Ending.returned (.bool ((x : Int) == IntKind.i64.wrap (y : Int))) = _
        rw [HYW.out]
  · have HR := Lib.hid (show R = false by rw [HF.out, hn]; simp [h4])
    have d4 : decide ((4 : Int) ≤ (n : Int)) = false := by simp; omega
    clear HF h4 hn hl
    go_enter Try.func78, Try.ntmps78
    go_wp2_with fail
    go_quiet (fail)
    go_wp2_with fail
    go_ret
    rw [HR.out]
    exact ⟨rfl, ⟨rfl, rfl, rfl, Nat.le_refl _, fun _ _ => rfl⟩⟩
end Go.Proofs.Ytadgaphgomagkaa
/- An opened table in memory; how many facts it has. -/
namespace Go.Proofs.Ytadgaphgomagkaa
open Go.RowKit
set_option maxHeartbeats 2000000
set_option maxRecDepth 100000

/-- a table in memory -/
structure TblAt (w : World) (g : Nat) (A : Option Addr) (l : List FM) (c : Nat) : Prop where
  blk : Blk w g 129 #[.slice A l.length c]
  rd : Rd w A (fcells l)
  cap : l.length ≤ c
theorem len_any (g : Nat) (A : Option Addr) (l : List FM) (c : Nat) (w : World) (h : TblAt w g A l c) :
    Calls Try.prog 58 #[.pointer (some ⟨g, 0, none⟩)] w fun e w' => e = .returned (.int .i64 (l.length : Nat)) ∧ w = w' := by
  have x0 : w.cell? ⟨g, 0, none⟩ = some (.slice A l.length c) := h.blk.cell 0
  clear h
  go_enter Try.func58, Try.ntmps58
  go_wp2_with fail
  go_ret
  exact ⟨rfl, rfl⟩
end Go.Proofs.Ytadgaphgomagkaa
/- A fact set apart. -/
namespace Go.Proofs.Ytadgaphgomagkaa
open Go.RowKit
set_option maxHeartbeats 2000000
set_option maxRecDepth 100000

theorem apart_any (f : FM) (w : World) (h : f.ok w) :
    Calls Try.prog 82 #[f.val] w fun e w' => ∃ A' c', e = .returned (FM.val ⟨f.k, f.s, A', c', f.l⟩) ∧ w'.ownsRow w.heap.size 5 1 (.slice A' f.l.length c') f.l.length (byts f.l) ∧ Below w.heap.size w w' := by
  have hcl := fun W h1 => clone_any f.A f.c f.l W h1 (by have := h.few; omega)
  have hr := h.rd
  clear h
  obtain ⟨k, s, A, c, l⟩ := f
  simp only [FM.val] at *
  have hB1 := Blk.new w 71 #[.string k, .int .u64 (s : Nat), .slice A l.length c]
  have hb1 := (Below.refl w.heap.size w).alloc (Nat.le_refl _) (.cells #[.string k, .int .u64 (s : Nat), .slice A l.length c] 71)
  go_enter Try.func82, Try.ntmps82
  go_wp2_with fail
  refine (hcl _ ((hr.below hb1).alloc _)).mono ?_
  rintro e w2 ⟨A', c', rfl, ho, hb2⟩
  have hZ : Below w.heap.size w w2 := (hb1.alloc hb1.size _).trans (hb2.mono (Nat.le_trans hb1.size (by simp)))
  have hB2 := (hB1.alloc _).below' hb2
  have hlt := hB1.lt
  have hBZ := (Blk.new (w.alloc (.cells #[.string k, .int .u64 (s : Nat), .slice A l.length c] 71)) 71 #[.string ⟨#[]⟩, .int .u64 0, .slice none 0 0]).below' hb2
  have h0 : w2.cell? ⟨w.heap.size, 0, none⟩ = some (.string k) := hB2.cell 0
  have h1 : w2.cell? ⟨w.heap.size, 1, none⟩ = some (.int .u64 (s : Nat)) := hB2.cell 1
  have h2 := hB2.frozen 2
  have h2c : w2.cell? ⟨w.heap.size, 2, none⟩ = some (.slice A l.length c) := hB2.cell 2
  have z0 := hBZ.frozen 0
  have z1 := hBZ.frozen 1
  have z2 := hBZ.frozen 2
  have y0 := hBZ.cell 0
  have y1 := hBZ.cell 1
  have y2 := hBZ.cell 2
  simp only [World.size_alloc] at z0 z1 z2 y0 y1 y2
  simp only [World.size_alloc] at hBZ ho
  clear hcl hr hB1 hB2 hb2 hlt
  go_wp2_with fail
  have hF := (((hBZ.far (p := ⟨w.heap.size, 2, none⟩) (by simp) (.slice A' l.length c')).set 0 (.string k)).set 1 (.int .u64 (s : Nat))).set 2 (.slice A' l.length c')
  have hB1 := hZ.setCell (p := ⟨w.heap.size, 2, none⟩) (Nat.le_refl _) (.slice A' l.length c')
  have hB2 := ((hB1.setCell (p := ⟨w.heap.size + 1, 0, none⟩) (Nat.le_succ _) (.string k)).setCell (p := ⟨w.heap.size + 1, 1, none⟩) (Nat.le_succ _) (.int .u64 (s : Nat))).setCell (p := ⟨w.heap.size + 1, 2, none⟩) (Nat.le_succ _) (.slice A' l.length c')
  have ho2 := own_but (own_but (own_but (own_but ho (But.set w.heap.size 2 _ (.slice A' l.length c')) (by omega)) (But.set (w.heap.size + 1) 0 _ (.string k)) (by omega)) (But.set (w.heap.size + 1) 1 _ (.int .u64 (s : Nat))) (by omega)) (But.set (w.heap.size + 1) 2 _ (.slice A' l.length c')) (by omega)
  refine bodyPost_ret (results_cell_row rfl _ _ (w.heap.size + 1) 71 #[.string k, .int .u64 (s : Nat), .slice A' l.length c'] (0, 0) _ rfl hF Try.underlying71 rfl (by kernel_rfl)) rfl ?_
  exact ⟨A', c', rfl, own_mono ho2 (by omega), hB2⟩
end Go.Proofs.Ytadgaphgomagkaa
/- Facts that a call owns; a block's bytes as facts (plain). -/
namespace Go.Proofs.Ytadgaphgomagkaa
open Go.RowKit
set_option maxHeartbeats 2000000
set_option maxRecDepth 100000

theorem slF : SlT Try.prog 56 71 (.agg #[.string ⟨#[]⟩, .int .u64 0, .slice none 0 0]) 3 48 := ⟨Try.underlying56, by kernel_rfl, rfl, by decide⟩
/-- a fact by what it says -/
structure FV where
  k : List UInt8
  s : Nat
  v : List UInt8
  deriving DecidableEq
def FM.fv (f : FM) : FV := ⟨strB f.k, f.s, f.l⟩
/-- the fact at the front of bytes, what is left, whether something was bad -/
def fac1 (l : List UInt8) : FV × List UInt8 × Bool :=
  (⟨(rdBytes 1024 l).1, (rdNum (l.drop (rdBytes 1024 l).2.1)).1, (rdBytes 1048576 ((l.drop (rdBytes 1024 l).2.1).drop (rdNum (l.drop (rdBytes 1024 l).2.1)).2.1)).1⟩,
   ((l.drop (rdBytes 1024 l).2.1).drop (rdNum (l.drop (rdBytes 1024 l).2.1)).2.1).drop (rdBytes 1048576 ((l.drop (rdBytes 1024 l).2.1).drop (rdNum (l.drop (rdBytes 1024 l).2.1)).2.1)).2.1,
   (decide ((rdBytes 1024 l).2.2 ≠ 0) || decide ((rdNum (l.drop (rdBytes 1024 l).2.1)).2.2 ≠ 0)) || decide ((rdBytes 1048576 ((l.drop (rdBytes 1024 l).2.1).drop (rdNum (l.drop (rdBytes 1024 l).2.1)).2.1)).2.2 ≠ 0))
def facN : Nat → List UInt8 → List FV × Bool
  | 0, _ => ([], false)
  | n + 1, l => if l = [] then ([], false) else if (fac1 l).2.2 = true then ([(fac1 l).1], true) else ((fac1 l).1 :: (facN n (fac1 l).2.1).1, (facN n (fac1 l).2.1).2)
def facP (l : List UInt8) : List FV × Bool := facN l.length l
theorem rdNum_lt (l : List UInt8) : (rdNum l).1 < 18446744073709551616 := by
  by_cases h : (rdNum l).2.2 = 0
  · exact (rdNum_ok h).2.2.2
  · have : ∀ (l : List UInt8) (i v : Nat), (rdF i v l).2.2 ≠ 0 → (rdF i v l).1 = 0 := by
      intro l
      induction l with
      | nil => intro i v _; simp [rdF]
      | cons c l ih =>
        intro i v h
        unfold rdF at h ⊢
        split
        · rfl
        · split
          · split
            · rfl
            · rename_i h1 h2 h3; rw [if_neg h1, if_pos h2, if_neg h3] at h; exact absurd rfl h
          · rename_i h1 h2; rw [if_neg h1, if_neg h2] at h; exact ih _ _ h
    rw [show (rdNum l).1 = 0 from this l 0 0 h]
    omega
theorem rdBytes_most (most : Nat) (l : List UInt8) : (rdBytes (most : Int) l).1.length ≤ most := by
  unfold rdBytes
  split
  · simp
  · split
    · simp
    · split
      · simp
      · simp only [List.length_take]; omega
theorem fac1_less (l : List UInt8) (h : (fac1 l).2.2 = false) : (fac1 l).2.1.length < l.length := by
  simp only [fac1, Bool.or_eq_false_iff, decide_eq_false_iff_not, Decidable.not_not] at h
  obtain ⟨⟨h1, h2⟩, h3⟩ := h
  have hn := rdNum_ok h2
  simp only [fac1, List.length_drop] at hn ⊢
  omega

/-- facts that a call owns: their row and their values lie from B on, and apart from one another's row -/
structure Facts (w : World) (B : Nat) (A : Option Addr) (c : Nat) (L : List FM) : Prop where
  own : w.ownsRow B 71 3 (.slice A L.length c) L.length (fcells L)
  ok : ∀ f ∈ L, f.ok w
  lo : ∀ f ∈ L, ∀ ad, f.A = some ad → B ≤ ad.block ∧ ad.block < w.heap.size
  ap : ∀ f ∈ L, ∀ ad, f.A = some ad → (Value.slice A L.length c).ownBlock ≠ some ad.block
theorem Facts.nil (w : World) (B : Nat) : Facts w B none 0 [] := ⟨World.ownsRow_nil _ _ _ _, by simp, by simp, by simp⟩
theorem FM.ok.but {f : FM} {w w' : World} {g : Nat} (h : f.ok w) (hb : But g w w') (hA : ∀ ad, f.A = some ad → ad.block ≠ g) : f.ok w' := ⟨h.rd.but hb hA, h.cap, h.few, h.seq, h.key⟩
theorem Facts.but {w w' : World} {B g : Nat} {A : Option Addr} {c : Nat} {L : List FM} (h : Facts w B A c L) (hb : But g w w') (hg : g < B) : Facts w' B A c L :=
  ⟨own_but h.own hb hg, fun f hf => (h.ok f hf).but hb fun ad e => by have := h.lo f hf ad e; omega, fun f hf ad e => ⟨(h.lo f hf ad e).1, Nat.lt_of_lt_of_le (h.lo f hf ad e).2 hb.size⟩, h.ap⟩
theorem Facts.below {w w' : World} {B : Nat} {A : Option Addr} {c : Nat} {L : List FM} (h : Facts w B A c L) (hb : Below w.heap.size w w') : Facts w' B A c L :=
  ⟨own_below h.own hb, fun f hf => (h.ok f hf).below hb, fun f hf ad e => ⟨(h.lo f hf ad e).1, Nat.lt_of_lt_of_le (h.lo f hf ad e).2 hb.size⟩, h.ap⟩
theorem Facts.mono {w : World} {B B' : Nat} {A : Option Addr} {c : Nat} {L : List FM} (h : Facts w B A c L) (hb : B' ≤ B) : Facts w B' A c L :=
  ⟨own_mono h.own hb, h.ok, fun f hf ad e => ⟨Nat.le_trans hb (h.lo f hf ad e).1, (h.lo f hf ad e).2⟩, h.ap⟩
theorem fcells_append (a b : List FM) : fcells (a ++ b) = fcells a ++ fcells b := by simp [fcells]
theorem fcells_one (l : List FM) : ∀ u ∈ fcells l, u.oneCell' = true := by
  intro u hu
  obtain ⟨f, _, hf⟩ := List.mem_flatMap.1 hu
  simp only [FM.cells, List.mem_cons, List.not_mem_nil, or_false] at hf
  rcases hf with rfl | rfl | rfl <;> rfl
/-- behind an append of others, that lie apart too -/
theorem Facts.app {w w' : World} {B : Nat} {A A' : Option Addr} {c c' : Nat} {L M : List FM} (h : Facts w B A c L) (hM : ∀ f ∈ M, f.ok w) (hMl : ∀ f ∈ M, ∀ ad, f.A = some ad → B ≤ ad.block ∧ ad.block < w.heap.size)
    (hMa : ∀ f ∈ M, ∀ ad, f.A = some ad → (Value.slice A L.length c).ownBlock ≠ some ad.block)
    (ho : w'.ownsRow B 71 3 (.slice A' (L.length + M.length) c') (L.length + M.length) (fcells L ++ fcells M)) (hg : Grew w w' (.slice A L.length c) (.slice A' (L.length + M.length) c')) : Facts w' B A' c' (L ++ M) := by
  have hall : ∀ f ∈ L ++ M, f.ok w ∧ (∀ ad, f.A = some ad → B ≤ ad.block ∧ ad.block < w.heap.size) ∧ (∀ ad, f.A = some ad → (Value.slice A L.length c).ownBlock ≠ some ad.block) := by
    intro f hf
    rcases List.mem_append.1 hf with h1 | h1
    · exact ⟨h.ok f h1, h.lo f h1, h.ap f h1⟩
    · exact ⟨hM f h1, hMl f h1, hMa f h1⟩
  refine ⟨by rw [fcells_append, List.length_append]; exact ho, fun f hf => ?_, fun f hf ad e => ⟨((hall f hf).2.1 ad e).1, Nat.lt_of_lt_of_le ((hall f hf).2.1 ad e).2 hg.grown.size⟩, fun f hf ad e e2 => ?_⟩
  · obtain ⟨h1, _, h3⟩ := hall f hf
    exact ⟨h1.rd.grew hg h3, h1.cap, h1.few, h1.seq, h1.key⟩
  · obtain ⟨_, h2, h3⟩ := hall f hf
    rw [List.length_append] at e2
    rcases hg.loc _ e2 with h4 | h4
    · exact h3 ad e h4
    · have := (h2 ad e).2
      omega
theorem run_app_op {P : Program} {ρ : Operand → Value} {d : Option Tmp} {ty t t' : TypeId} {pos : String} {af : Array Edge} {g : Option (Nat × Bool)} {w w' : World} {x y : Operand} {v u r : Value} (hx : ρ x = v) (hy : ρ y = u)
    (hrun : (Builtin.append_ #[t, t'] ty #[v, u]).run P w = .ok r w') : (execOp ρ ⟨d, .call { callee := .builtin .append, args := #[x, y], argTypes := #[t, t'] }, ty, pos, af, g⟩).run P w = .ok (.value r) w' := by
  unfold execOp
  simp only [resolve, invoke, builtin, Sem.run_bind, Sem.run_pure, Result.andThen_ok, List.map_toArray, List.map_cons, List.map_nil, hx, hy, hrun]
theorem RdrAt.below {w w' : World} {g : Nat} {A : Option Addr} {l : List UInt8} {c : Nat} {bad : Bool} (h : RdrAt w g A l c bad) (hb : Below w.heap.size w w') : RdrAt w' g A l c bad := ⟨h.blk.below' hb, h.rd.below hb, h.cap, h.ap⟩
theorem RdrAt.grew {w w' : World} {g : Nat} {A : Option Addr} {l : List UInt8} {c : Nat} {bad : Bool} {v v' : Value} (h : RdrAt w g A l c bad) (hg : Grew w w' v v') (hv : ∀ k, v.ownBlock = some k → g < k) : RdrAt w' g A l c bad :=
  ⟨h.blk.grown hg.grown fun e => by have := hv g e.symm; omega, h.rd.grew hg fun ad e e2 => by have := hv _ e2; have := h.ap ad e; omega, h.cap, h.ap⟩
theorem But.below_of {g : Nat} {w w' : World} (h : But g w w') (hg : g ≤ w.heap.size) : Below g w w' := ⟨h.os, h.tape, h.output, h.size, fun k hk => h.block k (by omega) (by omega)⟩
end Go.Proofs.Ytadgaphgomagkaa
