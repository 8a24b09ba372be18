/- Both devices and the power: each act. -/
import Derived.Test.YtadgaphgomagkaaRf
namespace Go.Proofs.Ytadgaphgomagkaa
open Go.RowKit
set_option maxHeartbeats 1000000
set_option maxRecDepth 100000

/-- the law's own act stays -/
def KeepA (w w1 : World) : Prop := ∀ X cs, Blk w X 38 cs → Blk w1 X 38 cs
theorem KeepA.below {w w1 : World} (h : Below w.heap.size w w1) : KeepA w w1 := fun _ _ hb => hb.below' h
/-- the device is ahead of the reference -/
structure Mid2 (w0 w : World) (B D P R G : Nat) (kept : List UInt8) (L : List (Nat × UInt8)) (kept' : List UInt8) (L' : List (Nat × UInt8)) (off : Bool) (armed : Nat) (picks : List Int) (i : Nat) : Prop where
  nv : ∃ m, m ≤ i ∧ NvP w B D P G kept' L' off armed picks m
  rf : RfS w B R G kept L
  lt : ∀ p ∈ L, p.1 < kept.length
  few : L.length ≤ 4096 * i
  few' : L'.length ≤ 4096 * i
  bel : Below B w0 w
  len : kept.length ≤ 4096
  len' : kept'.length ≤ 4096
  arm : armed ≤ 9223372036854775807
section
variable {w0 w w1 : World} {B D P R G i : Nat} {kept kept' : List UInt8} {L L' : List (Nat × UInt8)} {off : Bool} {armed : Nat} {picks : List Int}
theorem tp_on (h : TwoP w0 w B D P R G kept L off armed picks 0 i) : Calls Try.prog 28 #[.pointer (some ⟨P, 0, none⟩)] w fun e w' => e = .returned (.tuple #[]) ∧ TwoP w0 w' B D P R G kept L false armed picks 0 (i + 1) ∧ KeepA w w' := by
  obtain ⟨m, hm, hn⟩ := h.nv
  refine (p_on hn).mono ?_
  rintro e w' ⟨rfl, k1, k2⟩
  exact ⟨rfl, ⟨⟨m, by omega, k1⟩, h.rf.keepN hn.hasG k2, by have := h.few; omega, k2.after h.bel hn.base, h.len, h.arm⟩, fun X cs hb => blk_keepN hb hn.hasG k2⟩
theorem tp_arm (h : TwoP w0 w B D P R G kept L off armed picks 0 i) (n : Int) (hn2 : n ≤ 9223372036854775807) (A : Option Addr) (c : Nat) (l : List Int) (hr : Rd w A (ints l)) (hl : l.length ≤ 2000000) (hk : ∀ x ∈ l, x ≤ 9223372036854775807) :
    Calls Try.prog 27 #[.pointer (some ⟨P, 0, none⟩), .int .i64 n, .slice A l.length c] w fun e w' => e = .returned (.tuple #[]) ∧ TwoP w0 w' B D P R G kept L off (max n 1).toNat l 0 (i + 1) ∧ KeepA w w' := by
  obtain ⟨m, hm, hn⟩ := h.nv
  refine (p_arm hn n A c l hr hl hk).mono ?_
  rintro e w' ⟨rfl, k1, k2⟩
  exact ⟨rfl, ⟨⟨m, by omega, k1⟩, h.rf.keepN hn.hasG k2, by have := h.few; omega, k2.after h.bel hn.base, h.len, by omega⟩, fun X cs hb => blk_keepN hb hn.hasG k2⟩
theorem tp_dcut (h : TwoP w0 w B D P R G kept L off armed picks 0 i) (hi : i ≤ 400) (A : Option Addr) (c : Nat) (p : List Int) (hp : Rd w A (ints p)) (hpx : ∀ x ∈ p, x ≤ 9223372036854775807) :
    Calls Try.prog 24 #[.pointer (some ⟨D, 0, none⟩), .slice A p.length c] w fun e w' => e = .returned (.tuple #[]) ∧ Mid2 w0 w' B D P R G kept L (app kept (L.take (keptW p L.length))) [] off armed picks i ∧ KeepA w w' := by
  obtain ⟨m, hm, hn⟩ := h.nv
  refine (p_cut hn (by have := h.few; omega) A c p hp hpx).mono ?_
  rintro e w' ⟨rfl, k1, k2⟩
  exact ⟨rfl, ⟨⟨m, by omega, k1⟩, h.rf.keepN hn.hasG k2, hn.lt, h.few, by simp, k2.after h.bel hn.base, h.len, by rw [app_length]; exact h.len, h.arm⟩, fun X cs hb => blk_keepN hb hn.hasG k2⟩
theorem mid_rcut {p : List Int} (h : Mid2 w0 w B D P R G kept L (app kept (L.take (keptW p L.length))) [] off armed picks i) (hi : i ≤ 400) (A : Option Addr) (c : Nat) (hp : Rd w A (ints p)) (hpx : ∀ x ∈ p, x ≤ 9223372036854775807) :
    Calls Try.prog 26 #[.pointer (some ⟨R, 0, none⟩), .slice A p.length c] w fun e w' => e = .returned (.tuple #[]) ∧ TwoP w0 w' B D P R G (app kept (L.take (keptW p L.length))) [] off armed picks 0 (i + 1) ∧ KeepA w w' := by
  obtain ⟨kA, kc, lA, lc, hr⟩ := h.rf
  obtain ⟨m, hm, hn⟩ := h.nv
  refine (refCut_ok _ B R G kept L kA kc lA lc hr (by have := h.len; omega) h.lt (by have := h.few; omega) hn.hasG.lt A c p hp hpx).mono ?_
  rintro e w' ⟨rfl, ⟨kA', kc', k1⟩, k2⟩
  exact ⟨rfl, ⟨⟨m, by omega, hn.keepR k2⟩, ⟨kA', kc', none, 0, k1⟩, by simp, k2.after h.bel hn.base, h.len', h.arm⟩, fun X cs hb => blk_keepR hb k2⟩
theorem tp_persist_off (h : TwoP w0 w B D P R G kept L true armed picks 0 i) :
    Calls Try.prog 21 #[.pointer (some ⟨D, 0, none⟩)] w fun e w' => e = .returned (.int .i64 8) ∧ w = w' := by
  obtain ⟨m, hm, hn⟩ := h.nv
  exact p_persist_off hn
theorem tp_persist (h : TwoP w0 w B D P R G kept L false armed picks 0 i) (ha : armed ≠ 1) (hi : i ≤ 400) :
    Calls Try.prog 21 #[.pointer (some ⟨D, 0, none⟩)] w fun e w' => e = .returned (.int .i64 0) ∧ Mid2 w0 w' B D P R G kept L (app kept L) [] false (armed - 1) picks (i + 1) ∧ KeepA w w' := by
  obtain ⟨m, hm, hn⟩ := h.nv
  have harm := h.arm
  refine (p_persist hn ha harm (by omega)).mono ?_
  rintro e w' ⟨rfl, k1, k2⟩
  exact ⟨rfl, ⟨⟨m + 1, by omega, k1⟩, h.rf.keepN hn.hasG k2, hn.lt, by have := h.few; omega, by simp, k2.after h.bel hn.base, h.len, by rw [app_length]; exact h.len, by omega⟩, fun X cs hb => blk_keepN hb hn.hasG k2⟩
theorem mid_rpersist (h : Mid2 w0 w B D P R G kept L (app kept L) [] off armed picks i) (hi : i ≤ 401) :
    Calls Try.prog 22 #[.pointer (some ⟨R, 0, none⟩)] w fun e w' => e = .returned (.tuple #[]) ∧ TwoP w0 w' B D P R G (app kept L) [] off armed picks 0 i ∧ KeepA w w' := by
  obtain ⟨kA, kc, lA, lc, hr⟩ := h.rf
  obtain ⟨m, hm, hn⟩ := h.nv
  refine (refPersist_ok _ B R G kept L kA kc lA lc hr (by have := h.len; omega) h.lt (by have := h.few; omega) hn.hasG.lt).mono ?_
  rintro e w' ⟨rfl, ⟨kA', kc', k1⟩, k2⟩
  exact ⟨rfl, ⟨⟨m, by omega, hn.keepR k2⟩, ⟨kA', kc', none, 0, k1⟩, by simp, k2.after h.bel hn.base, h.len', h.arm⟩, fun X cs hb => blk_keepR hb k2⟩
theorem dn_persist (hn : ∃ m, m ≤ i ∧ NvP w B D P G kept L false 1 picks m) (hr : RfS w B R G (app kept (L.take (keptW picks L.length))) []) (hb : Below B w0 w) (hf : L.length ≤ 4096 * i) (hi : i ≤ 400) (hl : kept.length ≤ 4096) :
    Calls Try.prog 21 #[.pointer (some ⟨D, 0, none⟩)] w fun e w' => e = .returned (.int .i64 8) ∧ TwoP w0 w' B D P R G (app kept (L.take (keptW picks L.length))) [] true 0 picks 0 (i + 1) ∧ KeepA w w' := by
  obtain ⟨m, hm, hn⟩ := hn
  refine (p_persist_down hn (by omega)).mono ?_
  rintro e w' ⟨rfl, k1, k2⟩
  exact ⟨rfl, ⟨⟨m, by omega, k1⟩, hr.keepN hn.hasG k2, by simp, k2.after hb hn.base, by rw [app_length]; exact hl, by omega⟩, fun X cs hb => blk_keepN hb hn.hasG k2⟩
theorem flat_two (A A' : Option Addr) (c c' : Nat) (l : List UInt8) (h : Nat) : flat [(⟨A, c, l.take h⟩ : Sb), ⟨A', c', l.drop h⟩] = l := by simp [flat]
theorem dn_write (hn : ∃ m, m ≤ i ∧ NvP w B D P G kept L false 1 picks m) (hr : RfS w B R G (app kept (L.take (keptW picks L.length))) []) (hb : Below B w0 w) (hf : L.length ≤ 4096 * i) (hi : i ≤ 400) (hl : kept.length ≤ 4096) (hW : Below w.heap.size w w1) (a : Int) (A : Option Addr) (ps : List Sb) (hrd : Rd w1 A (ps.map Sb.val)) (hpl : ps.length = 2) (hok : ∀ s ∈ ps, s.ok w1) (hfl : (flat ps).length ≤ 2000000000) (hfit : fitsB kept.length a ((flat ps).length : Nat) = true) :
    Calls Try.prog 19 #[.pointer (some ⟨D, 0, none⟩), .int .i64 a, .slice A 2 2] w1 fun e w' => e = .returned (.int .i64 8) ∧ TwoP w0 w' B D P R G (app kept (L.take (keptW picks L.length))) [] true 0 picks 0 (i + 1) ∧ KeepA w w' := by
  obtain ⟨m, hm, hn⟩ := hn
  have hn1 := hn.below hW
  have := p_write_down hn1 (by omega) a A 2 ps hrd (by omega) hok hfl hfit
  rw [hpl] at this
  refine this.mono ?_
  rintro e w' ⟨rfl, k1, k2⟩
  exact ⟨rfl, ⟨⟨m, by omega, k1⟩, (hr.below hW).keepN hn1.hasG k2, by simp, k2.after (hb.trans (hW.mono hn.base)) hn1.base, by rw [app_length]; exact hl, by omega⟩, fun X cs hb => blk_keepN (hb.below' hW) hn1.hasG k2⟩
theorem tp_write_off (h : TwoP w0 w B D P R G kept L true armed picks 0 i) (hW : Below w.heap.size w w1) (a : Int) (A : Option Addr) (ps : List Sb) (hrd : Rd w1 A (ps.map Sb.val)) (hpl : ps.length = 2) (hok : ∀ s ∈ ps, s.ok w1) (hfl : (flat ps).length ≤ 2000000000) :
    Calls Try.prog 19 #[.pointer (some ⟨D, 0, none⟩), .int .i64 a, .slice A 2 2] w1 fun e w' => e = .returned (.int .i64 8) ∧ TwoP w0 w' B D P R G kept L true armed picks 0 (i + 1) ∧ KeepA w w' := by
  have h1 := h.below hW
  obtain ⟨m, hm, hn⟩ := h1.nv
  have := p_write_off hn a A 2 ps hrd (by omega) hok hfl
  rw [hpl] at this
  refine this.mono ?_
  rintro e w' ⟨rfl, k1⟩
  exact ⟨rfl, (h1.below k1).next, KeepA.below (hW.trans (k1.mono hW.size))⟩
theorem tp_write_arg (h : TwoP w0 w B D P R G kept L false armed picks 0 i) (hW : Below w.heap.size w w1) (a : Int) (A : Option Addr) (ps : List Sb) (hrd : Rd w1 A (ps.map Sb.val)) (hpl : ps.length = 2) (hok : ∀ s ∈ ps, s.ok w1) (hfl : (flat ps).length ≤ 2000000000) (hfit : fitsB kept.length a ((flat ps).length : Nat) = false) :
    Calls Try.prog 19 #[.pointer (some ⟨D, 0, none⟩), .int .i64 a, .slice A 2 2] w1 fun e w' => e = .returned (.int .i64 1) ∧ TwoP w0 w' B D P R G kept L false armed picks 0 (i + 1) ∧ KeepA w w' := by
  have h1 := h.below hW
  obtain ⟨m, hm, hn⟩ := h1.nv
  have := p_write_arg hn a A 2 ps hrd (by omega) hok hfl hfit
  rw [hpl] at this
  refine this.mono ?_
  rintro e w' ⟨rfl, k1⟩
  exact ⟨rfl, (h1.below k1).next, KeepA.below (hW.trans (k1.mono hW.size))⟩
theorem fits_nat {z : Nat} {a : Int} {n : Nat} (h : fitsB z a (n : Nat) = true) : ∃ b : Nat, a = (b : Int) ∧ b + n ≤ z := by
  unfold fitsB at h
  simp at h
  exact ⟨a.toNat, by omega, by omega⟩
theorem tp_write (h : TwoP w0 w B D P R G kept L false armed picks 0 i) (ha : armed ≠ 1) (hi : i ≤ 400) (hW : Below w.heap.size w w1) (a : Nat) (A : Option Addr) (ps : List Sb) (hrd : Rd w1 A (ps.map Sb.val)) (hpl : ps.length = 2) (hok : ∀ s ∈ ps, s.ok w1) (hfit : a + (flat ps).length ≤ kept.length) :
    Calls Try.prog 19 #[.pointer (some ⟨D, 0, none⟩), .int .i64 (a : Nat), .slice A 2 2] w1 fun e w' => e = .returned (.int .i64 0) ∧ Mid2 w0 w' B D P R G kept L kept (L ++ puts a (flat ps)) false (armed - 1) picks (i + 1) ∧ KeepA w w' := by
  have h1 := h.below hW
  obtain ⟨m, hm, hn⟩ := h1.nv
  have harm := h.arm
  have hle := h.len
  have hfw := h.few
  have := p_write hn ha harm (by omega) a A 2 ps hrd (by omega) hok hfit (by omega)
  rw [hpl] at this
  refine this.mono ?_
  rintro e w' ⟨rfl, k1, k2⟩
  exact ⟨rfl, ⟨⟨m + 1, by omega, k1⟩, h1.rf.keepN hn.hasG k2, hn.lt, by omega, by rw [List.length_append, puts_length]; omega, k2.after h1.bel hn.base, hle, hle, by omega⟩, fun X cs hb => blk_keepN (hb.below' hW) hn.hasG k2⟩
theorem mid_rwrite {a : Nat} {l : List UInt8} (h : Mid2 w0 w B D P R G kept L kept (L ++ puts a l) off armed picks i) (hi : i ≤ 401) (A : Option Addr) (c : Nat) (hl : Rd w A (byts l)) (hA : l ≠ [] → ∀ ad, A = some ad → ad.block < B) (hfit : a + l.length ≤ kept.length) :
    Calls Try.prog 20 #[.pointer (some ⟨R, 0, none⟩), .int .i64 (a : Nat), .slice A l.length c] w fun e w' => e = .returned (.tuple #[]) ∧ TwoP w0 w' B D P R G kept (L ++ puts a l) off armed picks 0 i ∧ KeepA w w' := by
  obtain ⟨kA, kc, lA, lc, hr⟩ := h.rf
  obtain ⟨m, hm, hn⟩ := h.nv
  have hle := h.len
  have hfw := h.few
  refine (refWrite_ok _ B R G kept L kA kc lA lc hr hn.base a A c l hl hA (by omega) (by omega)).mono ?_
  rintro e w' ⟨rfl, ⟨lA', lc', k1⟩, k2⟩
  exact ⟨rfl, ⟨⟨m, by omega, hn.keepR k2⟩, ⟨kA, kc, lA', lc', k1⟩, h.few', k2.after h.bel hn.base, hle, h.arm⟩, fun X cs hb => blk_keepR hb k2⟩
end
def actCells (x : NAct) : Array Value := #[.int .i64 x.op, .int .i64 x.at_, .int .i64 x.n, .slice x.A x.l.length x.c, .slice x.pA x.p.length x.pc]
/-- behind an act: both devices are one again -/
def RPost (w w0 wx : World) (D R G z X : Nat) (x : NAct) (k wv : Nat) (s14 s15 s16 s20 : Value) : Prop :=
  ∃ (kept : List UInt8) (L : List (Nat × UInt8)) (off : Bool) (armed : Nat) (picks : List Int) (qA : Option Addr) (qc g : Nat), s14 = .int .i64 (armed : Nat) ∧ s15 = .slice qA picks.length qc ∧ s16 = .bool off ∧ s20 = .int .i64 (g : Nat) ∧ kept.length = z ∧
    TwoP w0 wx w0.heap.size D w0.heap.size R G kept L off armed picks 0 (k + 1) ∧ Rd w qA (ints picks) ∧ (∀ y ∈ picks, y ≤ 9223372036854775807) ∧ picks.length ≤ 2000000 ∧ Blk wx X 38 (actCells x) ∧ g = (if 2 < x.op ∨ x.op < 1 then 0 else wv)
/-- behind the device's write: refused or cut (both are one), or the device ahead -/
def D34 (w0 wx : World) (D R G z : Nat) (x : NAct) (kept : List UInt8) (L : List (Nat × UInt8)) (picks : List Int) (k wv a2 : Nat) (o2 : Bool) : Prop :=
  (wv ≠ 0 ∧ ∃ kept' L', kept'.length = z ∧ TwoP w0 wx w0.heap.size D w0.heap.size R G kept' L' o2 a2 picks 0 (k + 1)) ∨
  (wv = 0 ∧ o2 = false ∧ ∃ b : Nat, x.at_ = (b : Int) ∧ b + x.l.length ≤ z ∧ Mid2 w0 wx w0.heap.size D w0.heap.size R G kept L kept (L ++ puts b x.l) false a2 picks (k + 1))
theorem op_write {w0 w6 w1 : World} {D R G z X k armed wa wv a2 : Nat} {x : NAct} {kept : List UInt8} {L : List (Nat × UInt8)} {off o2 fb : Bool} {picks : List Int} (hE : EPost w0 w6 w0.heap.size D w0.heap.size R G z X kept L off armed picks k x.op wa wv a2 o2) (ho : x.op = 1) (hwa : wantA off x.op fb = wa) (hfb : fitsB z x.at_ (x.l.length : Nat) = fb) (hkl : kept.length = z) (hk : k ≤ 300) (hfew : L.length ≤ 4096 * k) (hlen : kept.length ≤ 4096)
    (hW : Below w6.heap.size w6 w1) (A : Option Addr) (ps : List Sb) (hrd : Rd w1 A (ps.map Sb.val)) (hpl : ps.length = 2) (hok : ∀ s ∈ ps, s.ok w1) (hflat : flat ps = x.l) (hxl : x.l.length ≤ 2000000) :
    Calls Try.prog 19 #[.pointer (some ⟨D, 0, none⟩), .int .i64 x.at_, .slice A 2 2] w1 fun e wx => e = .returned (.int .i64 (wv : Nat)) ∧ D34 w0 wx D R G z x kept L picks k wv a2 o2 ∧ KeepA w6 wx := by
  have hfl : (flat ps).length ≤ 2000000000 := by rw [hflat]; omega
  have hfit : fitsB kept.length x.at_ ((flat ps).length : Nat) = fb := by rw [hflat, hkl]; exact hfb
  have hab : armB x.op wa armed = decide (wa = 0 ∧ 0 < armed) := by unfold armB; simp [ho]
  rcases hE with ⟨h0, ha1, rfl, rfl, rfl, hof, hnv, hrf, hbl⟩ | ⟨hne, rfl, ha2, rfl, hT⟩
  · have hw0 : wa = 0 := by rw [hab] at h0; simp at h0; exact h0.1
    have hft : fb = true := by
      rw [hw0, hof] at hwa
      cases fb
      · simp [wantA, ho] at hwa
      · rfl
    subst hft
    refine (dn_write hnv hrf hbl hfew (by omega) hlen hW x.at_ A ps hrd hpl hok hfl hfit).mono ?_
    rintro e w' ⟨rfl, k1, k2⟩
    exact ⟨rfl, .inl ⟨by omega, _, _, by rw [app_length]; exact hkl, k1⟩, k2⟩
  · cases o2
    · cases fb
      · have hw1 : wv = 1 := by rw [← hwa]; simp [wantA, ho]
        have ha3 : a2 = armed := by rw [ha2, hab]; simp [hw1]
        subst hw1 ha3
        refine (tp_write_arg hT hW x.at_ A ps hrd hpl hok hfl hfit).mono ?_
        rintro e w' ⟨rfl, k1, k2⟩
        exact ⟨rfl, .inl ⟨by omega, _, _, hkl, k1⟩, k2⟩
      · have hw0 : wv = 0 := by rw [← hwa]; simp [wantA]
        subst hw0
        have hna : armed ≠ 1 := by
          intro h1
          subst h1
          exact hne (by rw [hab]; simp) rfl
        have ha3 : a2 = armed - 1 := by
          rw [ha2, hab]
          split
          · rfl
          · rename_i h
            simp at h
            omega
        subst ha3
        obtain ⟨b, hb, hbz⟩ := fits_nat hfb
        rw [hb]
        refine (tp_write hT hna (by omega) hW b A ps hrd hpl hok (by rw [hflat]; omega)).mono ?_
        rintro e w' ⟨rfl, k1, k2⟩
        rw [hflat] at k1
        exact ⟨rfl, .inr ⟨rfl, rfl, b, hb, hbz, k1⟩, k2⟩
    · have hw8 : wv = 8 := by rw [← hwa]; rfl
      have ha3 : a2 = armed := by rw [ha2, hab]; simp [hw8]
      subst hw8 ha3
      refine (tp_write_off hT hW x.at_ A ps hrd hpl hok hfl).mono ?_
      rintro e w' ⟨rfl, k1, k2⟩
      exact ⟨rfl, .inl ⟨by omega, _, _, hkl, k1⟩, k2⟩
end Go.Proofs.Ytadgaphgomagkaa
