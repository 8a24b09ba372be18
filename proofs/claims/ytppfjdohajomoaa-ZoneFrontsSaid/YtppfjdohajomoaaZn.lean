/- Drives on a power, looked at as values: the words. -/
import Derived.Test.YtppfjdohajomoaaZm
namespace Go.Proofs.Ytppfjdohajomoaa
open Go.RowKit
set_option maxHeartbeats 4000000
set_option maxRecDepth 100000

/-- a drive, a power as values -/
structure DV where
  D : Nat
  pages : Nat
  size : Nat
  lost : Bool
  zs : List (List (List UInt8) × Nat)
structure St where
  off : Bool
  armed : Nat
  picks : List Int
  writes : Nat
  ds : List DV
def ZS.vw (z : ZS) : List (List UInt8) × Nat := (z.pg.map Sb.l, z.fl)
def Dr.vw (d : Dr) : DV := ⟨d.D, d.pages, d.size, d.lost, d.zs.map ZS.vw⟩
def cutP : List Int → List (List (List UInt8) × Nat) → List (List (List UInt8) × Nat)
  | _, [] => []
  | p, z :: r => if z.1.length = z.2 then z :: cutP p r else (z.1.take (z.2 + keptN p (z.1.length - z.2)), z.2 + keptN p (z.1.length - z.2)) :: cutP p.tail r
theorem cutP_vw : ∀ (p : List Int) (zs : List ZS), (cutS p zs).map ZS.vw = cutP p (zs.map ZS.vw)
  | p, [] => by cases p <;> simp [cutS, cutP]
  | p, z :: r => by
    rw [cutS, List.map_cons, cutP]
    have e : z.vw.1.length = z.pg.length := by simp [ZS.vw]
    have e2 : z.vw.2 = z.fl := rfl
    rw [e, e2]
    split
    · rw [List.map_cons, cutP_vw p r]
    · rw [List.map_cons, cutP_vw p.tail r]
      congr 1
      simp [cutz, ZS.vw, List.map_take]
def DV.cut (p : List Int) (d : DV) : DV := { d with zs := cutP p d.zs }
def St.cut (s : St) : St := { s with off := true, armed := 0, ds := s.ds.map (DV.cut s.picks) }
def St.wrote (s : St) : St := { s with armed := s.armed - 1, writes := s.writes + 1 }
theorem cutDs_vw (p : List Int) (ds : List Dr) : (cutDs p ds ds.length).map Dr.vw = (ds.map Dr.vw).map (DV.cut p) := by
  simp only [cutDs, List.take_length, List.drop_length, List.append_nil, List.map_map]
  apply List.map_congr_left
  intro d _
  simp only [Function.comp, cutD, Dr.vw, DV.cut, cutP_vw]

/-- types of the blocks that drives turn -/
def TT (t : TypeId) : Prop := t = 144 ∨ t = 172 ∨ t = 147 ∨ t = 154 ∨ t = 38
def SX (w : World) (k : Nat) : Prop := ∃ t, TT t ∧ Has w k t
/-- a turn of drives: other blocks stay -/
def ChgT (B : Nat) (w w' : World) : Prop := Chg (fun k => B ≤ k ∧ SX w k) w w'
section
variable {B : Nat} {w w1 w2 : World}
theorem ChgT.refl (B : Nat) (w : World) : ChgT B w w := Chg.refl _ _
theorem ChgT.of {S : Nat → Prop} (h : Chg S w w1) (hS : ∀ k, k < w.heap.size → S k → B ≤ k ∧ SX w k) : ChgT B w w1 := h.mono hS
theorem ChgT.of_below (h : Below w.heap.size w w1) : ChgT B w w1 := Chg.of_below h
theorem ChgT.trans (h : ChgT B w w1) (k : ChgT B w1 w2) : ChgT B w w2 := by
  refine ⟨k.os.trans h.os, k.tape.trans h.tape, k.output.trans h.output, Nat.le_trans h.size k.size, fun i hi h1 => ?_⟩
  have e := h.block i hi h1
  refine (k.block i (Nat.lt_of_lt_of_le hi h.size) ?_).trans e
  rintro ⟨hb, t, ht, cs, fr, e2⟩
  exact h1 ⟨hb, t, ht, cs, fr, by rw [← e]; exact e2⟩
theorem ChgT.below (h : ChgT B w w1) (k : Below w1.heap.size w1 w2) : ChgT B w w2 := h.trans (.of_below k)
theorem ChgT.alloc (h : ChgT B w w1) (o : Obj) : ChgT B w (w1.alloc o) := h.below ((Below.refl _ _).alloc (Nat.le_refl _) o)
theorem ChgT.drew (h : ChgT B w w1) : ChgT B w w1.drew := h.below (Below.refl _ _).drew
theorem ChgT.drewN (h : ChgT B w w1) (n : Nat) : ChgT B w (w1.drewN n) := h.below (below_drewN (Below.refl _ _) n)
theorem ChgT.after {w0 : World} (h : ChgT B w w1) (hb : Below B w0 w) (hB : B ≤ w.heap.size) : Below B w0 w1 := Chg.toBelow h hb (fun _ hk => hk.1) hB
theorem SX.not {k : Nat} {t : TypeId} (h : Has w k t) (ht : ¬ TT t) : ¬ (B ≤ k ∧ SX w k) := by
  rintro ⟨_, t', h', hh⟩
  exact (h.ne hh fun e => ht (by rw [e]; exact h')) rfl
theorem Has.keepX {k : Nat} {t : TypeId} (h : Has w k t) (hc : ChgT B w w1) (ht : ¬ TT t) : Has w1 k t := h.keep hc (SX.not h ht)
theorem Blk.keepX {k : Nat} {t : TypeId} {cs : Array Value} (h : Blk w k t cs) (hc : ChgT B w w1) (ht : ¬ TT t) : Blk w1 k t cs := Blk.keep h hc (SX.not h.has ht)
theorem Rd.keepX {t : TypeId} {A : Option Addr} {xs : List Value} (h : Rd w A xs) (hA : ∀ ad, A = some ad → Has w ad.block t) (hc : ChgT B w w1) (ht : ¬ TT t) : Rd w1 A xs := h.keepC hc fun ad e => SX.not (hA ad e) ht
theorem PgOk.keepX {s : Sb} (h : PgOk w s) (hc : ChgT B w w1) : PgOk w1 s := h.keep hc fun k ⟨_, t, ht, hh⟩ h8 => by
  refine (hh.ne h8 (fun e => ?_)) rfl
  subst e
  rcases ht with e | e | e | e | e <;> exact absurd e (by decide)
theorem own_keepX {base : Nat} {e : TypeId} {size n : Nat} {v : Value} {xs : List Value} (h : w.ownsRow base e size v n xs) (hc : ChgT B w w1) (ht : ¬ TT e) : w1.ownsRow base e size v n xs := by
  refine own_keepC h hc fun g hg => ?_
  rcases h.2 with ⟨h0, _⟩ | ⟨g', cap, cur, h0, hg1, hg2, _⟩
  · rw [h0] at hg; simp [Value.ownBlock] at hg
  · rw [h0] at hg
    simp [Value.ownBlock] at hg
    subst hg
    exact SX.not (t := e) ⟨_, _, hg2⟩ ht
end

section
variable {w w1 : World} {B P : Nat} {off : Bool} {armed : Nat} {picks : List Int} {writes : Nat} {ds : List Dr} {vA : Option Addr} {vc : Nat}
theorem Sys.footP (h : Sys w B P off armed picks writes ds vA vc) : B ≤ P ∧ SX w P := by
  obtain ⟨pA, pc, h1, _⟩ := h.pw
  exact ⟨h.low, _, .inl rfl, h1.blk.has⟩
theorem Sys.footA (h : Sys w B P off armed picks writes ds vA vc) : ∀ ad, vA = some ad → B ≤ ad.block ∧ SX w ad.block := fun ad e => ⟨(h.has ad e).1, _, .inr (.inl rfl), (h.has ad e).2⟩
theorem Sys.footD (h : Sys w B P off armed picks writes ds vA vc) {d : Dr} (hd : d ∈ ds) : ∀ k, d.S k → B ≤ k ∧ SX w k := fun k hk => by
  obtain ⟨_, t, ht, hh⟩ := Dr.has (h.drv d hd) k hk
  refine ⟨?_, t, .inr (.inr (by rcases ht with e | e | e <;> simp [e])), hh⟩
  rcases hk with rfl | rfl | ⟨z, hz, ad, hA, rfl⟩
  · exact (h.drv d hd).low.1
  · exact (h.drv d hd).low.2
  · obtain ⟨i, hi, rfl⟩ := List.getElem_of_mem hz
    exact (((h.drv d hd).rows i hi).has ad hA).1

structure St.ok (s : St) : Prop where
  armed : s.armed ≤ 9223372036854775807
  picks : s.picks.length ≤ 1000000
  size : ∀ d ∈ s.ds, 0 < d.size ∧ d.size ≤ 65536
/-- the blocks of pages -/
def Pg (ds : List Dr) (k : Nat) : Prop := ∃ d ∈ ds, ∃ z ∈ d.zs, ∃ sb ∈ z.pg, ∃ ad, sb.A = some ad ∧ k = ad.block
/-- a power with drives is the value s; its pages lie in F -/
def Pow (w : World) (B P : Nat) (s : St) (F : Nat → Prop) : Prop := ∃ ds vA vc, Sys w B P s.off s.armed s.picks s.writes ds vA vc ∧ ds.map Dr.vw = s.ds ∧ B ≤ w.heap.size ∧ s.ok ∧ ∀ k, Pg ds k → F k
/-- F and what is new -/
def FN (F : Nat → Prop) (w w' : World) (k : Nat) : Prop := F k ∨ (w.heap.size ≤ k ∧ k < w'.heap.size)
theorem Pow.mono {s : St} {F F' : Nat → Prop} (h : Pow w B P s F) (hF : ∀ k, F k → F' k) : Pow w B P s F' := by
  obtain ⟨ds, vA, vc, h1, h2, h3, h4, h5⟩ := h
  exact ⟨ds, vA, vc, h1, h2, h3, h4, fun k hk => hF k (h5 k hk)⟩
theorem Pow.below {s : St} {F : Nat → Prop} (h : Pow w B P s F) (hb : Below w.heap.size w w1) : Pow w1 B P s F := by
  obtain ⟨ds, vA, vc, h1, h2, h3, h4, h5⟩ := h
  exact ⟨ds, vA, vc, h1.below hb, h2, Nat.le_trans h3 hb.size, h4, h5⟩
theorem Pow.alloc {s : St} {F : Nat → Prop} (h : Pow w B P s F) (o : Obj) : Pow (w.alloc o) B P s F := h.below ((Below.refl _ _).alloc (Nat.le_refl _) o)
theorem Pow.drew {s : St} {F : Nat → Prop} (h : Pow w B P s F) : Pow w.drew B P s F := h.below (Below.refl _ _).drew
theorem Pow.drewN {s : St} {F : Nat → Prop} (h : Pow w B P s F) (n : Nat) : Pow (w.drewN n) B P s F := h.below (below_drewN (Below.refl _ _) n)

theorem ZRow.keepN {S : Nat → Prop} {m : Nat} {z : ZS} (h : ZRow w B m z) (hc : Chg S w w1) (hz : ∀ ad, z.A = some ad → ¬ S ad.block) (hS : ∀ sb ∈ z.pg, ∀ ad, sb.A = some ad → ¬ S ad.block) : ZRow w1 B m z := by
  refine ⟨?_, fun ad e => ⟨(h.has ad e).1, (h.has ad e).2.keep hc (hz ad e)⟩, fun s hs => ?_, h.few, h.fl⟩
  · exact h.row.keepC hc hz
  · obtain ⟨h1, h2, h3⟩ := h.pages s hs
    have hn := hS s hs
    exact ⟨h1.keepC hc hn, h2, fun ad e => (h3 ad e).keep hc (hn ad e)⟩
/-- a turn of blocks of other types that are no pages -/
theorem Pow.keep {s : St} {F S : Nat → Prop} (h : Pow w B P s F) (hc : Chg S w w1) (hS : ∀ k, S k → (∃ t, Has w k t ∧ ¬ TT t ∧ t ≠ 3) ∧ ¬ F k) : Pow w1 B P s F := by
  obtain ⟨ds, vA, vc, h1, h2, h3, h4, h5⟩ := h
  have no : ∀ k t, Has w k t → (TT t ∨ t = 3) → ¬ S k := by
    intro k t ht hT hs
    obtain ⟨⟨t', ht', n1, n2⟩, _⟩ := hS k hs
    refine (ht.ne ht' (fun e => ?_)) rfl
    subst e
    rcases hT with e | e
    · exact n1 e
    · exact n2 e
  obtain ⟨pA, pc, p1, p2, p3, p4⟩ := h1.pw
  have nD : ∀ d ∈ ds, ∀ k, d.S k → ¬ S k := fun d hd k hk => by
    obtain ⟨_, t, ht, hh⟩ := Dr.has (h1.drv d hd) k hk
    exact no k t hh (.inl (.inr (.inr (by rcases ht with e | e | e <;> simp [e]))))
  refine ⟨ds, vA, vc, ⟨⟨pA, pc, ⟨p1.blk.keep hc (no _ _ p1.blk.has (.inl (.inl rfl)))⟩, p2.keepC hc fun ad e => no _ _ (p4 ad e) (.inr rfl), p3, fun ad e => (p4 ad e).keep hc (no _ _ (p4 ad e) (.inr rfl))⟩, h1.low, h1.row.keepC hc fun ad e => no _ _ (h1.has ad e).2 (.inl (.inr (.inl rfl))),
    fun ad e => ⟨(h1.has ad e).1, (h1.has ad e).2.keep hc (no _ _ (h1.has ad e).2 (.inl (.inr (.inl rfl))))⟩, fun d hd => ?_, h1.apart, h1.few, h1.pks⟩, h2, Nat.le_trans h3 hc.size, h4, h5⟩
  have hd1 : DrAt w B d.D d.Z P d.pages d.size d.lost d.zs := h1.drv d hd
  refine ⟨hd1.drv.keep hc (nD d hd _ (.inl rfl)), hd1.zon.keep hc (nD d hd _ (.inr (.inl rfl))), hd1.low, hd1.most, fun i hi => ?_, hd1.apart⟩
  refine (hd1.rows i hi).keepN hc (fun ad e => nD d hd _ (.inr (.inr ⟨_, List.getElem_mem hi, ad, e, rfl⟩))) fun sb hsb ad e hs => ?_
  exact (hS _ hs).2 (h5 _ ⟨d, hd, _, List.getElem_mem hi, sb, hsb, ad, e, rfl⟩)
end
end Go.Proofs.Ytppfjdohajomoaa
