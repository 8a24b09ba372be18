/- The abstract array: blocks written. -/
import Derived.Test.YthhpcilinkebeaaDoorHy
import Derived.Test.YthhpcilinkebeaaDoorHw
namespace Go.Proofs.YthhpcilinkebeaaDoor
open Go.RowKit Go.Maps
set_option maxHeartbeats 4000000
set_option maxRecDepth 100000

theorem eqlRow (ad : Addr) (n c : Nat) (W : World) : (binOp .eql 31 (.slice (some ad) n c) (.slice none 0 0)).run Tryd.prog W = .ok (.bool false) W := by kernel_rfl
theorem bytesClone_any (w : World) (A : Option Addr) (c : Nat) (l : Bts) (hr : Rd w A (byts l)) (hne : l ≠ []) (hl : l.length ≤ 1048576) :
    Calls Tryd.prog 73 #[.slice A l.length c] w fun e w' => ∃ A' c', e = .returned (.slice A' l.length c') ∧ w'.ownsRow w.heap.size 5 1 (.slice A' l.length c') l.length (byts l) ∧ Below w.heap.size w w' := by
  obtain ⟨ad, rfl, _, _⟩ := hr (by simpa [byts] using hne)
  have hx := (Below.refl w.heap.size w).alloc (Nat.le_refl _) (.cells #[] 5)
  have ho : (w.alloc (.cells #[] 5)).ownsRow w.heap.size 5 1 (.slice (some ⟨w.heap.size, 0, none⟩) 0 0) 0 (byts []) := own_mk (w := w) 5 (.int .u8 0) 0 0 (Nat.le_refl _) (by unfold maxLen; omega)
  have hr2 := hr.below hx
  have hq := eqlRow ad l.length c w
  go_enter Tryd.func73, Tryd.ntmps73
  go_wp2_with (at_builtin; refine wpList_app _ rfl _ _ rfl slB w.heap.size (.slice (some ⟨w.heap.size, 0, none⟩) 0 0) 0 (byts []) rfl ho (some ad) l.length c (byts l) rfl (by simp [byts]) hr2 (byts_one _) (by unfold maxLen; omega) (by omega) (by simp) ?_; intro A7 c7 w7 ho7 hg7)
  go_ret
  have hb7 := hx.trans (hg7.under ho (Nat.le_refl _) (by simp))
  refine ⟨A7, c7, by simp, ?_, hb7⟩
  simpa [byts] using ho7
theorem putM_same {ms : List VM} (hs : SrtM ms) {m : VM} (h : getM ms m.name = some m) : putM ms m = ms := by
  induction ms with
  | nil => cases h
  | cons x r ih =>
    obtain ⟨h1, h2⟩ := hs.cons
    rw [putM]
    rw [getM] at h
    split at h
    · rename_i e
      injection h with h
      rw [if_pos e.symm, h]
    · rename_i e
      rw [if_neg (fun h => e h.symm)]
      obtain ⟨hm, _⟩ := getM_mem h
      have hlt := h1 m hm
      rw [if_neg (fun h3 => lt_irr _ (List.lt_trans hlt h3)), ih h2 h]
theorem putM_put {ms : List VM} (a b : VM) (h : a.name = b.name) : putM (putM ms a) b = putM ms b := by
  induction ms with
  | nil => show putM [a] b = [b]; rw [putM, if_pos h.symm]
  | cons x r ih =>
    by_cases h1 : b.name = x.name
    · rw [putM, if_pos (h.trans h1), putM, if_pos h.symm, putM, if_pos h1]
    · have h1' : ¬ a.name = x.name := by rw [h]; exact h1
      by_cases h2 : b.name < x.name
      · have h2' : a.name < x.name := by rw [h]; exact h2
        rw [putM, if_neg h1', if_pos h2', putM, if_pos h.symm, putM, if_neg h1, if_pos h2]
      · have h2' : ¬ a.name < x.name := by rw [h]; exact h2
        rw [putM, if_neg h1', if_neg h2', putM, if_neg h1, if_neg h2, ih, putM, if_neg h1, if_neg h2]
/-- a write's blocks in memory -/
def gW (g : Int → Option Sb) (at_ : Int) (ad : Addr) (dc block : Nat) (d : Bts) (k : Nat) (i : Int) : Option Sb :=
  if at_ ≤ i ∧ i < at_ + (k : Int) then some ⟨some (ad.add ((i - at_).toNat * block)), dc - (i - at_).toNat * block, (d.drop ((i - at_).toNat * block)).take block⟩ else g i
theorem gW_zero (g : Int → Option Sb) (at_ : Int) (ad : Addr) (dc block : Nat) (d : Bts) : gW g at_ ad dc block d 0 = g := by
  funext i
  unfold gW
  rw [if_neg (by omega)]
theorem gW_succ (g : Int → Option Sb) (at_ : Int) (ad : Addr) (dc block : Nat) (d : Bts) (k : Nat) :
    gW g at_ ad dc block d (k + 1) = fun j => if j = at_ + (k : Int) then some ⟨some (ad.add (k * block)), dc - k * block, (d.drop (k * block)).take block⟩ else gW g at_ ad dc block d k j := by
  funext j
  unfold gW
  by_cases e : j = at_ + (k : Int)
  · rw [if_pos (by omega), if_pos e]
    have : (j - at_).toNat = k := by omega
    rw [this]
  · rw [if_neg e]
    by_cases h : at_ ≤ j ∧ j < at_ + (k : Int)
    · rw [if_pos h, if_pos (by omega)]
    · rw [if_neg h, if_neg (by omega)]
theorem gW_all {block : Nat} {m : VM} (at_ : Int) (ad : Addr) (dc : Nat) (d : Bts) :
    (fun i => (gW m.g at_ ad dc block d (d.length / block) i).map Sb.l) = layV block m.vv.cells at_ d := by
  funext i
  unfold gW layV VM.vv
  by_cases h : at_ ≤ i ∧ i < at_ + ((d.length / block : Nat) : Int)
  · rw [if_pos h, if_pos h]; rfl
  · rw [if_neg h, if_neg h]
theorem Rd.notMp {w : World} {k : Nat} {A : Option Addr} {xs : List Value} (h : Rd w A xs) (hne : xs ≠ []) (hm : IsMp w k) : ∀ a, A = some a → ¬ a.block = k := by
  intro a ea e
  obtain ⟨ad, e1, _, hc⟩ := h hne
  rw [ea] at e1
  injection e1 with e1
  subst e1
  subst e
  obtain ⟨es, c, hb⟩ := hm
  cases xs with
  | nil => exact hne rfl
  | cons u r =>
    have := hc 0 u rfl
    simp [World.cell?, Addr.add, hb] at this
def mkW (m : VM) (at_ : Int) (ad : Addr) (dc block : Nat) (d : Bts) (k : Nat) : VM := { m with g := gW m.g at_ ad dc block d k }
theorem write_piece {w : World} {ad : Addr} {dc block : Nat} {d : Bts} {p : Nat} (hrd : Rd w (some ad) (byts d)) (hdc : d.length ≤ dc) (hh : Has w ad.block 5) (hb : 1 ≤ block) (hp : p + block ≤ d.length) : PgB w block ⟨some (ad.add p), dc - p, (d.drop p).take block⟩ := by
  refine ⟨?_, by simp; omega, by show block ≤ dc - p; omega, fun a e => by injection e with e; subst e; rw [show (ad.add p).block = ad.block by unfold Addr.add; split <;> rfl]; exact hh⟩
  have := (hrd.drop p dc (by rw [byts_length]; exact hdc)).take block
  rw [if_neg (by omega)] at this
  simpa [byts] using this
theorem write_sliced {ad : Addr} {dc block : Nat} {d : Bts} {p : Nat} (hdc : d.length ≤ dc) (hb : 1 ≤ block) (hp : p + block ≤ d.length) : sliced (some ad) p (p + block) dc 1 = Sb.val ⟨some (ad.add p), dc - p, (d.drop p).take block⟩ := by
  unfold sliced Sb.val
  rw [if_neg (by omega), show p + block - p = block by omega, show ((d.drop p).take block).length = block by simp; omega, Nat.mul_one]
  rfl
section
variable {w : World} {A M block quota : Nat} {ms : List VM}
theorem write_succ {m : VM} {at_ : Int} {ad : Addr} {dc : Nat} {d : Bts} {k p : Nat} (hp : k * block = p)
    (h : ArrAt w A M block quota (putM (putM ms (mkW m at_ ad dc block d k)) { mkW m at_ ad dc block d k with g := fun j => if j = at_ + (k : Int) then some ⟨some (ad.add p), dc - p, (d.drop p).take block⟩ else (mkW m at_ ad dc block d k).g j })) :
    ArrAt w A M block quota (putM ms (mkW m at_ ad dc block d (k + 1))) := by
  subst hp
  rw [putM_put] at h
  · unfold mkW
    rw [gW_succ]
    exact h
  · rfl
theorem write_any (h : ArrAt w A M block quota ms) (o : OM) (hok : o.ok w) {m : VM} (hm : getM ms (strB o.name) = some m) (h0 : 0 ≤ o.at_) (hs : o.at_ + ((o.l.length / block : Nat) : Int) ≤ m.size) (hmod : o.l.length % block = 0) (hne : o.l ≠ []) (hl : o.l.length ≤ 1048576) :
    Calls Tryd.prog 43 #[.pointer (some ⟨A, 0, none⟩), o.val] w fun e w' => e = .returned (.agg zAns) ∧ TurnP w w' A M block quota ms (putV (volsM ms) (strB o.name) { m.vv with cells := layV block m.vv.cells o.at_ o.l }) := by
  have hb0 := (Below.refl w.heap.size w).alloc (Nat.le_refl _) (.cells o.cells.toArray 33)
  have hb1 := hb0.alloc hb0.size (.cells zAns 36)
  have hO := (Blk.new w 33 o.cells.toArray).alloc (.cells zAns 36)
  have hR := Blk.new (w.alloc (.cells o.cells.toArray 33)) 36 zAns
  have h1 := h.below hb1
  have hok1 := hok.below hb1
  obtain ⟨hmem, hnm⟩ := getM_mem hm
  have hf := (h.vol m hmem).few
  have hsz : (w.alloc (.cells o.cells.toArray 33)).heap.size = w.heap.size + 1 := by simp
  rw [hsz] at hR
  have hsz2 : ((w.alloc (.cells o.cells.toArray 33)).alloc (.cells zAns 36)).heap.size = w.heap.size + 2 := by simp
  clear hsz
  have hov : o.val = .agg o.cells.toArray := rfl
  have hblk := h.b1
  have hcl := bytesClone_any _ o.A o.c o.l hok1.rd hne hl
  rw [hov]
  go_enter Tryd.func43, Tryd.ntmps43
  go_upto_region 1 with fail
  change Code.wp _ _ _ _ ((w.alloc (.cells o.cells.toArray 33)).alloc (.cells zAns 36))
  generalize hW : (w.alloc (.cells o.cells.toArray 33)).alloc (.cells zAns 36) = W at *
  have e5 : W.cell? ⟨w.heap.size, 5, none⟩ = some (.slice o.A o.l.length o.c) := hO.cell 5
  go_wp2_with fail
  refine hcl.mono ?_
  rintro e w1 ⟨A', dc, rfl, ho1, hb2⟩
  clear hcl e5
  obtain ⟨ad, rfl, _, _⟩ := (Rd.of_own ho1) (by simpa [byts] using hne)
  have hdc := (FreshB.of_own (w := W) ho1 (Nat.le_refl _)).2.1
  have hdh := ((FreshB.of_own (w := W) ho1 (Nat.le_refl _)).2.2 ad rfl).2
  have hrd := Rd.of_own ho1
  have h2 := h1.below hb2
  have hO2 := hO.below' hb2
  have hok2 := hok1.below hb2
  have hR2 := hR.below' hb2
  have hb02 := hb1.trans (hb2.mono hb1.size)
  clear h1 hO hok1 hR ho1 hb2 hW hb0
  go_wp2_with fail
  go_loopg [6] (o.l.length / block) (fun m' s6 wr => ∃ k : Nat, m' = o.l.length / block - k ∧ k ≤ o.l.length / block ∧ s6 = .int .i64 (k : Nat) ∧ ArrAt wr A M block quota (putM ms (mkW m o.at_ ad dc block o.l k)) ∧ Chg (fun j => j = m.Bm) w1 wr)
  case atStart =>
    refine ⟨0, (Nat.sub_zero _).symm, Nat.zero_le _, rfl, ?_, Chg.refl _ _⟩
    unfold mkW
    rw [gW_zero, show ({ m with g := m.g } : VM) = m from rfl, putM_same h.sorted (getM_of_mem h.sorted hmem)]
    exact h2
  case round =>
    obtain ⟨k, rfl, hkq, rfl, hA, hcl⟩ := hrel
    have hlq : o.l.length = o.l.length / block * block := by
      have := Nat.div_add_mod o.l.length block
      rw [hmod, Nat.mul_comm] at this
      omega
    have hkm : getM (putM ms (mkW m o.at_ ad dc block o.l k)) (strB o.name) = some (mkW m o.at_ ad dc block o.l k) := by
      rw [getM_put _ h.sorted, if_pos (show strB o.name = (mkW m o.at_ ad dc block o.l k).name from hnm.symm)]
    have hBn : ∀ j, j = m.Bm → ¬ Has w1 j 5 := fun j e hh => by
      obtain ⟨n, hn⟩ := (h2.vol m hmem).mp
      exact (e ▸ hh).notMp hn.isMp
    have hok3 : o.ok wr := ⟨hok2.rd.keepC hcl (by
      obtain ⟨n, hn⟩ := (h2.vol m hmem).mp
      exact hok2.rd.notMp (by simpa [byts] using hne) hn.isMp), hok2.cap, hok2.few, hok2.name, hok2.dst, hok2.kind, hok2.at_, hok2.n⟩
    have hOn : ∀ {g t cs}, Blk w1 g t cs → t ≠ 95 → ¬ (g = m.Bm) := fun hg ht e => h2.not hg.has ht (.inr ⟨m, hmem, .inr e⟩)
    have hR3 : Blk wr (w.heap.size + 1) 36 #[.int .i64 0, .slice none 0 0, .slice none 0 0] := hR2.keep hcl (hOn hR2 (by decide))
    have hO3 := hO2.keep hcl (hOn hO2 (by decide))
    have a0 : wr.cell? ⟨A, 0, none⟩ = some (.int .i64 (block : Nat)) := hA.blk.cell 0
    obtain ⟨p, hp⟩ : ∃ p, k * block = p := ⟨_, rfl⟩
    have hple : p ≤ o.l.length := by rw [← hp, hlq]; exact Nat.mul_le_mul_right block hkq
    have kw : IntKind.i64.wrap ((k : Int) * (block : Int)) = (p : Int) := by rw [← Int.natCast_mul, hp, IntWalk.i64_in _ (by omega)]
    have HPP := Lib.hid hp
    have HLQ := Lib.hid hlq
    clear hp
    rcases Nat.lt_or_ge k (o.l.length / block) with hlt | hge
    · have hpb : p + block ≤ o.l.length := by
        have := Nat.mul_le_mul_right block hlt
        rw [← hlq, Nat.succ_mul, HPP.out] at this
        exact this
      clear hlq
      have kd : decide (p < o.l.length) = true := decide_eq_true (by omega)
      have hpg0 := write_piece (p := p) hrd hdc hdh hblk hpb
      have HS := Lib.hid (write_sliced (ad := ad) (p := p) hdc hblk hpb)
      have HPB := Lib.hid hpb
      
      go_upto_region 5 with fail
      refine regWr5 hA hO3 hok3 hkm (by rw [Nat.succ_mul, HPP.out]; exact HPB.out) hdc hl ⟨by omega, ?_⟩ (sv := Sb.val ⟨some (ad.add p), dc - p, (o.l.drop p).take block⟩) (by rw [Nat.succ_mul, HPP.out]; exact HS.out) _ rfl (fun W hc => hpg0.keep (hcl.trans (hc.mono fun _ _ h => h.elim)) hBn) ?_
      · show o.at_ + (k : Int) < (m.size : Int)
        have : (k : Int) < ((o.l.length / block : Nat) : Int) := by exact_mod_cast hlt
        omega
      intro w2 _ _ _ _ _ _ _ _ _ _ _ _ _ _ _ _ _ _ _ _ _ _ _ _ _ _ _ _ _ hA4 hc4
      have hA5 := write_succ HPP.out hA4
      have hc5 : Chg (fun j => j = m.Bm) w1 w2 := hcl.trans (hc4.mono fun _ _ e => e)
      have ka : IntKind.i64.wrap ((k : Int) + 1) = ((k + 1 : Nat) : Int) := by
        have hk1 : k + 1 ≤ o.l.length := Nat.le_trans hlt (Nat.div_le_self _ _)
        rw [IntWalk.i64_in _ (by omega)]; omega
      clear hc4 hA4 hkm HS
      go_wp2_with fail
      go_roundg (o.l.length / block - (k + 1))
      case measure => exact Nat.sub_lt_sub_left hlt (Nat.lt_succ_self k)
      case rel => exact ⟨k + 1, rfl, hlt, rfl, hA5, hc5⟩
    · have hpe : p = o.l.length := Nat.le_antisymm hple (by
        have := Nat.mul_le_mul_right block hge
        rwa [← hlq, HPP.out] at this)
      have kd : decide (p < o.l.length) = false := decide_eq_false (by omega)
      have hkk : k = o.l.length / block := Nat.le_antisymm hkq hge
      have HPE := Lib.hid hpe
      have HKK := Lib.hid hkk
      have hvol := putM_vv ms (mkW m o.at_ ad dc block o.l k)
      have hce : (mkW m o.at_ ad dc block o.l k).vv = { m.vv with cells := layV block m.vv.cells o.at_ o.l } := by
        rw [← gW_all o.at_ ad dc o.l, hkk]
        rfl
      rw [hce] at hvol
      replace hvol := Eq.trans hvol (congrArg (fun s => putV (volsM ms) s { m.vv with cells := layV block m.vv.cells o.at_ o.l }) hnm)
      have hfoot : ∀ k', Foot M (putM ms (mkW m o.at_ ad dc block o.l k)) k' → Foot M ms k' ∨ w.heap.size ≤ k' := fun k' hk => .inl ((Foot.put h.sorted hk).elim id fun e => .inr ⟨m, hmem, e⟩)
      have r0 := hR3.cell 0
      have r1 := hR3.cell 1
      have r2 := hR3.cell 2
      have f0 := hR3.frozen 0
      have f1 := hR3.frozen 1
      have f2 := hR3.frozen 2
      have hcF : Chg (Foot M ms) w wr := ((Chg.of_below hb02 : Chg (Foot M ms) w w1)).trans (hcl.mono fun j _ e => .inr ⟨m, hmem, .inr e⟩)
      have hA3 := hA.answer hcF hR3 (Nat.le_succ _) (.int .i64 0) (.slice none 0 0) (.slice none 0 0)
      clear hpe hkk hlq hce hcl hcF hkm
      go_wp2_with fail
      exact ans_end rfl rfl (Blk.setA hR3 _ _ _) ⟨rfl, _, ⟨hA3.1, hvol, hA3.2, hfoot⟩⟩
end
end Go.Proofs.YthhpcilinkebeaaDoor
