/- A stretch of keys is laid in a row. -/
import Derived.Test.YtadgaphgomagkaaLy
namespace Go.Proofs.Ytadgaphgomagkaa
open Go.RowKit Go.Shelf
attribute [local go_sem] Oper.semAt_some
set_option maxHeartbeats 4000000
set_option maxRecDepth 100000

def RangePost (A : Option Addr) (R : List FM) (w : World) (e : Ending) (w' : World) : Prop :=
  ∃ (W : World) (A' : Option Addr) (c' : Nat), e = .returned (.func (.func 104) #[] #[.pointer (some ⟨W.heap.size, 0, none⟩)]) ∧ Below w.heap.size w W ∧ w' = W.alloc (.cells #[.slice A' R.length c'] 56) ∧ Rd W A' (fcells R) ∧ ∀ ad, A' = some ad → ∃ a, A = some a ∧ ad.block = a.block
theorem range_any (g : Nat) (A : Option Addr) (c : Nat) (l : List FM) (lo hi : ByteArray) (w : World) (h : TblAt w g A l c) (hl : l.length ≤ 1048576) :
    Calls Try.prog 84 #[.pointer (some ⟨g, 0, none⟩), .string lo, .string hi] w (RangePost A (rngF l lo hi) w) := by
  have hp := place_any g A c l lo w h hl
  have hlen : (rngF l lo hi).length = max (plF l lo) (plF l hi) - plF l lo := by
    have h1 := plF_le l lo
    have h2 := plF_le l hi
    rw [rngF, List.length_take, List.length_drop]
    omega
  have hrd : ∀ W, Rd W A (fcells l) → Rd W (dropA3 A c (plF l lo)) (fcells (rngF l lo hi)) := fun W hW => by
    rw [rngF, fcells_take]
    exact (hW.drop3 h.cap).take _
  generalize rngF l lo hi = R at *
  have hfr := plF_le l lo
  go_enter Try.func84, Try.ntmps84
  go_wp2_with fail
  refine hp.mono ?_
  rintro e w1 ⟨rfl, hb1⟩
  clear hp
  have hT : TblAt w1 g A l c := ⟨h.blk.below' hb1, h.rd.below hb1, h.cap⟩
  have hT2 : TblAt w1.drew g A l c := ⟨hT.blk, hT.rd, hT.cap⟩
  generalize plF l lo = fr at *
  go_wp2_with fail
  refine regRange2 hT2 hl hfr ?_
  rintro w2 _ _ _ _ _ _ _ _ _ _ _ _ W hbW rfl
  go_wp2_with fail
  go_ret
  have hbw := hb1.trans (hbW.mono hb1.size)
  exact ⟨W, dropA3 A c fr, c - fr, rfl, hbw, by rw [hlen], hrd W (h.rd.below hbw), dropA3_blk⟩
theorem rngF_mem {l : List FM} {lo hi : ByteArray} {f : FM} (h : f ∈ rngF l lo hi) : f ∈ l := List.mem_of_mem_drop (List.mem_of_mem_take h)
theorem rngF_le (l : List FM) (lo hi : ByteArray) : (rngF l lo hi).length ≤ l.length := by rw [rngF, List.length_take, List.length_drop]; omega
theorem lawStretch_any (g : Nat) (A : Option Addr) (c : Nat) (l0 : List FM) (lo hi : ByteArray) (w : World) (h : TblAt w g A l0 c) (hA : ∀ ad, A = some ad → ad.block < w.heap.size) (hok : ∀ f ∈ l0, f.ok w) (hlo : ∀ f ∈ l0, ∀ ad, f.A = some ad → ad.block < w.heap.size) (hl0 : l0.length ≤ 1048576) :
    Calls Try.prog 41 #[.pointer (some ⟨g, 0, none⟩), .string lo, .string hi] w (AllPost w (rngF l0 lo hi)) := by
  refine (callsIn_wide (n := 0)).1 ?_
  have hBo := Blk.new w 56 #[.slice none 0 0]
  have hb0 := (Below.refl w.heap.size w).alloc (Nat.le_refl _) (.cells #[.slice none 0 0] 56)
  have hT1 : TblAt (w.alloc (.cells #[.slice none 0 0] 56)) g A l0 c := ⟨h.blk.below' hb0, h.rd.below hb0, h.cap⟩
  have hall := range_any g A c l0 lo hi _ hT1 hl0
  have hl := Nat.le_trans (rngF_le l0 lo hi) hl0
  replace hok : ∀ f ∈ rngF l0 lo hi, f.ok w := fun f hf => hok f (rngF_mem hf)
  replace hlo : ∀ f ∈ rngF l0 lo hi, ∀ ad, f.A = some ad → ad.block < w.heap.size := fun f hf => hlo f (rngF_mem hf)
  generalize rngF l0 lo hi = l at *
  refine callsIn_of_wp_marks Try.func41 rfl trivial ?_ rfl
  simp only [Try.ntmps41, List.size_toArray, List.length_cons, List.length_nil, Nat.reduceAdd, Nat.reduceSub, Array.replicate_succ, Array.replicate_zero, List.push_toArray, List.append_toArray, List.nil_append, List.cons_append]
  gi_wp2
  refine ⟨trivial, rfl, (callsIn_wide.2 hall).mono ?_⟩
  rintro e w2 ⟨Wp, A', c', rfl, hbp, rfl, hrp, hbk⟩
  gi_wp2
  generalize hg0 : w.heap.size = gB at *
  obtain ⟨B, hBe⟩ : ∃ B, Wp.heap.size = B := ⟨_, rfl⟩
  obtain ⟨W0, hW0⟩ : ∃ W0, Wp.alloc (.cells #[.slice A' l.length c'] 56) = W0 := ⟨_, rfl⟩
  obtain ⟨n₀, hn₀⟩ : ∃ n₀, B + 1 = n₀ := ⟨_, rfl⟩
  have hs0 : W0.heap.size = n₀ := by rw [← hW0, World.size_alloc, hBe, hn₀]
  have hsp : gB + 1 ≤ B := by
    have := hbp.size
    rw [World.size_alloc, hg0, hBe] at this
    exact this
  have hbp0 : Below gB w Wp := hb0.trans (hbp.mono (by simp; omega))
  have hb00 : Below gB w W0 := by
    rw [← hW0]
    exact hbp0.alloc (by omega) _
  have hBo0 : Blk W0 gB 56 #[.slice none 0 0] := by
    rw [← hW0]
    have := hBo.below' hbp
    exact this.alloc _
  have hBv0 : Blk W0 B 56 #[.slice A' l.length c'] := by
    rw [← hW0, ← hBe]
    exact Blk.new _ _ _
  rw [hW0, hBe]
  have hr0 : Rd W0 A' (fcells l) := by rw [← hW0]; exact hrp.alloc _
  have hA' : ∀ ad, A' = some ad → ad.block < gB := fun ad e => by
    obtain ⟨a, e1, e2⟩ := hbk ad e
    rw [e2]
    exact hA a e1
  have hok0 : ∀ f ∈ l, f.ok W0 := fun f hf => ⟨(hok f hf).rd.under hb00 (hlo f hf), (hok f hf).cap, (hok f hf).few, (hok f hf).seq, (hok f hf).key⟩
  clear hall hT1 hBo hb0 h hok hW0 hrp hbp hbp0 hbk hA
  refine wpIn_each (gf := 104) (lb := #[.pointer (some ⟨B, 0, none⟩)]) rfl (enters_of Try.func104 (by kernel_rfl) rfl) (enc := FM.val) (n₀ := n₀) (X := (· = gB)) (M := FreshL _) (S := fun xs => xs.map FM.fv = l.map FM.fv)
    (by omega) (over1_each B n₀ (· = gB) A' c' l W0 hBv0 hr0 (fun ad e => by have := hA' ad e; omega) hok0 (fun f hf ad e => by have := hlo f hf ad e; omega) (by omega) hl) rfl
    (BoxF w gB n₀) (fun _ _ _ => False) (BoxF.own w gB n₀ _ (by omega)) (fun _ _ _ _ _ hs _ _ => hs) ⟨⟨none, 0, hBo0, Facts.nil _ _⟩, hb00, by omega⟩ ?round ?done ?stop
  case round =>
    rintro lr pre ⟨xk, xn, xA, xc, xl⟩ W1 W hlr ⟨⟨A1, c1, hB1, hF1⟩, hbw, hz1⟩ hb1 ⟨⟨hxo, hxf⟩, _⟩ hlen ⟨r0, hr0'⟩
    have hlrs : lr < W.heap.size := (Array.getElem?_eq_some_iff.1 hr0').1
    have hB := hB1.below' hb1
    have hF := hF1.below hb1
    have hgs := hB1.lt
    have hbw2 : Below gB w W := hbw.trans (hb1.mono (Nat.le_of_lt hgs))
    simp only [FM.val]
    have hbx := (Below.refl W.heap.size W).alloc (Nat.le_refl _) (.cells #[.string xk, .int .u64 (xn : Nat), .slice xA xl.length xc] 71)
    gi_wp2
    refine ⟨KeepsOthers.alloc _ _, Exc.below hbx (by omega), fun r => ?_⟩
    have hBx := Blk.new W 71 #[.string xk, .int .u64 (xn : Nat), .slice xA xl.length xc]
    have hB2 := hB.below' hbx
    have hF2 := hF.below hbx
    have hx2 := hxo.below hbx
    have hbw3 : Below gB w (W.alloc (.cells #[.string xk, .int .u64 (xn : Nat), .slice xA xl.length xc] 71)) := hbw2.trans (hbx.mono (by omega))
    have hrow : ∀ q, some lr = some q → ∃ o : Obj, (W.alloc (.cells #[.string xk, .int .u64 (xn : Nat), .slice xA xl.length xc] 71)).heap[q]? = some o ∧ o.isCells = false := fun q e => by
      injection e with e
      subst e
      exact ⟨_, (hbx.block _ hlrs).trans hr0', rfl⟩
    have hsW2 := hbx.size
    have hsz2 : n₀ ≤ (W.alloc (.cells #[.string xk, .int .u64 (xn : Nat), .slice xA xl.length xc] 71)).heap.size := by simp; omega
    generalize W.alloc (.cells #[.string xk, .int .u64 (xn : Nat), .slice xA xl.length xc] 71) = W2 at *
    have hg3 := grownBy_putObj' W2 lr (.loop r)
    have hB3 := hB2.turned hg3 hrow
    have hF3 := hF2.turned hg3 hrow
    have hx3 : (⟨xk, xn, xA, xc, xl⟩ : FM).ok (W2.putObj lr (.loop r)) := ⟨hx2.rd.turned hg3 hrow, hx2.cap, hx2.few, hx2.seq, hx2.key⟩
    have hBx3 := hBx.turned hg3 hrow
    have hbw4 : Below gB w (W2.putObj lr (.loop r)) := hbw3.trans (below_putObj W2 _ (by omega))
    have hsW3 := hg3.size
    have hs3 : n₀ ≤ (W2.putObj lr (.loop r)).heap.size := Nat.le_trans hsz2 hg3.size
    generalize W2.putObj lr (.loop r) = W3 at *
    have y0 : W3.cell? ⟨gB, 0, none⟩ = some (.slice A1 pre.length c1) := hB3.cell 0
    have z0 := hBx3.cell 0
    have z1 := hBx3.cell 1
    have z2 := hBx3.cell 2
    have hbq := (Below.refl W3.heap.size W3).alloc (Nat.le_refl _) (.cells #[.string xk, .int .u64 (xn : Nat), .slice xA xl.length xc] 71)
    have hF4 := hF3.below hbq
    have hB4 := hB3.below' hbq
    have hx4 := hx3.below hbq
    have hs4 : n₀ ≤ (W3.alloc (.cells #[.string xk, .int .u64 (xn : Nat), .slice xA xl.length xc] 71)).heap.size := by simp; omega
    gi_wp2_with (gi_at_builtin; refine wpListIn_app rfl _ _ rfl slF n₀ (.slice A1 pre.length c1) pre.length (fcells pre) rfl hF4.own _ 1 1 [.string xk, .int .u64 (xn : Nat), .slice xA xl.length xc] rfl rfl (Rd.many _ _ _) (by simp [Value.oneCell']) (by unfold maxLen; omega) (by omega) hs4 ?_; intro A9 c9 w9 ho9 hg9; have hB9 := hB4.grown hg9.grown (fun e => by have := (hF4.own.lt gB e.symm).1; omega); have q0 := hB9.cell 0; have qf := hB9.frozen 0)
    have hu9 := hg9.under hF4.own (Nat.le_refl _) hs4
    have hF9 := hF4.app (M := [⟨xk, xn, xA, xc, xl⟩]) (fun f hf => by rw [List.mem_singleton.1 hf]; exact hx4) (fun f hf ad e => by
      rw [List.mem_singleton.1 hf] at e
      have := hxf ad e
      have h1 := hb1.size
      refine ⟨by omega, ?_⟩
      obtain ⟨_, h3⟩ := this
      simp only [World.size_alloc]
      omega) (fun f hf ad e e2 => by
      rw [List.mem_singleton.1 hf] at e
      have h1 := (hF1.own.lt _ e2).2
      have h2 := (hxf ad e).1
      omega) ho9 hg9
    have hF9s := hF9.but (But.set gB 0 w9 (.slice A9 (pre.length + 1) c9)) (by omega)
    have hBs := hB9.set 0 (.slice A9 (pre.length + 1) c9)
    refine ⟨((KeepsOthers.alloc _ _).trans (KeepsOthers.of_grownBy hg9.grown fun j o e ho => ?_)).trans (KeepsOthers.setCell _ _ _), ((Exc.below hbq (by omega)).trans (Exc.below hu9 (Nat.le_refl _))).trans (Exc.setEq _ _ _ _ _), ⟨A9, c9, by rw [List.length_append]; exact hBs, hF9s⟩, ?_, by have := hg9.grown.size; simp only [World.size_alloc] at this; simp; omega⟩
    · rcases hF4.own.2 with ⟨h0, _⟩ | ⟨q, cap, cur, e1, _, hgb, _⟩
      · rw [h0] at e; cases e
      · rw [e1] at e
        injection e with e
        subst e
        rw [hgb] at ho
        injection ho with ho
        subst ho
        rfl
    · exact ((hbw4.trans (hbq.mono (by omega))).trans (hu9.mono (by omega))).trans (Below.setCell (Below.refl gB w9) (p := ⟨gB, 0, none⟩) (Nat.le_refl _) _)
  case done =>
    rintro D xs W hD hS ⟨⟨A', c', hB, hF⟩, hb, hz⟩ hK
    have y0 : W.cell? ⟨gB, 0, none⟩ = some (.slice A' xs.length c') := hB.cell 0
    gi_wp2
    refine ⟨by simp, .inl ⟨_, _, rfl, run_takeDeferred hK, ?_⟩⟩
    have hg3 := grownBy_putObj' W D (.deferred none)
    have hrow : ∀ q, some D = some q → ∃ o : Obj, W.heap[q]? = some o ∧ o.isCells = false := fun q e => by
      injection e with e
      subst e
      exact ⟨_, hK, rfl⟩
    refine ⟨_, results_tmp rfl _ _ _, A', c', xs, rfl, hS, (hF.turned hg3 hrow).mono (by rw [hg0]; omega), ?_⟩
    rw [hg0]
    exact hb.trans (below_putObj W _ (by omega))
  case stop =>
    rintro D c pre W _ h _
    exact h.elim
end Go.Proofs.Ytadgaphgomagkaa
