/- The abstract array: an operation is done. PRINTED by tools/ie.py. -/
import Derived.Test.YthhpcilinkebeaaDoorId
namespace Go.Proofs.YthhpcilinkebeaaDoor
open Go.RowKit Go.Maps
set_option maxHeartbeats 4000000
set_option maxRecDepth 100000

section
variable {w w0 w' : World} {A M block quota : Nat} {ms : List VM}
/-- the answer is laid into the answer's block -/
theorem do_end (h0 : ArrAt w0 A M block quota ms) {w1 w2 : World} {R : Nat} {cs0 : Array Value} {r : AnV × AV} {v : Value} (hb : Below w0.heap.size w0 w1) (hR : Blk w1 R 36 cs0) (hnew : w0.heap.size ≤ R) (hA : AnsAt w1 w2 v r.1) (hT : TurnP w1 w2 A M block quota ms r.2.vols) (a b c : Value) :
    DoPost w0 A M block quota ms r (.returned v) (setA w2 R a b c) := by
  obtain ⟨ms', ht⟩ := hT
  obtain ⟨B, bc, D, dc, hv2, hf, ho⟩ := hA
  have hnF : ¬ Foot M ms R := (h0.below hb).not hR.has (by decide)
  have hR2 := hR.keep ht.chg hnF
  have hc : Chg (Foot M ms) w0 w2 := (Chg.of_below hb).trans' ht.chg fun k _ hk => hk
  have h3 := ht.arr.answer hc hR2 hnew a b c
  have hcs := chg_setA w2 R a b c
  refine ⟨v, rfl, ⟨B, bc, D, dc, hv2, ⟨hf.1.keepC hcs fun ad e => ?_, hf.2.1, fun ad e => ?_⟩, own_mono (own_keepC ho hcs fun g hg e => ?_) hb.size⟩, ms', ⟨h3.1, ht.vol, h3.2, fun k hk => (ht.foot k hk).imp id fun h => Nat.le_trans hb.size h⟩⟩
  · have := (hf.2.2 ad e).1; have := hR.lt; omega
  · have h1 := hf.2.2 ad e
    refine ⟨Nat.le_trans hb.size h1.1, h1.2.keep hcs ?_⟩
    have := hR.lt; omega
  · have := (ho.lt g hg).1; have := hR.lt; omega
theorem do_any (h : ArrAt w A M block quota ms) (o : OM) (hok : o.ok w) {nameE : Bts → Nat} {T : World → Prop} (hN : NameC nameE T) (hT : T w) :
    Calls Tryd.prog 14 #[.pointer (some ⟨A, 0, none⟩), o.val] w (DoPost w A M block quota ms (doV nameE (avM block quota ms) o.ov)) := by
  have hb0 := (Below.refl w.heap.size w).alloc (Nat.le_refl _) (.cells o.cells.toArray 33)
  have hb1 := hb0.alloc hb0.size (.cells zAns 36)
  have hO := (Blk.new w 33 o.cells.toArray).alloc (.cells zAns 36)
  have hR := Blk.new (w.alloc (.cells o.cells.toArray 33)) 36 zAns
  have hsz : (w.alloc (.cells o.cells.toArray 33)).heap.size = w.heap.size + 1 := by simp
  rw [hsz] at hR
  clear hsz
  have h1 := h.below hb1
  have hok1 := hok.below hb1
  have hT1 := hN.keep _ _ hT hb1
  obtain ⟨C, hC⟩ : ∃ C, checkV nameE (avM block quota ms) o.ov = C := ⟨_, rfl⟩
  have hck := check_any hN h1 o hok1 hT1 hC
  have HC := Lib.hid hC
  clear hC
  have hov : o.val = .agg o.cells.toArray := rfl
  have hme := fun (W : World) (hW : ArrAt W A M block quota ms) (hoW : o.ok W) (hc : C = 0) => meth_any hW o hoW (nameE := nameE) (HC.out.trans hc)
  have hty := typed_any o
  unfold OM.typed at hty
  rw [hov] at hty
  obtain ⟨k, nm, ds, at_, n, oA, l, oc⟩ := o
  simp only [OM.val, OM.cells] at *
  go_enter Tryd.func14, Tryd.ntmps14
  go_upto_region 1 with fail
  change Code.wp _ _ _ _ ((w.alloc (.cells #[.int .i64 k, .string nm, .string ds, .int .i64 at_, .int .i64 n, .slice oA l.length oc] 33)).alloc (.cells zAns 36))
  generalize hW : (w.alloc (.cells #[.int .i64 k, .string nm, .string ds, .int .i64 at_, .int .i64 n, .slice oA l.length oc] 33)).alloc (.cells zAns 36) = W at *
  have c0 := hO.cell 0
  have c1 := hO.cell 1
  have c2 := hO.cell 2
  have c3 := hO.cell 3
  have c4 := hO.cell 4
  have c5 := hO.cell 5
  go_wp2_with fail
  refine hck.mono ?_
  rintro e w1 ⟨rfl, hb2⟩
  clear hck hN hT hT1 hok hb0 hW c0 c1 c2 c3 c4 c5
  have h2 := h1.below hb2
  have hO2 := hO.below' hb2
  have hok2 := hok1.below hb2
  have hR2 : Blk w1 (w.heap.size + 1) 36 #[.int .i64 0, .slice none 0 0, .slice none 0 0] := hR.below' hb2
  have hb3 := hb1.trans (hb2.mono hb1.size)
  clear h1 hO hok1 hR hb1 hb2
  by_cases hC0 : C = 0
  · subst hC0
    have hck0 := HC.out
    have hrk := right_kind (check_right hck0)
    replace hrk : k = 1 ∨ k = 2 ∨ k = 3 ∨ k = 4 ∨ k = 5 ∨ k = 6 ∨ k = 7 ∨ k = 8 ∨ k = 9 := hrk
    have c0 := hO2.cell 0
    have c1 := hO2.cell 1
    have c2 := hO2.cell 2
    have c3 := hO2.cell 3
    have c4 := hO2.cell 4
    have c5 := hO2.cell 5
    clear hck0 HC
    rcases hrk with rfl | rfl | rfl | rfl | rfl | rfl | rfl | rfl | rfl
    · have hme2 := fun (W : World) (hA : ArrAt W A M block quota ms) ho => (hme W hA ho rfl : Calls Tryd.prog 40 _ W _)
      have hty2 : Calls Tryd.prog _ _ w1 fun x w' => x = .returned (.iface 83 (.agg #[.int .i64 1, .string nm, .string ds, .int .i64 at_, .int .i64 n, .slice oA l.length oc])) ∧ Below _ _ w' := hty w1
      obtain ⟨m1, m2, m3, m4, m5, m6, m7, m8⟩ : _ ∧ _ ∧ _ ∧ _ ∧ _ ∧ _ ∧ _ ∧ _ := ta_all_makes (.agg #[.int .i64 1, .string nm, .string ds, .int .i64 at_, .int .i64 n, .slice oA l.length oc])
      clear hme hty
      generalize doV nameE (avM block quota ms) _ = r at *
      go_wp2_with fail
      refine hty2.mono ?_
      rintro e w2 ⟨rfl, hb4⟩
      clear hty2 c0 c1 c2 c3 c4 c5
      have hm3 := hme2 w2 (h2.below hb4) (hok2.below hb4)
      have hb5 := hb3.trans (hb4.mono hb3.size)
      have hO3 := hO2.below' hb4
      have c0 := hO3.cell 0
      have c1 := hO3.cell 1
      have c2 := hO3.cell 2
      have c3 := hO3.cell 3
      have c4 := hO3.cell 4
      have c5 := hO3.cell 5
      have hR3 := hR2.below' hb4
      have h3 := h2.below hb4
      clear hme2 h2 hO2 hok2 hb3 hb4 hR2
      go_wp2_with fail
      refine (show Calls Tryd.prog 40 _ _ _ from hm3).mono ?_
      rintro e w3 ⟨x, rfl, hA, ms', ht⟩
      clear hm3 c0 c1 c2 c3 c4 c5
      have hR4 := hR3.keep ht.chg (h3.not hR3.has (by decide))
      obtain ⟨ec, B, bl, bc, D, dl, dc, rfl⟩ : ∃ (ec : Nat) (B : Option Addr) (bl bc : Nat) (D : Option Addr) (dl dc : Nat), x = .agg #[.int .i64 ec, .slice B bl bc, .slice D dl dc] := by obtain ⟨B, _, D, _, rfl, _⟩ := hA; exact ⟨_, _, _, _, _, _, _, rfl⟩
      have hde := do_end h hb5 hR3 (Nat.le_succ _) hA ⟨ms', ht⟩ (.int .i64 ec) (.slice B bl bc) (.slice D dl dc)
      have r0 := hR4.cell 0
      have r1 := hR4.cell 1
      have r2 := hR4.cell 2
      have f0 := hR4.frozen 0
      have f1 := hR4.frozen 1
      have f2 := hR4.frozen 2
      clear ht hA hR3 hO3 h3 hb5 h
      go_wp2_with fail
      exact ans_end rfl rfl (Blk.setA hR4 _ _ _) hde
    · have hme2 := fun (W : World) (hA : ArrAt W A M block quota ms) ho => (hme W hA ho rfl : Calls Tryd.prog 41 _ W _)
      have hty2 : Calls Tryd.prog _ _ w1 fun x w' => x = .returned (.iface 84 (.agg #[.int .i64 2, .string nm, .string ds, .int .i64 at_, .int .i64 n, .slice oA l.length oc])) ∧ Below _ _ w' := hty w1
      obtain ⟨m1, m2, m3, m4, m5, m6, m7, m8⟩ : _ ∧ _ ∧ _ ∧ _ ∧ _ ∧ _ ∧ _ ∧ _ := ta_all_drops (.agg #[.int .i64 2, .string nm, .string ds, .int .i64 at_, .int .i64 n, .slice oA l.length oc])
      clear hme hty
      generalize doV nameE (avM block quota ms) _ = r at *
      go_wp2_with fail
      refine hty2.mono ?_
      rintro e w2 ⟨rfl, hb4⟩
      clear hty2 c0 c1 c2 c3 c4 c5
      have hm3 := hme2 w2 (h2.below hb4) (hok2.below hb4)
      have hb5 := hb3.trans (hb4.mono hb3.size)
      have hO3 := hO2.below' hb4
      have c0 := hO3.cell 0
      have c1 := hO3.cell 1
      have c2 := hO3.cell 2
      have c3 := hO3.cell 3
      have c4 := hO3.cell 4
      have c5 := hO3.cell 5
      have hR3 := hR2.below' hb4
      have h3 := h2.below hb4
      clear hme2 h2 hO2 hok2 hb3 hb4 hR2
      go_wp2_with fail
      refine (show Calls Tryd.prog 41 _ _ _ from hm3).mono ?_
      rintro e w3 ⟨x, rfl, hA, ms', ht⟩
      clear hm3 c0 c1 c2 c3 c4 c5
      have hR4 := hR3.keep ht.chg (h3.not hR3.has (by decide))
      obtain ⟨ec, B, bl, bc, D, dl, dc, rfl⟩ : ∃ (ec : Nat) (B : Option Addr) (bl bc : Nat) (D : Option Addr) (dl dc : Nat), x = .agg #[.int .i64 ec, .slice B bl bc, .slice D dl dc] := by obtain ⟨B, _, D, _, rfl, _⟩ := hA; exact ⟨_, _, _, _, _, _, _, rfl⟩
      have hde := do_end h hb5 hR3 (Nat.le_succ _) hA ⟨ms', ht⟩ (.int .i64 ec) (.slice B bl bc) (.slice D dl dc)
      have r0 := hR4.cell 0
      have r1 := hR4.cell 1
      have r2 := hR4.cell 2
      have f0 := hR4.frozen 0
      have f1 := hR4.frozen 1
      have f2 := hR4.frozen 2
      clear ht hA hR3 hO3 h3 hb5 h
      go_wp2_with fail
      exact ans_end rfl rfl (Blk.setA hR4 _ _ _) hde
    · have hme2 := fun (W : World) (hA : ArrAt W A M block quota ms) ho => (hme W hA ho rfl : Calls Tryd.prog 42 _ W _)
      have hty2 : Calls Tryd.prog _ _ w1 fun x w' => x = .returned (.iface 85 (.agg #[.int .i64 3, .string nm, .string ds, .int .i64 at_, .int .i64 n, .slice oA l.length oc])) ∧ Below _ _ w' := hty w1
      obtain ⟨m1, m2, m3, m4, m5, m6, m7, m8⟩ : _ ∧ _ ∧ _ ∧ _ ∧ _ ∧ _ ∧ _ ∧ _ := ta_all_reads (.agg #[.int .i64 3, .string nm, .string ds, .int .i64 at_, .int .i64 n, .slice oA l.length oc])
      clear hme hty
      generalize doV nameE (avM block quota ms) _ = r at *
      go_wp2_with fail
      refine hty2.mono ?_
      rintro e w2 ⟨rfl, hb4⟩
      clear hty2 c0 c1 c2 c3 c4 c5
      have hm3 := hme2 w2 (h2.below hb4) (hok2.below hb4)
      have hb5 := hb3.trans (hb4.mono hb3.size)
      have hO3 := hO2.below' hb4
      have c0 := hO3.cell 0
      have c1 := hO3.cell 1
      have c2 := hO3.cell 2
      have c3 := hO3.cell 3
      have c4 := hO3.cell 4
      have c5 := hO3.cell 5
      have hR3 := hR2.below' hb4
      have h3 := h2.below hb4
      clear hme2 h2 hO2 hok2 hb3 hb4 hR2
      go_wp2_with fail
      refine (show Calls Tryd.prog 42 _ _ _ from hm3).mono ?_
      rintro e w3 ⟨x, rfl, hA, ms', ht⟩
      clear hm3 c0 c1 c2 c3 c4 c5
      have hR4 := hR3.keep ht.chg (h3.not hR3.has (by decide))
      obtain ⟨ec, B, bl, bc, D, dl, dc, rfl⟩ : ∃ (ec : Nat) (B : Option Addr) (bl bc : Nat) (D : Option Addr) (dl dc : Nat), x = .agg #[.int .i64 ec, .slice B bl bc, .slice D dl dc] := by obtain ⟨B, _, D, _, rfl, _⟩ := hA; exact ⟨_, _, _, _, _, _, _, rfl⟩
      have hde := do_end h hb5 hR3 (Nat.le_succ _) hA ⟨ms', ht⟩ (.int .i64 ec) (.slice B bl bc) (.slice D dl dc)
      have r0 := hR4.cell 0
      have r1 := hR4.cell 1
      have r2 := hR4.cell 2
      have f0 := hR4.frozen 0
      have f1 := hR4.frozen 1
      have f2 := hR4.frozen 2
      clear ht hA hR3 hO3 h3 hb5 h
      go_wp2_with fail
      exact ans_end rfl rfl (Blk.setA hR4 _ _ _) hde
    · have hme2 := fun (W : World) (hA : ArrAt W A M block quota ms) ho => (hme W hA ho rfl : Calls Tryd.prog 43 _ W _)
      have hty2 : Calls Tryd.prog _ _ w1 fun x w' => x = .returned (.iface 86 (.agg #[.int .i64 4, .string nm, .string ds, .int .i64 at_, .int .i64 n, .slice oA l.length oc])) ∧ Below _ _ w' := hty w1
      obtain ⟨m1, m2, m3, m4, m5, m6, m7, m8⟩ : _ ∧ _ ∧ _ ∧ _ ∧ _ ∧ _ ∧ _ ∧ _ := ta_all_writes (.agg #[.int .i64 4, .string nm, .string ds, .int .i64 at_, .int .i64 n, .slice oA l.length oc])
      clear hme hty
      generalize doV nameE (avM block quota ms) _ = r at *
      go_wp2_with fail
      refine hty2.mono ?_
      rintro e w2 ⟨rfl, hb4⟩
      clear hty2 c0 c1 c2 c3 c4 c5
      have hm3 := hme2 w2 (h2.below hb4) (hok2.below hb4)
      have hb5 := hb3.trans (hb4.mono hb3.size)
      have hO3 := hO2.below' hb4
      have c0 := hO3.cell 0
      have c1 := hO3.cell 1
      have c2 := hO3.cell 2
      have c3 := hO3.cell 3
      have c4 := hO3.cell 4
      have c5 := hO3.cell 5
      have hR3 := hR2.below' hb4
      have h3 := h2.below hb4
      clear hme2 h2 hO2 hok2 hb3 hb4 hR2
      go_wp2_with fail
      refine (show Calls Tryd.prog 43 _ _ _ from hm3).mono ?_
      rintro e w3 ⟨x, rfl, hA, ms', ht⟩
      clear hm3 c0 c1 c2 c3 c4 c5
      have hR4 := hR3.keep ht.chg (h3.not hR3.has (by decide))
      obtain ⟨ec, B, bl, bc, D, dl, dc, rfl⟩ : ∃ (ec : Nat) (B : Option Addr) (bl bc : Nat) (D : Option Addr) (dl dc : Nat), x = .agg #[.int .i64 ec, .slice B bl bc, .slice D dl dc] := by obtain ⟨B, _, D, _, rfl, _⟩ := hA; exact ⟨_, _, _, _, _, _, _, rfl⟩
      have hde := do_end h hb5 hR3 (Nat.le_succ _) hA ⟨ms', ht⟩ (.int .i64 ec) (.slice B bl bc) (.slice D dl dc)
      have r0 := hR4.cell 0
      have r1 := hR4.cell 1
      have r2 := hR4.cell 2
      have f0 := hR4.frozen 0
      have f1 := hR4.frozen 1
      have f2 := hR4.frozen 2
      clear ht hA hR3 hO3 h3 hb5 h
      go_wp2_with fail
      exact ans_end rfl rfl (Blk.setA hR4 _ _ _) hde
    · have hme2 := fun (W : World) (hA : ArrAt W A M block quota ms) ho => (hme W hA ho rfl : Calls Tryd.prog 44 _ W _)
      have hty2 : Calls Tryd.prog _ _ w1 fun x w' => x = .returned (.iface 87 (.agg #[.int .i64 5, .string nm, .string ds, .int .i64 at_, .int .i64 n, .slice oA l.length oc])) ∧ Below _ _ w' := hty w1
      obtain ⟨m1, m2, m3, m4, m5, m6, m7, m8⟩ : _ ∧ _ ∧ _ ∧ _ ∧ _ ∧ _ ∧ _ ∧ _ := ta_all_trims (.agg #[.int .i64 5, .string nm, .string ds, .int .i64 at_, .int .i64 n, .slice oA l.length oc])
      clear hme hty
      generalize doV nameE (avM block quota ms) _ = r at *
      go_wp2_with fail
      refine hty2.mono ?_
      rintro e w2 ⟨rfl, hb4⟩
      clear hty2 c0 c1 c2 c3 c4 c5
      have hm3 := hme2 w2 (h2.below hb4) (hok2.below hb4)
      have hb5 := hb3.trans (hb4.mono hb3.size)
      have hO3 := hO2.below' hb4
      have c0 := hO3.cell 0
      have c1 := hO3.cell 1
      have c2 := hO3.cell 2
      have c3 := hO3.cell 3
      have c4 := hO3.cell 4
      have c5 := hO3.cell 5
      have hR3 := hR2.below' hb4
      have h3 := h2.below hb4
      clear hme2 h2 hO2 hok2 hb3 hb4 hR2
      go_wp2_with fail
      refine (show Calls Tryd.prog 44 _ _ _ from hm3).mono ?_
      rintro e w3 ⟨x, rfl, hA, ms', ht⟩
      clear hm3 c0 c1 c2 c3 c4 c5
      have hR4 := hR3.keep ht.chg (h3.not hR3.has (by decide))
      obtain ⟨ec, B, bl, bc, D, dl, dc, rfl⟩ : ∃ (ec : Nat) (B : Option Addr) (bl bc : Nat) (D : Option Addr) (dl dc : Nat), x = .agg #[.int .i64 ec, .slice B bl bc, .slice D dl dc] := by obtain ⟨B, _, D, _, rfl, _⟩ := hA; exact ⟨_, _, _, _, _, _, _, rfl⟩
      have hde := do_end h hb5 hR3 (Nat.le_succ _) hA ⟨ms', ht⟩ (.int .i64 ec) (.slice B bl bc) (.slice D dl dc)
      have r0 := hR4.cell 0
      have r1 := hR4.cell 1
      have r2 := hR4.cell 2
      have f0 := hR4.frozen 0
      have f1 := hR4.frozen 1
      have f2 := hR4.frozen 2
      clear ht hA hR3 hO3 h3 hb5 h
      go_wp2_with fail
      exact ans_end rfl rfl (Blk.setA hR4 _ _ _) hde
    · have hme2 := fun (W : World) (hA : ArrAt W A M block quota ms) ho => (hme W hA ho rfl : Calls Tryd.prog 45 _ W _)
      have hty2 : Calls Tryd.prog _ _ w1 fun x w' => x = .returned (.iface 88 (.agg #[.int .i64 6, .string nm, .string ds, .int .i64 at_, .int .i64 n, .slice oA l.length oc])) ∧ Below _ _ w' := hty w1
      obtain ⟨m1, m2, m3, m4, m5, m6, m7, m8⟩ : _ ∧ _ ∧ _ ∧ _ ∧ _ ∧ _ ∧ _ ∧ _ := ta_all_snaps (.agg #[.int .i64 6, .string nm, .string ds, .int .i64 at_, .int .i64 n, .slice oA l.length oc])
      clear hme hty
      generalize doV nameE (avM block quota ms) _ = r at *
      go_wp2_with fail
      refine hty2.mono ?_
      rintro e w2 ⟨rfl, hb4⟩
      clear hty2 c0 c1 c2 c3 c4 c5
      have hm3 := hme2 w2 (h2.below hb4) (hok2.below hb4)
      have hb5 := hb3.trans (hb4.mono hb3.size)
      have hO3 := hO2.below' hb4
      have c0 := hO3.cell 0
      have c1 := hO3.cell 1
      have c2 := hO3.cell 2
      have c3 := hO3.cell 3
      have c4 := hO3.cell 4
      have c5 := hO3.cell 5
      have hR3 := hR2.below' hb4
      have h3 := h2.below hb4
      clear hme2 h2 hO2 hok2 hb3 hb4 hR2
      go_wp2_with fail
      refine (show Calls Tryd.prog 45 _ _ _ from hm3).mono ?_
      rintro e w3 ⟨x, rfl, hA, ms', ht⟩
      clear hm3 c0 c1 c2 c3 c4 c5
      have hR4 := hR3.keep ht.chg (h3.not hR3.has (by decide))
      obtain ⟨ec, B, bl, bc, D, dl, dc, rfl⟩ : ∃ (ec : Nat) (B : Option Addr) (bl bc : Nat) (D : Option Addr) (dl dc : Nat), x = .agg #[.int .i64 ec, .slice B bl bc, .slice D dl dc] := by obtain ⟨B, _, D, _, rfl, _⟩ := hA; exact ⟨_, _, _, _, _, _, _, rfl⟩
      have hde := do_end h hb5 hR3 (Nat.le_succ _) hA ⟨ms', ht⟩ (.int .i64 ec) (.slice B bl bc) (.slice D dl dc)
      have r0 := hR4.cell 0
      have r1 := hR4.cell 1
      have r2 := hR4.cell 2
      have f0 := hR4.frozen 0
      have f1 := hR4.frozen 1
      have f2 := hR4.frozen 2
      clear ht hA hR3 hO3 h3 hb5 h
      go_wp2_with fail
      exact ans_end rfl rfl (Blk.setA hR4 _ _ _) hde
    · have hme2 := fun (W : World) (hA : ArrAt W A M block quota ms) ho => (hme W hA ho rfl : Calls Tryd.prog 45 _ W _)
      have hty2 : Calls Tryd.prog _ _ w1 fun x w' => x = .returned (.iface 89 (.agg #[.int .i64 7, .string nm, .string ds, .int .i64 at_, .int .i64 n, .slice oA l.length oc])) ∧ Below _ _ w' := hty w1
      obtain ⟨m1, m2, m3, m4, m5, m6, m7, m8⟩ : _ ∧ _ ∧ _ ∧ _ ∧ _ ∧ _ ∧ _ ∧ _ := ta_all_clones (.agg #[.int .i64 7, .string nm, .string ds, .int .i64 at_, .int .i64 n, .slice oA l.length oc])
      clear hme hty
      generalize doV nameE (avM block quota ms) _ = r at *
      go_wp2_with fail
      refine hty2.mono ?_
      rintro e w2 ⟨rfl, hb4⟩
      clear hty2 c0 c1 c2 c3 c4 c5
      have hm3 := hme2 w2 (h2.below hb4) (hok2.below hb4)
      have hb5 := hb3.trans (hb4.mono hb3.size)
      have hO3 := hO2.below' hb4
      have c0 := hO3.cell 0
      have c1 := hO3.cell 1
      have c2 := hO3.cell 2
      have c3 := hO3.cell 3
      have c4 := hO3.cell 4
      have c5 := hO3.cell 5
      have hR3 := hR2.below' hb4
      have h3 := h2.below hb4
      clear hme2 h2 hO2 hok2 hb3 hb4 hR2
      go_wp2_with fail
      refine (show Calls Tryd.prog 45 _ _ _ from hm3).mono ?_
      rintro e w3 ⟨x, rfl, hA, ms', ht⟩
      clear hm3 c0 c1 c2 c3 c4 c5
      have hR4 := hR3.keep ht.chg (h3.not hR3.has (by decide))
      obtain ⟨ec, B, bl, bc, D, dl, dc, rfl⟩ : ∃ (ec : Nat) (B : Option Addr) (bl bc : Nat) (D : Option Addr) (dl dc : Nat), x = .agg #[.int .i64 ec, .slice B bl bc, .slice D dl dc] := by obtain ⟨B, _, D, _, rfl, _⟩ := hA; exact ⟨_, _, _, _, _, _, _, rfl⟩
      have hde := do_end h hb5 hR3 (Nat.le_succ _) hA ⟨ms', ht⟩ (.int .i64 ec) (.slice B bl bc) (.slice D dl dc)
      have r0 := hR4.cell 0
      have r1 := hR4.cell 1
      have r2 := hR4.cell 2
      have f0 := hR4.frozen 0
      have f1 := hR4.frozen 1
      have f2 := hR4.frozen 2
      clear ht hA hR3 hO3 h3 hb5 h
      go_wp2_with fail
      exact ans_end rfl rfl (Blk.setA hR4 _ _ _) hde
    · have hme2 := fun (W : World) (hA : ArrAt W A M block quota ms) ho => (hme W hA ho rfl : Calls Tryd.prog 46 _ W _)
      have hty2 : Calls Tryd.prog _ _ w1 fun x w' => x = .returned (.iface 90 (.agg #[.int .i64 8, .string nm, .string ds, .int .i64 at_, .int .i64 n, .slice oA l.length oc])) ∧ Below _ _ w' := hty w1
      obtain ⟨m1, m2, m3, m4, m5, m6, m7, m8⟩ : _ ∧ _ ∧ _ ∧ _ ∧ _ ∧ _ ∧ _ ∧ _ := ta_all_grows (.agg #[.int .i64 8, .string nm, .string ds, .int .i64 at_, .int .i64 n, .slice oA l.length oc])
      clear hme hty
      generalize doV nameE (avM block quota ms) _ = r at *
      go_wp2_with fail
      refine hty2.mono ?_
      rintro e w2 ⟨rfl, hb4⟩
      clear hty2 c0 c1 c2 c3 c4 c5
      have hm3 := hme2 w2 (h2.below hb4) (hok2.below hb4)
      have hb5 := hb3.trans (hb4.mono hb3.size)
      have hO3 := hO2.below' hb4
      have c0 := hO3.cell 0
      have c1 := hO3.cell 1
      have c2 := hO3.cell 2
      have c3 := hO3.cell 3
      have c4 := hO3.cell 4
      have c5 := hO3.cell 5
      have hR3 := hR2.below' hb4
      have h3 := h2.below hb4
      clear hme2 h2 hO2 hok2 hb3 hb4 hR2
      go_wp2_with fail
      refine (show Calls Tryd.prog 46 _ _ _ from hm3).mono ?_
      rintro e w3 ⟨x, rfl, hA, ms', ht⟩
      clear hm3 c0 c1 c2 c3 c4 c5
      have hR4 := hR3.keep ht.chg (h3.not hR3.has (by decide))
      obtain ⟨ec, B, bl, bc, D, dl, dc, rfl⟩ : ∃ (ec : Nat) (B : Option Addr) (bl bc : Nat) (D : Option Addr) (dl dc : Nat), x = .agg #[.int .i64 ec, .slice B bl bc, .slice D dl dc] := by obtain ⟨B, _, D, _, rfl, _⟩ := hA; exact ⟨_, _, _, _, _, _, _, rfl⟩
      have hde := do_end h hb5 hR3 (Nat.le_succ _) hA ⟨ms', ht⟩ (.int .i64 ec) (.slice B bl bc) (.slice D dl dc)
      have r0 := hR4.cell 0
      have r1 := hR4.cell 1
      have r2 := hR4.cell 2
      have f0 := hR4.frozen 0
      have f1 := hR4.frozen 1
      have f2 := hR4.frozen 2
      clear ht hA hR3 hO3 h3 hb5 h
      go_wp2_with fail
      exact ans_end rfl rfl (Blk.setA hR4 _ _ _) hde
    · have hme2 := fun (W : World) (hA : ArrAt W A M block quota ms) ho => (hme W hA ho rfl : Calls Tryd.prog 38 _ W _)
      have hty2 : Calls Tryd.prog _ _ w1 fun x w' => x = .returned (.iface 128 (.agg #[.int .i64 9, .string nm, .string ds, .int .i64 at_, .int .i64 n, .slice oA l.length oc])) ∧ Below _ _ w' := hty w1
      obtain ⟨m1, m2, m3, m4, m5, m6, m7, m8⟩ : _ ∧ _ ∧ _ ∧ _ ∧ _ ∧ _ ∧ _ ∧ _ := ta_all_lists (.agg #[.int .i64 9, .string nm, .string ds, .int .i64 at_, .int .i64 n, .slice oA l.length oc])
      clear hme hty
      generalize doV nameE (avM block quota ms) _ = r at *
      go_wp2_with fail
      refine hty2.mono ?_
      rintro e w2 ⟨rfl, hb4⟩
      clear hty2 c0 c1 c2 c3 c4 c5
      have hm3 := hme2 w2 (h2.below hb4) (hok2.below hb4)
      have hb5 := hb3.trans (hb4.mono hb3.size)
      have hO3 := hO2.below' hb4
      have c0 := hO3.cell 0
      have c1 := hO3.cell 1
      have c2 := hO3.cell 2
      have c3 := hO3.cell 3
      have c4 := hO3.cell 4
      have c5 := hO3.cell 5
      have hR3 := hR2.below' hb4
      have h3 := h2.below hb4
      clear hme2 h2 hO2 hok2 hb3 hb4 hR2
      go_wp2_with fail
      refine (show Calls Tryd.prog 38 _ _ _ from hm3).mono ?_
      rintro e w3 ⟨x, rfl, hA, ms', ht⟩
      clear hm3 c0 c1 c2 c3 c4 c5
      have hR4 := hR3.keep ht.chg (h3.not hR3.has (by decide))
      obtain ⟨ec, B, bl, bc, D, dl, dc, rfl⟩ : ∃ (ec : Nat) (B : Option Addr) (bl bc : Nat) (D : Option Addr) (dl dc : Nat), x = .agg #[.int .i64 ec, .slice B bl bc, .slice D dl dc] := by obtain ⟨B, _, D, _, rfl, _⟩ := hA; exact ⟨_, _, _, _, _, _, _, rfl⟩
      have hde := do_end h hb5 hR3 (Nat.le_succ _) hA ⟨ms', ht⟩ (.int .i64 ec) (.slice B bl bc) (.slice D dl dc)
      have r0 := hR4.cell 0
      have r1 := hR4.cell 1
      have r2 := hR4.cell 2
      have f0 := hR4.frozen 0
      have f1 := hR4.frozen 1
      have f2 := hR4.frozen 2
      clear ht hA hR3 hO3 h3 hb5 h
      go_wp2_with fail
      exact ans_end rfl rfl (Blk.setA hR4 _ _ _) hde
  · have HD : Hid (doV nameE (avM block quota ms) (OM.ov ⟨k, nm, ds, at_, n, oA, l, oc⟩) = (⟨C, [], []⟩, avM block quota ms)) := Lib.hid (by unfold doV; rw [if_pos (by rw [HC.out]; exact hC0), HC.out])
    have k1 : ((C : Int) != 0) = true := by simp; omega
    have r0 := hR2.cell 0
    have r1 := hR2.cell 1
    have r2 := hR2.cell 2
    have f0 := hR2.frozen 0
    have f1 := hR2.frozen 1
    have f2 := hR2.frozen 2
    clear hC0 HC hme hty
    go_wp2_with fail
    refine ans_end rfl rfl (Blk.setA hR2 _ _ _) ?_
    rw [HD.out]
    exact do_end h hb3 hR2 (Nat.le_succ _) (ansZ _ _ _) (Turn.of_below h2 (Below.refl _ _)) _ _ _
end
end Go.Proofs.YthhpcilinkebeaaDoor
