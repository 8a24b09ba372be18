/- The sequence over facts: each is handed on, apart. -/
import Derived.Test.YtadgaphgomagkaaLu
import Derived.Test.YtadgaphgomagkaaLf
import Derived.RangeFuncNested
import Derived.RangeFuncBound
import Derived.RangeFuncCalls
import Derived.RangeFuncLeaves
import Derived.Shelf.Abstract
import Derived.Shelf.RegionOpen
import Derived.WalkKit
import Derived.OwnWalkIn
import Derived.TacticsInMore
import Derived.LoopNIn
import Derived.LoopIn
import Derived.RangeFuncBox
import Derived.Maps.AppendAt
namespace Go.Proofs.Ytadgaphgomagkaa
open Go.RowKit Go.Shelf
attribute [local go_sem] Oper.semAt_some
set_option maxHeartbeats 4000000
set_option maxRecDepth 100000

/-- what a round is told of the fact that it is handed -/
def FreshM (x : FM) (W0 W : World) : Prop := x.ok W ∧ ∀ ad, x.A = some ad → W0.heap.size ≤ ad.block ∧ ad.block < W.heap.size
/-- .. and where among a row's facts it stands -/
def FreshL (l : List FM) (pre : List FM) (x : FM) (W0 W : World) : Prop := FreshM x W0 W ∧ (pre ++ [x]).map FM.fv = (l.take (pre.length + 1)).map FM.fv
theorem Rd.exc {w w' : World} {A : Option Addr} {xs : List Value} {n₀ : Nat} {X : Nat → Prop} (h : Rd w A xs) (hb : Exc n₀ X w w') (hA : ∀ ad, A = some ad → ad.block < n₀ ∧ ¬ X ad.block) : Rd w' A xs := fun hn => by
  obtain ⟨ad, e, hlt, hc⟩ := h hn
  refine ⟨ad, e, Nat.lt_of_lt_of_le hlt hb.size, fun j u hu => ?_⟩
  rw [World.cell?_of_block (w := w) (hb.block _ (by rw [add_block]; exact (hA ad e).1) (by rw [add_block]; exact (hA ad e).2))]
  exact hc j u hu
theorem over1_each (B n₀ : Nat) (X : Nat → Prop) (A : Option Addr) (c : Nat) (l : List FM) (w : World) (hB : Blk w B 56 #[.slice A l.length c]) (hr : Rd w A (fcells l)) (hA : ∀ ad, A = some ad → ad.block < n₀ ∧ ¬ X ad.block)
    (hok : ∀ f ∈ l, f.ok w) (hlo : ∀ f ∈ l, ∀ ad, f.A = some ad → ad.block < n₀ ∧ ¬ X ad.block) (hn : n₀ ≤ w.heap.size) (hl : l.length ≤ 1048576) :
    EachM Try.prog 104 #[.pointer (some ⟨B, 0, none⟩)] FM.val n₀ X (FreshL l) (fun xs => xs.map FM.fv = l.map FM.fv) l.length w := by
  intro lr J Jx W hW hJ hY h0
  have hBW := hB.below' hW
  have hrW := hr.below hW
  have hokW := fun f hf => (hok f hf).below hW
  have hnW : n₀ ≤ W.heap.size := Nat.le_trans hn hW.size
  have x0 : W.cell? ⟨B, 0, none⟩ = some (.slice A l.length c) := hBW.cell 0
  clear hB hr hok hW
  refine callsIn_of_wp Try.func104 rfl trivial ?_ rfl
  simp only [Try.ntmps104, List.size_toArray, List.length_cons, List.length_nil, Nat.reduceAdd, Nat.reduceSub, Array.replicate_succ, Array.replicate_zero, List.push_toArray, List.append_toArray, List.nil_append, List.cons_append]
  gi_wp2
  gi_loopw [7] (fun i wr => ∃ (k : Nat) (xs : List FM), k ≤ l.length ∧ i = .int .i64 (k : Nat) ∧ xs.map FM.fv = (l.take k).map FM.fv ∧ J xs wr ∧ Exc n₀ X W wr) (fun i _ => l.length - (intOf i).toNat)
  case atStart => exact ⟨0, [], Nat.zero_le _, rfl, rfl, h0, Exc.refl _ _ _⟩
  case round =>
    obtain ⟨k, xs, hk, rfl, hxs, hJs, hb⟩ := hrel
    by_cases hlt : k < l.length
    · have r1 : (k : Int) < (l.length : Int) := by omega
      have hrr := hrW.exc hb hA
      obtain ⟨ad, rfl, c0, c1, c2⟩ := facts_at hrr k hlt
      have hfo := hokW _ (List.getElem_mem hlt)
      have hfl := hlo _ (List.getElem_mem hlt)
      have htk : (l.take (k + 1)).map FM.fv = (l.take k).map FM.fv ++ [l[k].fv] := by
        rw [List.take_succ_eq_append_getElem hlt, List.map_append]
        rfl
      generalize l[k] = f at *
      have hfo2 : f.ok wr := ⟨hfo.rd.exc hb hfl, hfo.cap, hfo.few, hfo.seq, hfo.key⟩
      have hx := (Below.refl wr.heap.size wr).alloc (Nat.le_refl _) (.cells #[.string f.k, .int .u64 (f.s : Nat), .slice f.A f.l.length f.c] 71)
      have hBx := Blk.new wr 71 #[.string f.k, .int .u64 (f.s : Nat), .slice f.A f.l.length f.c]
      have hap := apart_any f _ (hfo2.below hx)
      simp only [FM.val] at hap
      have y0 := hBx.cell 0
      have y1 := hBx.cell 1
      have y2 := hBx.cell 2
      have hnr : n₀ ≤ wr.heap.size := Nat.le_trans hnW hb.size
      have HK := Lib.hid htk
      clear htk hrr hfo
      gi_wp2
      refine ⟨trivial, rfl, (callsIn_wide.2 hap).mono ?_⟩
      rintro e w3 ⟨A3, c3, rfl, ho3, hb3⟩
      clear hap y0 y1 y2 c0 c1 c2 hBx
      have hb03 := hx.trans (hb3.mono hx.size)
      have hM : FreshM ⟨f.k, f.s, A3, c3, f.l⟩ wr w3 := ⟨⟨Rd.of_own ho3, (own_cap ho3).1, hfo2.few, hfo2.seq, hfo2.key⟩, fun ad h => ⟨Nat.le_trans hx.size ((own_cap ho3).2.2 ad h).1, ((own_cap ho3).2.2 ad h).2⟩⟩
      have hxl : xs.length = k := by have := congrArg List.length hxs; simp only [List.length_map, List.length_take] at this; omega
      have hMl : (xs ++ [(⟨f.k, f.s, A3, c3, f.l⟩ : FM)]).map FM.fv = (l.take (xs.length + 1)).map FM.fv := by rw [hxl, List.map_append, hxs, HK.out]; rfl
      obtain ⟨fn, tmps, assign, body, hy, hR⟩ := hY xs ⟨f.k, f.s, A3, c3, f.l⟩ wr w3 hJs hb03 ⟨hM, hMl⟩ (by have := congrArg List.length hxs; simp only [List.length_map, List.length_take] at this; omega)
      simp only [FM.val] at hy
      have hbn3 := hb.trans (Exc.below (X := X) hb03 hnr)
      gi_wp2
      refine ⟨rfl, hR.mono ?_⟩
      rintro e w4 (⟨rfl, hJ4, hk4⟩ | ⟨rfl, hJx4⟩)
      · gi_wp2
        go_roundw
        case rel => exact ⟨k + 1, xs ++ [⟨f.k, f.s, A3, c3, f.l⟩], by omega, by go_num, by rw [List.map_append, hxs, HK.out]; rfl, hJ4, hbn3.trans hk4⟩
        case measure => simp only [intOf]; omega
      · gi_wp2
        refine bodyPost_ret (results_none rfl _ _ _) rfl ?_
        exact ⟨⟨_, rfl⟩, .inr ⟨_, hJx4⟩⟩
    · obtain rfl : k = l.length := by omega
      have r1 : ¬ (l.length : Int) < (l.length : Int) := by omega
      rw [List.take_length] at hxs
      gi_wp2
      go_end0
      exact ⟨⟨_, rfl⟩, .inl ⟨_, hxs, hJs⟩⟩
end Go.Proofs.Ytadgaphgomagkaa
/- All of a table's facts, laid in a row. -/
namespace Go.Proofs.Ytadgaphgomagkaa
open Go.RowKit Go.Shelf
attribute [local go_sem] Oper.semAt_some
set_option maxHeartbeats 4000000
set_option maxRecDepth 100000

theorem wpListIn_app {F : Fence} {nF : Nat} {P : Program} {w : World} {ops : Array Oper} {rest : List Oper} {o : Oper} {a : Act} {Q : Exit → Act → World → Prop} (hgd : o.guard = none) (s x : Operand) {t : TypeId}
    (ho : o.op = .call { callee := .builtin .append, args := #[s, x], argTypes := #[t, t] })
    {e : TypeId} {z : Value} {size bytes : Nat} (S : SlT P t e z size bytes) (base : Nat)
    (v : Value) (n : Nat) (xs : List Value) (hs : a.eval s = v) (hown : w.ownsRow base e size v n xs)
    (A : Option Addr) (m c : Nat) (news : List Value) (hx : a.eval x = .slice A m c) (hl : news.length = m * size) (hr : Rd w A news) (h1 : ∀ u ∈ news, u.oneCell' = true)
    (h63 : n + m ≤ maxLen) (hbytes : (n + m) * bytes ≤ 140737488355328) (hbase : base ≤ w.heap.size)
    (h : ∀ A' c' w', w'.ownsRow base e size (.slice A' (n + m) c') (n + m) (xs ++ news) → Grew w w' v (.slice A' (n + m) c') → wpListIn F nF P ops Q rest (a.put o.dst (.slice A' (n + m) c')) w') : wpListIn F nF P ops Q (o :: rest) a w := by
  refine wpListIn_plain hgd fun K hK => ?_
  obtain ⟨A', c', w', hrun, h2, h3⟩ := run_app (P := P) w S o.type base v n xs hown A m c news hl hr h1 h63 hbytes hbase
  unfold Oper.wpIn
  refine ⟨by simp [Oper.about, ho, resolve, Target.leads, Sem.run_pure], ?_⟩
  rw [Oper.semAt_plain F _ _ (by rw [ho]; intro c hc'; cases hc')]
  unfold execOp
  simp only [ho, resolve, invoke, builtin, Sem.run_bind, Sem.run_pure, Result.andThen_ok, List.map_toArray, List.map_cons, List.map_nil, hs, hx, hrun]
  exact hK _ _ (h A' c' w' h2 h3)
/-- facts stand where a block that holds no cells is turned -/
theorem Rd.turned {W W' : World} {A : Option Addr} {xs : List Value} {row : Option Nat} (h : Rd W A xs) (hg : W.grownBy W' row) (hr : ∀ r, row = some r → ∃ o : Obj, W.heap[r]? = some o ∧ o.isCells = false) : Rd W' A xs := fun hn => by
  obtain ⟨ad, e, hlt, hc⟩ := h hn
  refine ⟨ad, e, Nat.lt_of_lt_of_le hlt hg.size, fun j u hu => ?_⟩
  have h1 := hc j u hu
  obtain ⟨o, ho, hoc⟩ := cells_of_cell h1
  rw [World.cell?_of_block (w := W) (hg.block _ (by rw [add_block]; exact hlt) ?_)]
  · exact h1
  · intro e2
    obtain ⟨o', ho', hoc'⟩ := hr _ e2.symm
    rw [ho] at ho'
    injection ho' with ho'
    subst ho'
    rw [hoc] at hoc'
    cases hoc'
theorem Facts.turned {W W' : World} {B : Nat} {A : Option Addr} {c : Nat} {L : List FM} {row : Option Nat} (h : Facts W B A c L) (hg : W.grownBy W' row) (hr : ∀ r, row = some r → ∃ o : Obj, W.heap[r]? = some o ∧ o.isCells = false) : Facts W' B A c L := by
  refine ⟨⟨h.own.1, ?_⟩, fun f hf => ⟨(h.ok f hf).rd.turned hg hr, (h.ok f hf).cap, (h.ok f hf).few, (h.ok f hf).seq, (h.ok f hf).key⟩, fun f hf ad e => ⟨(h.lo f hf ad e).1, Nat.lt_of_lt_of_le (h.lo f hf ad e).2 hg.size⟩, h.ap⟩
  rcases h.own.2 with h0 | ⟨g, cap, cur, e1, hbg, hgb, r⟩
  · exact .inl h0
  · refine .inr ⟨g, cap, cur, e1, hbg, (hg.block g (Array.getElem?_eq_some_iff.1 hgb).1 fun e2 => ?_).trans hgb, r⟩
    obtain ⟨o', ho', hoc'⟩ := hr _ e2.symm
    rw [hgb] at ho'
    injection ho' with ho'
    subst ho'
    cases hoc'
theorem Blk.turned {W W' : World} {g : Nat} {t : TypeId} {cs : Array Value} {row : Option Nat} (h : Blk W g t cs) (hg : W.grownBy W' row) (hr : ∀ r, row = some r → ∃ o : Obj, W.heap[r]? = some o ∧ o.isCells = false) : Blk W' g t cs :=
  (hg.block g h.lt fun e2 => by
    obtain ⟨o', ho', hoc'⟩ := hr _ e2.symm
    rw [show W.heap[g]? = some (.cells cs t (0, 0)) from h] at ho'
    injection ho' with ho'
    subst ho'
    cases hoc').trans h
theorem over_any (A : Option Addr) (n c : Nat) (w : World) :
    Calls Try.prog 83 #[.slice A n c] w fun e w' => e = .returned (.func (.func 104) #[] #[.pointer (some ⟨w.heap.size, 0, none⟩)]) ∧ w' = w.alloc (.cells #[.slice A n c] 56) := by
  go_enter Try.func83, Try.ntmps83
  go_wp2_with fail
  go_ret
  exact ⟨rfl, rfl⟩
theorem all_any (g : Nat) (A : Option Addr) (c : Nat) (l : List FM) (w : World) (h : TblAt w g A l c) :
    Calls Try.prog 39 #[.pointer (some ⟨g, 0, none⟩)] w fun e w' => e = .returned (.func (.func 104) #[] #[.pointer (some ⟨w.heap.size, 0, none⟩)]) ∧ w' = w.alloc (.cells #[.slice A l.length c] 56) := by
  have x0 : w.cell? ⟨g, 0, none⟩ = some (.slice A l.length c) := h.blk.cell 0
  have ho := over_any A l.length c w
  clear h
  go_enter Try.func39, Try.ntmps39
  go_wp2_with fail
  refine ho.mono ?_
  rintro e w1 ⟨rfl, rfl⟩
  go_wp2_with fail
  go_ret
  exact ⟨rfl, rfl⟩
/-- a row of facts that a call has made, in a box -/
structure BoxF (w0 : World) (g n : Nat) (pre : List FM) (W : World) : Prop where
  out : ∃ A c, Blk W g 56 #[.slice A pre.length c] ∧ Facts W n A c pre
  bel : Below g w0 W
  siz : n ≤ W.heap.size
theorem BoxF.own (w0 : World) (g n B : Nat) (hgB : g < B) : OwnFrom B (BoxF w0 g n) := fun s A C row hs hg hr => by
  obtain ⟨⟨A', c', hB, hF⟩, hb, hz⟩ := hs
  have hr2 : ∀ r, row = some r → ∃ o : Obj, A.heap[r]? = some o ∧ o.isCells = false := fun r e => (hr r e).2
  exact ⟨⟨A', c', hB.turned hg hr2, hF.turned hg hr2⟩, hb.trans ⟨hg.os, hg.tape, hg.output, hg.size, fun k hk => hg.block k (Nat.lt_trans hk hB.lt) fun e => by have := (hr k e.symm).1; omega⟩, Nat.le_trans hz hg.size⟩
def AllPost (w : World) (l : List FM) (e : Ending) (w' : World) : Prop := ∃ A c xs, e = .returned (.slice A xs.length c) ∧ xs.map FM.fv = l.map FM.fv ∧ Facts w' w.heap.size A c xs ∧ Below w.heap.size w w'
theorem lawAll_any (g : Nat) (A : Option Addr) (c : Nat) (l : List FM) (w : World) (h : TblAt w g A l c) (hA : ∀ ad, A = some ad → ad.block < w.heap.size) (hok : ∀ f ∈ l, f.ok w) (hlo : ∀ f ∈ l, ∀ ad, f.A = some ad → ad.block < w.heap.size) (hl : l.length ≤ 1048576) :
    Calls Try.prog 85 #[.pointer (some ⟨g, 0, none⟩)] w (AllPost w l) := by
  refine (callsIn_wide (n := 0)).1 ?_
  have hBo := Blk.new w 56 #[.slice none 0 0]
  have hb0 := (Below.refl w.heap.size w).alloc (Nat.le_refl _) (.cells #[.slice none 0 0] 56)
  have hT1 : TblAt (w.alloc (.cells #[.slice none 0 0] 56)) g A l c := ⟨h.blk.below' hb0, h.rd.below hb0, h.cap⟩
  have hall := all_any g A c l _ hT1
  refine callsIn_of_wp_marks Try.func85 rfl trivial ?_ rfl
  simp only [Try.ntmps85, List.size_toArray, List.length_cons, List.length_nil, Nat.reduceAdd, Nat.reduceSub, Array.replicate_succ, Array.replicate_zero, List.push_toArray, List.append_toArray, List.nil_append, List.cons_append]
  gi_wp2
  refine ⟨trivial, rfl, (callsIn_wide.2 hall).mono ?_⟩
  rintro e w2 ⟨rfl, rfl⟩
  gi_wp2
  generalize hg0 : w.heap.size = gB at *
  have HG := Lib.hid hg0
  obtain ⟨W0, hW0⟩ : ∃ W0, (w.alloc (.cells #[.slice none 0 0] 56)).alloc (.cells #[.slice A l.length c] 56) = W0 := ⟨_, rfl⟩
  have hs0 : W0.heap.size = gB + 2 := by rw [← hW0, World.size_alloc, World.size_alloc, hg0]
  have hb00 : Below gB w W0 := by
    rw [← hW0, ← hg0]
    exact ((Below.refl _ w).alloc (Nat.le_refl _) _).alloc (by simp) _
  have hBo0 : Blk W0 gB 56 #[.slice none 0 0] := by rw [← hW0]; exact hBo.alloc _
  have hBv0 : Blk W0 (gB + 1) 56 #[.slice A l.length c] := by
    rw [← hW0]
    have := Blk.new (w.alloc (.cells #[.slice none 0 0] 56)) 56 #[.slice A l.length c]
    rwa [World.size_alloc, hg0] at this
  rw [hW0]
  have hr0 : Rd W0 A (fcells l) := h.rd.under hb00 hA
  have hok0 : ∀ f ∈ l, f.ok W0 := fun f hf => ⟨(hok f hf).rd.under hb00 (hlo f hf), (hok f hf).cap, (hok f hf).few, (hok f hf).seq, (hok f hf).key⟩
  clear hall hT1 hBo hb0 h hok hW0
  refine wpIn_each (gf := 104) (lb := #[.pointer (some ⟨gB + 1, 0, none⟩)]) rfl (enters_of Try.func104 (by kernel_rfl) rfl) (enc := FM.val) (n₀ := gB + 2) (X := (· = gB)) (M := FreshL _) (S := fun xs => xs.map FM.fv = l.map FM.fv)
    (by omega) (over1_each (gB + 1) (gB + 2) (· = gB) A c l W0 hBv0 hr0 (fun ad e => by have := hA ad e; omega) hok0 (fun f hf ad e => by have := hlo f hf ad e; omega) (by omega) hl) rfl
    (BoxF w gB (gB + 2)) (fun _ _ _ => False) (BoxF.own w gB (gB + 2) _ (by omega)) (fun _ _ _ _ _ hs _ _ => hs) ⟨⟨none, 0, hBo0, Facts.nil _ _⟩, hb00, by omega⟩ ?round ?done ?stop
  case round =>
    rintro lr pre ⟨xk, xn, xA, xc, xl⟩ W1 W hlr ⟨⟨A1, c1, hB1, hF1⟩, hbw, hz1⟩ hb1 ⟨⟨hxo, hxf⟩, _⟩ hlen ⟨r0, hr0'⟩
    have hlrs : lr < W.heap.size := (Array.getElem?_eq_some_iff.1 hr0').1
    have hB := hB1.below' hb1
    have hF := hF1.below hb1
    have hgs := hB1.lt
    have hbw2 : Below gB w W := hbw.trans (hb1.mono (Nat.le_of_lt hgs))
    simp only [FM.val]
    have hbx := (Below.refl W.heap.size W).alloc (Nat.le_refl _) (.cells #[.string xk, .int .u64 (xn : Nat), .slice xA xl.length xc] 71)
    gi_wp2
    refine ⟨KeepsOthers.alloc _ _, Exc.below hbx (by omega), fun r => ?_⟩
    have hBx := Blk.new W 71 #[.string xk, .int .u64 (xn : Nat), .slice xA xl.length xc]
    have hB2 := hB.below' hbx
    have hF2 := hF.below hbx
    have hx2 := hxo.below hbx
    have hbw3 : Below gB w (W.alloc (.cells #[.string xk, .int .u64 (xn : Nat), .slice xA xl.length xc] 71)) := hbw2.trans (hbx.mono (by omega))
    have hrow : ∀ q, some lr = some q → ∃ o : Obj, (W.alloc (.cells #[.string xk, .int .u64 (xn : Nat), .slice xA xl.length xc] 71)).heap[q]? = some o ∧ o.isCells = false := fun q e => by
      injection e with e
      subst e
      exact ⟨_, (hbx.block _ hlrs).trans hr0', rfl⟩
    have hsW2 := hbx.size
    have hsz2 : gB + 1 < (W.alloc (.cells #[.string xk, .int .u64 (xn : Nat), .slice xA xl.length xc] 71)).heap.size := by simp; omega
    generalize W.alloc (.cells #[.string xk, .int .u64 (xn : Nat), .slice xA xl.length xc] 71) = W2 at *
    have hg3 := grownBy_putObj' W2 lr (.loop r)
    have hB3 := hB2.turned hg3 hrow
    have hF3 := hF2.turned hg3 hrow
    have hx3 : (⟨xk, xn, xA, xc, xl⟩ : FM).ok (W2.putObj lr (.loop r)) := ⟨hx2.rd.turned hg3 hrow, hx2.cap, hx2.few, hx2.seq, hx2.key⟩
    have hBx3 := hBx.turned hg3 hrow
    have hbw4 : Below gB w (W2.putObj lr (.loop r)) := hbw3.trans (below_putObj W2 _ (by omega))
    have hsW3 := hg3.size
    have hs3 : gB + 1 < (W2.putObj lr (.loop r)).heap.size := Nat.lt_of_lt_of_le hsz2 hg3.size
    generalize W2.putObj lr (.loop r) = W3 at *
    have y0 : W3.cell? ⟨gB, 0, none⟩ = some (.slice A1 pre.length c1) := hB3.cell 0
    have z0 := hBx3.cell 0
    have z1 := hBx3.cell 1
    have z2 := hBx3.cell 2
    have hbq := (Below.refl W3.heap.size W3).alloc (Nat.le_refl _) (.cells #[.string xk, .int .u64 (xn : Nat), .slice xA xl.length xc] 71)
    have hF4 := hF3.below hbq
    have hB4 := hB3.below' hbq
    have hx4 := hx3.below hbq
    have hs4 : gB + 2 ≤ (W3.alloc (.cells #[.string xk, .int .u64 (xn : Nat), .slice xA xl.length xc] 71)).heap.size := by simp; omega
    gi_wp2_with (gi_at_builtin; refine wpListIn_app rfl _ _ rfl slF (gB + 2) (.slice A1 pre.length c1) pre.length (fcells pre) rfl hF4.own _ 1 1 [.string xk, .int .u64 (xn : Nat), .slice xA xl.length xc] rfl rfl (Rd.many _ _ _) (by simp [Value.oneCell']) (by unfold maxLen; omega) (by omega) hs4 ?_; intro A9 c9 w9 ho9 hg9; have hB9 := hB4.grown hg9.grown (fun e => by have := (hF4.own.lt gB e.symm).1; omega); have q0 := hB9.cell 0; have qf := hB9.frozen 0)
    have hu9 := hg9.under hF4.own (Nat.le_refl _) hs4
    have hF9 := hF4.app (M := [⟨xk, xn, xA, xc, xl⟩]) (fun f hf => by rw [List.mem_singleton.1 hf]; exact hx4) (fun f hf ad e => by
      rw [List.mem_singleton.1 hf] at e
      have := hxf ad e
      have h1 := hb1.size
      refine ⟨by omega, ?_⟩
      obtain ⟨_, h3⟩ := this
      simp only [World.size_alloc]
      omega) (fun f hf ad e e2 => by
      rw [List.mem_singleton.1 hf] at e
      have h1 := (hF1.own.lt _ e2).2
      have h2 := (hxf ad e).1
      omega) ho9 hg9
    have hF9s := hF9.but (But.set gB 0 w9 (.slice A9 (pre.length + 1) c9)) (by omega)
    have hBs := hB9.set 0 (.slice A9 (pre.length + 1) c9)
    refine ⟨((KeepsOthers.alloc _ _).trans (KeepsOthers.of_grownBy hg9.grown fun j o e ho => ?_)).trans (KeepsOthers.setCell _ _ _), ((Exc.below hbq (by omega)).trans (Exc.below hu9 (Nat.le_refl _))).trans (Exc.setEq _ _ _ _ _), ⟨A9, c9, by rw [List.length_append]; exact hBs, hF9s⟩, ?_, by have := hg9.grown.size; simp only [World.size_alloc] at this; simp; omega⟩
    · rcases hF4.own.2 with ⟨h0, _⟩ | ⟨q, cap, cur, e1, _, hgb, _⟩
      · rw [h0] at e; cases e
      · rw [e1] at e
        injection e with e
        subst e
        rw [hgb] at ho
        injection ho with ho
        subst ho
        rfl
    · exact ((hbw4.trans (hbq.mono (by omega))).trans (hu9.mono (by omega))).trans (Below.setCell (Below.refl gB w9) (p := ⟨gB, 0, none⟩) (Nat.le_refl _) _)
  case done =>
    rintro D xs W hD hS ⟨⟨A', c', hB, hF⟩, hb, hz⟩ hK
    have y0 : W.cell? ⟨gB, 0, none⟩ = some (.slice A' xs.length c') := hB.cell 0
    gi_wp2
    refine ⟨by simp, .inl ⟨_, _, rfl, run_takeDeferred hK, ?_⟩⟩
    have hg3 := grownBy_putObj' W D (.deferred none)
    have hrow : ∀ q, some D = some q → ∃ o : Obj, W.heap[q]? = some o ∧ o.isCells = false := fun q e => by
      injection e with e
      subst e
      exact ⟨_, hK, rfl⟩
    refine ⟨_, results_tmp rfl _ _ _, A', c', xs, rfl, hS, (hF.turned hg3 hrow).mono (by rw [hg0]; omega), ?_⟩
    rw [hg0]
    exact hb.trans (below_putObj W _ (by omega))
  case stop =>
    rintro D c pre W _ h _
    exact h.elim
end Go.Proofs.Ytadgaphgomagkaa
