/- The sequence over facts: each is handed on, apart. -/
import Derived.Test.YtadgaphgomagkaaLu
import Derived.Test.YtadgaphgomagkaaLf
import Derived.RangeFuncNested
import Derived.RangeFuncBound
import Derived.RangeFuncCalls
import Derived.RangeFuncLeaves
import Derived.Shelf.Abstract
import Derived.Shelf.RegionOpen
import Derived.WalkKit
import Derived.OwnWalkIn
import Derived.TacticsInMore
import Derived.LoopNIn
import Derived.LoopIn
namespace Go.Proofs.Ytadgaphgomagkaa
open Go.RowKit Go.Shelf
attribute [local go_sem] Oper.semAt_some
set_option maxHeartbeats 4000000
set_option maxRecDepth 100000

/-- what a round is told of the fact that it is handed -/
def FreshM (x : FM) (W0 W : World) : Prop := x.ok W ∧ ∀ ad, x.A = some ad → W0.heap.size ≤ ad.block ∧ ad.block < W.heap.size
/-- .. and where among a row's facts it stands -/
def FreshL (l : List FM) (pre : List FM) (x : FM) (W0 W : World) : Prop := FreshM x W0 W ∧ (pre ++ [x]).map FM.fv = (l.take (pre.length + 1)).map FM.fv
theorem Rd.exc {w w' : World} {A : Option Addr} {xs : List Value} {n₀ g : Nat} (h : Rd w A xs) (hb : Exc n₀ g w w') (hA : ∀ ad, A = some ad → ad.block < n₀ ∧ ad.block ≠ g) : Rd w' A xs := fun hn => by
  obtain ⟨ad, e, hlt, hc⟩ := h hn
  refine ⟨ad, e, Nat.lt_of_lt_of_le hlt hb.size, fun j u hu => ?_⟩
  rw [World.cell?_of_block (w := w) (hb.block _ (by rw [add_block]; exact (hA ad e).1) (by rw [add_block]; exact (hA ad e).2))]
  exact hc j u hu
theorem over1_each (B n₀ g₀ : Nat) (A : Option Addr) (c : Nat) (l : List FM) (w : World) (hB : Blk w B 56 #[.slice A l.length c]) (hr : Rd w A (fcells l)) (hA : ∀ ad, A = some ad → ad.block < n₀ ∧ ad.block ≠ g₀)
    (hok : ∀ f ∈ l, f.ok w) (hlo : ∀ f ∈ l, ∀ ad, f.A = some ad → ad.block < n₀ ∧ ad.block ≠ g₀) (hn : n₀ ≤ w.heap.size) (hl : l.length ≤ 1048576) :
    EachM Try.prog 104 #[.pointer (some ⟨B, 0, none⟩)] FM.val n₀ g₀ (FreshL l) (fun xs => xs.map FM.fv = l.map FM.fv) l.length w := by
  intro lr J Jx W hW hJ hY h0
  have hBW := hB.below' hW
  have hrW := hr.below hW
  have hokW := fun f hf => (hok f hf).below hW
  have hnW : n₀ ≤ W.heap.size := Nat.le_trans hn hW.size
  have x0 : W.cell? ⟨B, 0, none⟩ = some (.slice A l.length c) := hBW.cell 0
  clear hB hr hok hW
  refine callsIn_of_wp Try.func104 rfl trivial ?_ rfl
  simp only [Try.ntmps104, List.size_toArray, List.length_cons, List.length_nil, Nat.reduceAdd, Nat.reduceSub, Array.replicate_succ, Array.replicate_zero, List.push_toArray, List.append_toArray, List.nil_append, List.cons_append]
  gi_wp2
  gi_loopw [7] (fun i wr => ∃ (k : Nat) (xs : List FM), k ≤ l.length ∧ i = .int .i64 (k : Nat) ∧ xs.map FM.fv = (l.take k).map FM.fv ∧ J xs wr ∧ Exc n₀ g₀ W wr) (fun i _ => l.length - (intOf i).toNat)
  case atStart => exact ⟨0, [], Nat.zero_le _, rfl, rfl, h0, Exc.refl _ _ _⟩
  case round =>
    obtain ⟨k, xs, hk, rfl, hxs, hJs, hb⟩ := hrel
    by_cases hlt : k < l.length
    · have r1 : (k : Int) < (l.length : Int) := by omega
      have hrr := hrW.exc hb hA
      obtain ⟨ad, rfl, c0, c1, c2⟩ := facts_at hrr k hlt
      have hfo := hokW _ (List.getElem_mem hlt)
      have hfl := hlo _ (List.getElem_mem hlt)
      have htk : (l.take (k + 1)).map FM.fv = (l.take k).map FM.fv ++ [l[k].fv] := by
        rw [List.take_succ_eq_append_getElem hlt, List.map_append]
        rfl
      generalize l[k] = f at *
      have hfo2 : f.ok wr := ⟨hfo.rd.exc hb hfl, hfo.cap, hfo.few, hfo.seq, hfo.key⟩
      have hx := (Below.refl wr.heap.size wr).alloc (Nat.le_refl _) (.cells #[.string f.k, .int .u64 (f.s : Nat), .slice f.A f.l.length f.c] 71)
      have hBx := Blk.new wr 71 #[.string f.k, .int .u64 (f.s : Nat), .slice f.A f.l.length f.c]
      have hap := apart_any f _ (hfo2.below hx)
      simp only [FM.val] at hap
      have y0 := hBx.cell 0
      have y1 := hBx.cell 1
      have y2 := hBx.cell 2
      have hnr : n₀ ≤ wr.heap.size := Nat.le_trans hnW hb.size
      have HK := Lib.hid htk
      clear htk hrr hfo
      gi_wp2
      refine ⟨trivial, rfl, (callsIn_wide.2 hap).mono ?_⟩
      rintro e w3 ⟨A3, c3, rfl, ho3, hb3⟩
      clear hap y0 y1 y2 c0 c1 c2 hBx
      have hb03 := hx.trans (hb3.mono hx.size)
      have hM : FreshM ⟨f.k, f.s, A3, c3, f.l⟩ wr w3 := ⟨⟨Rd.of_own ho3, (own_cap ho3).1, hfo2.few, hfo2.seq, hfo2.key⟩, fun ad h => ⟨Nat.le_trans hx.size ((own_cap ho3).2.2 ad h).1, ((own_cap ho3).2.2 ad h).2⟩⟩
      have hxl : xs.length = k := by have := congrArg List.length hxs; simp only [List.length_map, List.length_take] at this; omega
      have hMl : (xs ++ [(⟨f.k, f.s, A3, c3, f.l⟩ : FM)]).map FM.fv = (l.take (xs.length + 1)).map FM.fv := by rw [hxl, List.map_append, hxs, HK.out]; rfl
      obtain ⟨fn, tmps, assign, body, hy, hR⟩ := hY xs ⟨f.k, f.s, A3, c3, f.l⟩ wr w3 hJs hb03 ⟨hM, hMl⟩ (by have := congrArg List.length hxs; simp only [List.length_map, List.length_take] at this; omega)
      simp only [FM.val] at hy
      have hbn3 := hb.trans (Exc.below (g := g₀) hb03 hnr)
      gi_wp2
      refine ⟨rfl, hR.mono ?_⟩
      rintro e w4 (⟨rfl, hJ4, hk4⟩ | ⟨rfl, hJx4⟩)
      · gi_wp2
        go_roundw
        case rel => exact ⟨k + 1, xs ++ [⟨f.k, f.s, A3, c3, f.l⟩], by omega, by go_num, by rw [List.map_append, hxs, HK.out]; rfl, hJ4, hbn3.trans hk4⟩
        case measure => simp only [intOf]; omega
      · gi_wp2
        refine bodyPost_ret (results_none rfl _ _ _) rfl ?_
        exact ⟨⟨_, rfl⟩, .inr ⟨_, hJx4⟩⟩
    · obtain rfl : k = l.length := by omega
      have r1 : ¬ (l.length : Int) < (l.length : Int) := by omega
      rw [List.take_length] at hxs
      gi_wp2
      go_end0
      exact ⟨⟨_, rfl⟩, .inl ⟨_, hxs, hJs⟩⟩
end Go.Proofs.Ytadgaphgomagkaa
