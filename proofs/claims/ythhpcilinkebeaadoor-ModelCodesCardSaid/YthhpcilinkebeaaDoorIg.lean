/- The abstract array: operations are done one after the other: the walk. -/
import Derived.Test.YthhpcilinkebeaaDoorIf
namespace Go.Proofs.YthhpcilinkebeaaDoor
open Go.RowKit Go.Maps
set_option maxHeartbeats 4000000
set_option maxRecDepth 100000

theorem slAn : SlT Tryd.prog 29 36 (.agg #[.int .i64 0, .slice none 0 0, .slice none 0 0]) 3 56 := ⟨Tryd.underlying29, by kernel_rfl, rfl, by decide⟩
def RunPost (w : World) (A M block quota : Nat) (ms : List VM) (r : List AnV × AV) (e : Ending) (w' : World) : Prop :=
  ∃ (L : List AnM) (O : Option Addr) (oc : Nat), e = .returned (.slice O L.length oc) ∧ L.map AnM.v = r.1 ∧ w'.ownsRow w.heap.size 36 3 (.slice O L.length oc) L.length (L.flatMap AnM.cells) ∧ (∀ x ∈ L, x.ok w w') ∧ TurnP w w' A M block quota ms r.2.vols
theorem Rd.keepN {S : Nat → Prop} {w w1 : World} {A : Option Addr} {xs : List Value} (h : Rd w A xs) (hc : Chg S w w1) (hA : xs ≠ [] → ∀ ad, A = some ad → ¬ S ad.block) : Rd w1 A xs := fun hn => (h.keepC hc (hA hn)) hn
theorem own_hasT {w : World} {base : Nat} {e : TypeId} {size n : Nat} {v : Value} {xs : List Value} (h : w.ownsRow base e size v n xs) {g : Nat} (hg : v.ownBlock = some g) : Has w g e := by
  rcases h.2 with ⟨h0, _⟩ | ⟨g', cap, cur, rfl, _, hb, _⟩
  · rw [h0] at hg; cases hg
  · have : g' = g := by simpa [Value.ownBlock] using hg
    subst this
    exact ⟨cur, _, hb⟩
theorem Chg.of_grew {w w' : World} {v v' : Value} (h : Grew w w' v v') : Chg (fun j => v.ownBlock = some j) w w' :=
  ⟨h.grown.os, h.grown.tape, h.grown.output, h.grown.size, fun k hk hn => h.grown.block k hk fun e => hn e.symm⟩
section
variable {w w1 w2 w3 w4 : World} {A M block quota : Nat} {ms ms1 ms2 : List VM} {v1 v2 : List (Bts × VV)}
theorem Turn.trans (h : Turn w w1 A M block quota ms v1 ms1) (hb : Below w1.heap.size w1 w2) (k : Turn w2 w3 A M block quota ms1 v2 ms2) : Turn w w3 A M block quota ms v2 ms2 := by
  refine ⟨k.arr, k.vol, (h.chg.below hb).trans' k.chg fun j hj hf => ?_, fun j hj => ?_⟩
  · rcases h.foot j hf with h0 | h0
    · exact h0
    · omega
  · rcases k.foot j hj with h0 | h0
    · exact h.foot j h0
    · exact .inr (Nat.le_trans (Nat.le_trans h.chg.size hb.size) h0)
theorem Turn.app (h : Turn w w1 A M block quota ms v1 ms1) {S : Nat → Prop} (hc : Chg S w1 w2) (hS : ∀ k, S k → Has w1 k 36 ∧ w.heap.size ≤ k) : Turn w w2 A M block quota ms v1 ms1 :=
  ⟨h.arr.keepT hc fun k hk => ⟨_, (hS k hk).1, by decide, by decide, by decide⟩, h.vol, h.chg.trans' hc fun k hk hs => by have := (hS k hs).2; omega, h.foot⟩
end
section
variable {w : World} {A M block quota : Nat} {ms : List VM}
theorem run_any (h : ArrAt w A M block quota ms) {nameE : Bts → Nat} (hN : NameC nameE Tabs) (hT : Tabs w) (l : List OM) {P : Option Addr} {c : Nat} (hrd : Rd w P (ocells l)) (hl : l.length ≤ 1000000) (hok : ∀ o ∈ l, o.ok w) (hP : ocells l ≠ [] → ∀ ad, P = some ad → ¬ Foot M ms ad.block) (hD : ∀ o ∈ l, byts o.l ≠ [] → ∀ ad, o.A = some ad → ¬ Foot M ms ad.block) :
    Calls Tryd.prog 13 #[.pointer (some ⟨A, 0, none⟩), .slice P l.length c] w (RunPost w A M block quota ms (runV nameE (avM block quota ms) (l.map OM.ov))) := by
  go_enter Tryd.func13, Tryd.ntmps13
  go_wp2_with fail
  go_loopg [5, 7, 10] l.length (fun m' s5 s7 s10 wr => ∃ (k : Nat) (O : Option Addr) (oc : Nat) (L : List AnM) (ms' : List VM), m' = l.length - k ∧ k ≤ l.length ∧ s10 = .int .i64 (k : Nat) ∧ s5 = .slice O k oc ∧ L.length = k ∧ L.map AnM.v = (runV nameE (avM block quota ms) ((l.take k).map OM.ov)).1 ∧
    wr.ownsRow w.heap.size 36 3 (.slice O k oc) k (L.flatMap AnM.cells) ∧ (∀ x ∈ L, x.ok w wr) ∧ Turn w wr A M block quota ms (runV nameE (avM block quota ms) ((l.take k).map OM.ov)).2.vols ms')
  case atStart => exact ⟨0, none, 0, [], ms, by omega, by omega, rfl, rfl, rfl, rfl, World.ownsRow_nil _ _ _ _, by simp, ⟨h, rfl, Chg.refl _ _, fun _ hk => .inl hk⟩⟩
  case round =>
    obtain ⟨k, O, oc, L, ms', rfl, hk, rfl, rfl, hLl, hLv, hown, hLo, ht⟩ := hrel
    by_cases hlt : k < l.length
    · have r1 : (k : Int) < (l.length : Int) := by omega
      have hrd2 := hrd.keepN ht.chg hP
      obtain ⟨ad, rfl, hadb, d0, d1, d2, d3, d4, d5⟩ := ops_at hrd2 k hlt
      have hom : l[k] ∈ l := List.getElem_mem hlt
      have HS := Lib.hid (runV_step nameE (avM block quota ms) l k hlt)
      have hokk : l[k].ok w := hok _ hom
      have hDk := hD _ hom
      generalize l[k] = o at *
      have he : (runV nameE (avM block quota ms) ((l.take k).map OM.ov)).2 = avM block quota ms' := by
        have h1 := runV_same nameE (avM block quota ms) ((l.take k).map OM.ov)
        have h2 := ht.vol
        cases hrv : (runV nameE (avM block quota ms) ((l.take k).map OM.ov)).2 with
        | mk b q v =>
          rw [hrv] at h1 h2
          obtain ⟨h1a, h1b⟩ := h1
          show _ = AV.mk block quota (volsM ms')
          rw [show volsM ms' = v from h2, ← (show b = block from h1a), ← (show q = quota from h1b)]
      have HS2 := Lib.hid (show runV nameE (avM block quota ms) ((l.take (k + 1)).map OM.ov) = (L.map AnM.v ++ [(doV nameE (avM block quota ms') o.ov).1], (doV nameE (avM block quota ms') o.ov).2) by rw [HS.out, he, hLv])
      have hTr := hT.keep h ht.chg
      have hbx := (Below.refl wr.heap.size wr).alloc (Nat.le_refl _) (.cells o.cells.toArray 33)
      have hokr : o.ok wr := ⟨hokk.rd.keepN ht.chg hDk, hokk.cap, hokk.few, hokk.name, hokk.dst, hokk.kind, hokk.at_, hokk.n⟩
      have hdo := do_any (ht.arr.below hbx) o (hokr.below hbx) hN (hN.keep _ _ hTr hbx)
      have hownx := own_below hown hbx
      have hLx := fun x hx => (hLo x hx).keep (Chg.of_below (S := fun _ => False) hbx) (fun _ h => h.elim)
      clear hok hD hrd hP HS he hLv
      generalize runV nameE (avM block quota ms) ((l.take k).map OM.ov) = rk at *
      generalize doV nameE (avM block quota ms') o.ov = r at *
      go_wp2_with fail
      refine hdo.mono ?_
      rintro e w2 ⟨v, rfl, hA, ms2, ht2⟩
      clear hdo d0 d1 d2 d3 d4 d5
      obtain ⟨x, hxv, rfl, hxo⟩ := hA.am
      obtain ⟨r1v, r2v⟩ := r
      replace hxv : x.v = r1v := hxv
      subst hxv
      have hsz := hbx.size
      have hown2 := own_keepC hownx ht2.chg fun g hg => (ht.arr.below hbx).not (own_hasT hownx hg) (by decide)
      have hL2 := fun y hy => (hLx y hy).keep ht2.chg (ht.arr.below hbx).nfoot
      have hT2 := ht.trans hbx ht2
      have hwr : w.heap.size ≤ w2.heap.size := hT2.chg.size
      have hx2 := hxo.base (Nat.le_trans ht.chg.size hsz)
      clear hA hxo ht2 ht hown hownx hLo hLx hbx hTr hokr hsz
      have hb3 := (Below.refl w2.heap.size w2).alloc (Nat.le_refl _) (.cells x.cells.toArray 36)
      have hown3 := own_below hown2 hb3
      have hT3 := hT2.trans hb3 ⟨hT2.arr.below hb3, hT2.vol, Chg.refl _ _, fun _ hk => .inl hk⟩
      have hrn := Rd.many w2 x.cells 36
      have hwr3 : w.heap.size ≤ (w2.alloc (.cells x.cells.toArray 36)).heap.size := Nat.le_trans hwr hb3.size
      have hL3 := fun y hy => (hL2 y hy).keep (Chg.of_below (S := fun _ => False) hb3) (fun _ h => h.elim)
      have hx3 := hx2.keep (Chg.of_below (S := fun _ => False) hb3) (fun _ h => h.elim)
      have hnc : ∀ u ∈ x.cells, u.oneCell' = true := by
        intro u hu
        simp only [AnM.cells, List.mem_cons, List.not_mem_nil, or_false] at hu
        rcases hu with rfl | rfl | rfl <;> rfl
      clear hown2 hL2 hx2 hT2 hb3 hwr
      have hce : x.cells.toArray = #[.int .i64 (x.v.err : Nat), .slice x.B x.v.data.length x.c, .slice x.D x.v.vols.length x.c2] := rfl
      simp only [hce] at hown3 hT3 hrn hwr3 hL3 hx3
      rw [hce]
      have HCE := Lib.hid hce
      clear hce
      go_wp2_with (at_builtin; refine wpList_app _ rfl _ _ rfl slAn w.heap.size (.slice O k oc) k _ rfl hown3 _ 1 1 x.cells rfl rfl hrn hnc (by unfold maxLen; omega) (by omega) hwr3 ?_; intro A7 c7 w7 ho7 hg7)
      have hc7 := Chg.of_grew hg7
      have hS7 := fun j (hj : (Value.slice O k oc).ownBlock = some j) => own_hasT hown3 hj
      have hT7 := hT3.app hc7 fun j hj => ⟨hS7 j hj, (hown3.lt j hj).1⟩
      have hN7 : ∀ j, (Value.slice O k oc).ownBlock = some j → ¬ Has _ j 5 ∧ ¬ Has _ j 47 := fun j hj => ⟨fun hh => hh.ne (hS7 j hj) (by decide) rfl, fun hh => hh.ne (hS7 j hj) (by decide) rfl⟩
      go_roundg (l.length - (k + 1))
      case measure => omega
      case rel =>
        refine ⟨k + 1, A7, c7, L ++ [x], ms2, rfl, hlt, by go_num, rfl, by simp [hLl], by rw [HS2.out]; simp, ?_, ?_, ?_⟩
        · rw [List.flatMap_append]
          simpa using ho7
        · intro y hy
          rcases List.mem_append.1 hy with hy | hy
          · exact (hL3 y hy).keep hc7 hN7
          · rw [List.mem_singleton.1 hy]
            exact hx3.keep hc7 hN7
        · rw [HS2.out]
          exact hT7
    · have r1 : ¬ (k : Int) < (l.length : Int) := by omega
      have hke : k = l.length := by omega
      subst hke
      go_wp2_with fail
      go_ret
      rw [List.take_length] at hLv ht
      exact ⟨L, O, oc, by rw [hLl]; rfl, hLv, by rw [hLl]; exact hown, hLo, _, ht⟩
end
end Go.Proofs.YthhpcilinkebeaaDoor
