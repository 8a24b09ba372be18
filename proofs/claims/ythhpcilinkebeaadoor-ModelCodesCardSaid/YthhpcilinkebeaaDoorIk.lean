/- The abstract array as a state by value: what the laws do with it. -/
import Derived.Test.YthhpcilinkebeaaDoorIj
namespace Go.Proofs.YthhpcilinkebeaaDoor
open Go.RowKit Go.Maps
set_option maxHeartbeats 4000000
set_option maxRecDepth 100000

/-- blocks that an array of a law may change -/
def SM (w0 w : World) (k : Nat) : Prop := w0.heap.size ≤ k ∧ (Has w k 95 ∨ IsMp w k)
theorem SM.not {w0 w : World} {k : Nat} {t : TypeId} (hk : Has w k t) (ht : t ≠ 95) : ¬ SM w0 w k := fun h => by
  rcases h.2 with h1 | h1
  · exact hk.ne h1 ht rfl
  · exact hk.notMp h1
theorem SM.lo {w0 w : World} {k : Nat} (hk : k < w0.heap.size) : ¬ SM w0 w k := fun h => by have := h.1; omega
structure MdS (w0 w : World) (A M block quota : Nat) (vols : List (Bts × VV)) : Prop where
  st : ∃ ms, ArrAt w A M block quota ms ∧ volsM ms = vols ∧ ∀ k, Foot M ms k → w0.heap.size ≤ k
  below : Below w0.heap.size w0 w
  tabs : Tabs w
section
variable {w0 w w' : World} {A M block quota : Nat} {vols : List (Bts × VV)}
theorem MdS.sub (h : MdS w0 w A M block quota vols) (hb : Below w.heap.size w w') : MdS w0 w' A M block quota vols := by
  obtain ⟨⟨ms, h1, h2, h3⟩, h4, h5⟩ := h
  exact ⟨⟨ms, h1.below hb, h2, h3⟩, h4.trans (hb.mono h4.size), nameC.keep _ _ h5 hb⟩
theorem MdS.turn {ms : List VM} (h1 : ArrAt w A M block quota ms) (h3 : ∀ k, Foot M ms k → w0.heap.size ≤ k) (h4 : Below w0.heap.size w0 w) (h5 : Tabs w) (ht : TurnP w w' A M block quota ms vols) : MdS w0 w' A M block quota vols ∧ Chg (SM w0 w) w w' := by
  obtain ⟨ms', t⟩ := ht
  refine ⟨⟨⟨ms', t.arr, t.vol, fun k hk => ?_⟩, ?_, h5.keep h1 t.chg⟩, t.chg.mono fun k _ hk => ⟨h3 k hk, (h1.foot hk).2⟩⟩
  · rcases t.foot k hk with h | h
    · exact h3 k h
    · exact Nat.le_trans h4.size h
  · exact t.chg.toBelow h4 h3 h4.size
theorem md_new (block quota : Nat) (h1 : 1 ≤ block) (h2 : block ≤ 65536) (h3 : quota ≤ 1073741824) (hb : Below w0.heap.size w0 w) (hT : Tabs w) :
    Calls Tryd.prog 12 #[.int .i64 (block : Nat), .int .i64 (quota : Nat)] w fun e w' => ∃ A M, e = .returned (.tuple #[.pointer (some ⟨A, 0, none⟩), .int .i64 0]) ∧ MdS w0 w' A M block quota [] ∧ Below w.heap.size w w' := by
  refine (new_any block quota h1 h2 h3 w).mono ?_
  rintro e w' ⟨A, M, rfl, hA, _, hM, hb2⟩
  refine ⟨A, M, rfl, ⟨⟨[], hA, rfl, fun k hk => ?_⟩, hb.trans (hb2.mono hb.size), nameC.keep _ _ hT hb2⟩, hb2⟩
  rcases hk with rfl | ⟨m, hm, _⟩
  · exact Nat.le_trans hb.size hM
  · cases hm
theorem md_do (h : MdS w0 w A M block quota vols) (o : OM) (hok : o.ok w) : Calls Tryd.prog 14 #[.pointer (some ⟨A, 0, none⟩), o.val] w fun e w' =>
    ∃ v, e = .returned v ∧ AnsAt w w' v (doV nameE ⟨block, quota, vols⟩ o.ov).1 ∧ MdS w0 w' A M block quota (doV nameE ⟨block, quota, vols⟩ o.ov).2.vols ∧ Chg (SM w0 w) w w' := by
  obtain ⟨⟨ms, h1, rfl, h3⟩, h4, h5⟩ := h
  refine (do_any h1 o hok nameC h5).mono ?_
  rintro e w' ⟨v, rfl, hA, ht⟩
  exact ⟨v, rfl, hA, MdS.turn h1 h3 h4 h5 ht⟩
theorem md_run (h : MdS w0 w A M block quota vols) (l : List OM) {P : Option Addr} {c : Nat} (hrd : Rd w P (ocells l)) (hl : l.length ≤ 1000000) (hok : ∀ o ∈ l, o.ok w) (hP : ocells l ≠ [] → ∀ ad, P = some ad → ¬ SM w0 w ad.block) (hD : ∀ o ∈ l, byts o.l ≠ [] → ∀ ad, o.A = some ad → ¬ SM w0 w ad.block) :
    Calls Tryd.prog 13 #[.pointer (some ⟨A, 0, none⟩), .slice P l.length c] w fun e w' => ∃ (L : List AnM) (O : Option Addr) (oc : Nat), e = .returned (.slice O L.length oc) ∧ L.map AnM.v = (runV nameE ⟨block, quota, vols⟩ (l.map OM.ov)).1 ∧ w'.ownsRow w.heap.size 36 3 (.slice O L.length oc) L.length (L.flatMap AnM.cells) ∧ (∀ x ∈ L, x.ok w w') ∧
      MdS w0 w' A M block quota (runV nameE ⟨block, quota, vols⟩ (l.map OM.ov)).2.vols ∧ Chg (SM w0 w) w w' := by
  obtain ⟨⟨ms, h1, rfl, h3⟩, h4, h5⟩ := h
  have hS : ∀ k, Foot M ms k → SM w0 w k := fun k hk => ⟨h3 k hk, (h1.foot hk).2⟩
  refine (run_any h1 nameC h5 l hrd hl hok (fun hn ad e hf => hP hn ad e (hS _ hf)) (fun o ho hn ad e hf => hD o ho hn ad e (hS _ hf))).mono ?_
  rintro e w' ⟨L, O, oc, rfl, hL, hown, hLo, ht⟩
  exact ⟨L, O, oc, rfl, hL, hown, hLo, MdS.turn h1 h3 h4 h5 ht⟩
theorem md_block (h : MdS w0 w A M block quota vols) (s : ByteArray) (hs : s.size ≤ 1048576) (i : Int) (hi : I64 i) :
    Calls Tryd.prog 15 #[.pointer (some ⟨A, 0, none⟩), .string s, .int .i64 i] w fun e w' => BlockPost w (blockV block (getV vols (strB s)) i) e w' := by
  obtain ⟨⟨ms, h1, rfl, h3⟩, h4, h5⟩ := h
  have := block_any h1 s hs i hi
  rwa [← getM_vv] at this
end
/-- the value model: what is laid in, taken out -/
theorem getV_put (l : List (Bts × VV)) (n : Bts) (v : VV) (s : Bts) : getV (putV l n v) s = if s = n then some v else getV l s := by
  induction l with
  | nil =>
    show (if n = s then some v else none) = if s = n then some v else none
    by_cases e : s = n
    · rw [if_pos e.symm, if_pos e]
    · rw [if_neg (fun h => e h.symm), if_neg e]
  | cons x r ih =>
    obtain ⟨m, u⟩ := x
    rw [putV]
    by_cases h1 : n = m
    · rw [if_pos h1, getV, getV]
      by_cases e : s = n
      · rw [if_pos e.symm, if_pos e]
      · rw [if_neg (fun h => e h.symm), if_neg e, if_neg (fun h => e (h1.trans h).symm)]
    · rw [if_neg h1]
      by_cases h2 : n < m
      · rw [if_pos h2, getV]
        by_cases e : s = n
        · rw [if_pos e.symm, if_pos e]
        · rw [if_neg (fun h => e h.symm), if_neg e]
      · rw [if_neg h2, getV, ih, getV]
        by_cases e : s = n
        · rw [if_pos e, if_pos e, if_neg (fun h => h1 (e.symm.trans h.symm))]
        · rw [if_neg e, if_neg e]
theorem getV_del (l : List (Bts × VV)) (n s : Bts) (h : s ≠ n) : getV (delV l n) s = getV l s := by
  induction l with
  | nil => rfl
  | cons x r ih =>
    obtain ⟨m, u⟩ := x
    unfold delV at *
    rw [List.filter_cons]
    by_cases e : m = n
    · rw [if_neg (by simp [e]), ih]
      show _ = if m = s then some u else getV r s
      rw [if_neg (fun h2 => h (h2.symm.trans e))]
    · rw [if_pos (by simp [e])]
      show (if m = s then some u else getV (List.filter (fun x => decide (x.1 ≠ n)) r) s) = if m = s then some u else getV r s
      rw [ih]
theorem freshV0 {av : AV} {s : Bts} {x : Int} (h : freshV av s x = 0) : getV av.vols s = none := by
  unfold freshV at h
  have h1 := wh0 (fv0 h (whenV (getV av.vols s).isSome 9) (by simp)) (by decide)
  cases hg : getV av.vols s with
  | none => rfl
  | some m => rw [hg] at h1; cases h1
theorem ifs {α : Type} {k : Int} {a1 a2 a3 a4 a5 a6 a8 a9 : α} (j : Int) (hj : k = j) (x : α) (h : (if j = 1 then a1 else if j = 2 then a2 else if j = 3 then a3 else if j = 4 then a4 else if j = 5 then a5 else if j = 6 ∨ j = 7 then a6 else if j = 8 then a8 else a9) = x) :
    (if k = 1 then a1 else if k = 2 then a2 else if k = 3 then a3 else if k = 4 then a4 else if k = 5 then a5 else if k = 6 ∨ k = 7 then a6 else if k = 8 then a8 else a9) = x := by subst hj; exact h
/-- an operation that does not touch a volume leaves it -/
theorem doV_keep {av : AV} {o : OV} {s : Bts} (h : (getV av.vols s).isSome = true) (ht : ¬ (o.name = s ∧ o.kind ≠ 3 ∧ o.kind ≠ 6 ∧ o.kind ≠ 7)) : getV (doV nameE av o).2.vols s = getV av.vols s := by
  by_cases hc : checkV nameE av o = 0
  · have hr := check_right hc
    have hcc := hc
    rw [doV_ok hc]
    unfold checkV at hcc
    rw [if_neg (by rw [hr]; simp)] at hcc
    dsimp only at hcc ⊢
    have hn : o.kind ≠ 3 → o.kind ≠ 6 → o.kind ≠ 7 → ¬ s = o.name := fun h1 h2 h3 e => ht ⟨e.symm, h1, h2, h3⟩
    have hd : getV av.vols o.dst = none → ¬ s = o.dst := fun h1 e => by rw [e, h1] at h; cases h
    rcases right_kind hr with hk | hk | hk | hk | hk | hk | hk | hk | hk
    · rw [ifs 1 hk _ rfl]
      exact (getV_put _ _ _ _).trans (if_neg (hn (by omega) (by omega) (by omega)))
    · rw [ifs 2 hk _ rfl]
      exact getV_del _ _ _ (hn (by omega) (by omega) (by omega))
    · rw [ifs 3 hk _ rfl]
      rfl
    · rw [ifs 4 hk _ rfl]
      exact (getV_put _ _ _ _).trans (if_neg (hn (by omega) (by omega) (by omega)))
    · rw [ifs 5 hk _ rfl]
      exact (getV_put _ _ _ _).trans (if_neg (hn (by omega) (by omega) (by omega)))
    · rw [ifs 6 hk _ rfl]
      rw [hk, if_neg (by decide), if_neg (by decide), if_neg (by decide), if_neg (by decide), if_neg (by decide), if_pos rfl] at hcc
      exact (getV_put _ _ _ _).trans (if_neg (hd (freshV0 (fv0 hcc _ (by simp; exact .inr (.inr (.inr rfl)))))))
    · rw [ifs 7 hk _ rfl]
      rw [hk, if_neg (by decide), if_neg (by decide), if_neg (by decide), if_neg (by decide), if_neg (by decide), if_neg (by decide), if_pos rfl] at hcc
      exact (getV_put _ _ _ _).trans (if_neg (hd (freshV0 (fv0 hcc _ (by simp; exact .inr (.inr (.inr rfl)))))))
    · rw [ifs 8 hk _ rfl]
      exact (getV_put _ _ _ _).trans (if_neg (hn (by omega) (by omega) (by omega)))
    · rw [ifs 9 hk _ rfl]
      rfl
  · unfold doV
    rw [if_pos hc]
end Go.Proofs.YthhpcilinkebeaaDoor
