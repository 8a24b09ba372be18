/- Facts that are sorted where they lie: what memory holds; the order of facts. -/
import Derived.Test.YtadgaphgomagkaaQa
import Derived.Test.YtadgaphgomagkaaTd
import Derived.Test.YtadgaphgomagkaaTf
import Derived.Laws.IdiomCopy
namespace Go.Proofs.Ytadgaphgomagkaa
open Go.RowKit
set_option maxHeartbeats 4000000
set_option maxRecDepth 100000

/-- one fact comes ahead of another -/
def ltF (a b : FM) : Bool := decide (cmpF a b < 0)
theorem ltF_iff (a b : FM) : ltF a b = true ↔ bl (strB a.k) (strB b.k) ∨ (strB a.k = strB b.k ∧ b.s < a.s) := by
  have hk : (a.k.toList == b.k.toList) = decide (strB a.k = strB b.k) := key_eq _ _
  have hl : Op.bytesLess a.k.toList b.k.toList = sLt a.k b.k := rfl
  unfold ltF cmpF orI cmpS cmpN sGt
  rw [hk, hl]
  by_cases h1 : sLt a.k b.k = true
  · simp [h1, (sLt_iff a.k b.k).1 h1]
  · have h2 : ¬ bl (strB a.k) (strB b.k) := fun h => h1 ((sLt_iff a.k b.k).2 h)
    by_cases h3 : strB a.k = strB b.k
    · simp only [h1, h3]
      by_cases h4 : b.s < a.s
      · simp [h4]
      · by_cases h5 : a.s < b.s <;> simp [h4, h5, bl_irrefl]
    · simp [h1, h2, h3]
theorem ltF_no (a b : FM) : ltF a b = false ↔ ¬ bl (strB a.k) (strB b.k) ∧ ¬ (strB a.k = strB b.k ∧ b.s < a.s) := by
  rw [← Bool.not_eq_true, ltF_iff]
  exact not_or
theorem ltF_wk : Wk ltF := by
  refine ⟨fun x => ?_, fun x y z h1 h2 => ?_, fun x y h => ?_⟩
  · rw [ltF_no]
    exact ⟨bl_irrefl _, fun h => by omega⟩
  · rw [ltF_no] at *
    obtain ⟨a1, a2⟩ := h1
    obtain ⟨b1, b2⟩ := h2
    refine ⟨fun h => ?_, fun h => ?_⟩
    · by_cases hyz : bl (strB z.k) (strB y.k)
      · exact a1 (bl_trans h hyz)
      · rw [bl_tri b1 hyz] at a1
        exact a1 h
    · obtain ⟨h3, h4⟩ := h
      have hxy : strB x.k = strB y.k := by
        refine bl_tri a1 fun h5 => b1 ?_
        rw [← h3]; exact h5
      have hyz : strB y.k = strB z.k := hxy ▸ h3
      have c1 : ¬ y.s < x.s := fun h5 => a2 ⟨hxy, h5⟩
      have c2 : ¬ z.s < y.s := fun h5 => b2 ⟨hyz, h5⟩
      omega
  · rw [ltF_no]
    rcases (ltF_iff x y).1 h with h1 | ⟨h1, h2⟩
    · exact ⟨fun h2 => bl_irrefl _ (bl_trans h1 h2), fun h2 => by rw [h2.1] at h1; exact bl_irrefl _ h1⟩
    · exact ⟨by rw [h1]; exact bl_irrefl _, fun h3 => by omega⟩
/-- a row of facts that is sorted where it lies -/
structure Arr (W : World) (g N n : Nat) (f : Nat → FM) : Prop where
  ex : ∃ cur : Array Value, Blk W g 71 cur ∧ cur.size = N ∧ n * 3 ≤ N ∧ cur.toList.take (n * 3) = fcells (Lf f 0 n)
theorem Lf_get {α : Type} (f : Nat → α) (n i : Nat) (h : i < n) : (Lf f 0 n)[i]? = some (f i) := by
  simp [Lf, h]
theorem Arr.cells {W : World} {g N n : Nat} {f : Nat → FM} (h : Arr W g N n f) (i : Nat) (hi : i < n) : ∀ j v, (f i).cells[j]? = some v → W.cell? ((⟨g, i * 3, none⟩ : Addr).add j) = some v := fun j v hv => by
  obtain ⟨cur, hb, hs, hn, ht⟩ := h.ex
  have hj : j < 3 := (List.getElem?_eq_some_iff.1 hv).1
  have e : (⟨g, i * 3, none⟩ : Addr).add j = ⟨g, i * 3 + j, none⟩ := by unfold Addr.add; split <;> simp_all
  rw [e, hb.cell]
  have h1 : (cur.toList.take (n * 3))[i * 3 + j]? = (fcells (Lf f 0 n))[i * 3 + j]? := by rw [ht]
  rw [List.getElem?_take, if_pos (by omega)] at h1
  rw [← Array.getElem?_toList, h1, fcells_get _ _ _ (by rw [Lf_length]; exact hi) hj]
  have h2 : (Lf f 0 n)[i]'(by rw [Lf_length]; exact hi) = f i := by
    have h3 := Lf_get f n i hi
    rw [List.getElem?_eq_getElem (by rw [Lf_length]; exact hi)] at h3
    exact Option.some.inj h3
  rw [h2, hv]
theorem Arr.but {W W' : World} {g k N n : Nat} {f : Nat → FM} (h : Arr W g N n f) (hb : But k W W') (hk : g ≠ k) : Arr W' g N n f := by
  obtain ⟨cur, h1, h2⟩ := h.ex
  exact ⟨cur, (hb.block g h1.lt hk).trans h1, h2⟩
theorem Arr.below {W W' : World} {g N n : Nat} {f : Nat → FM} (h : Arr W g N n f) (hb : Below W.heap.size W W') : Arr W' g N n f := by
  obtain ⟨cur, h1, h2⟩ := h.ex
  exact ⟨cur, h1.below' hb, h2⟩
theorem Arr.drew {W : World} {g N n : Nat} {f : Nat → FM} (h : Arr W g N n f) : Arr W.drew g N n f := ⟨h.ex⟩
theorem Arr.congr {W : World} {g N n : Nat} {f f' : Nat → FM} (h : Arr W g N n f) (e : ∀ k, k < n → f' k = f k) : Arr W g N n f' := by
  obtain ⟨cur, h1, h2, h3, h4⟩ := h.ex
  exact ⟨cur, h1, h2, h3, by rw [h4]; congr 1; exact Lf_congr fun k hk => by simpa using (e k hk).symm⟩
theorem Arr.lt {W : World} {g N n : Nat} {f : Nat → FM} (h : Arr W g N n f) : g < W.heap.size := by
  obtain ⟨cur, h1, _⟩ := h.ex
  exact h1.lt
def upd (f : Nat → FM) (i : Nat) (x : FM) (k : Nat) : FM := if k = i then x else f k
theorem fcells_upd (f : Nat → FM) (n i : Nat) (x : FM) (_h : i < n) : fcells (Lf (upd f i x) 0 n) = (((fcells (Lf f 0 n)).set (i * 3) (.string x.k)).set (i * 3 + 1) (.int .u64 (x.s : Nat))).set (i * 3 + 2) (.slice x.A x.l.length x.c) := by
  apply List.ext_getElem?
  intro k
  by_cases hk : k < n * 3
  · have e : k = k / 3 * 3 + k % 3 := by omega
    have hq : k / 3 < n := by omega
    have hg : ∀ f' : Nat → FM, (fcells (Lf f' 0 n))[k]? = (f' (k / 3)).cells[k % 3]? := fun f' => by
      conv => lhs; rw [e]
      rw [fcells_get _ _ _ (by rw [Lf_length]; exact hq) (by omega)]
      have h3 := Lf_get f' n _ hq
      rw [List.getElem?_eq_getElem (by rw [Lf_length]; exact hq)] at h3
      rw [Option.some.inj h3]
    have hlen : k < (fcells (Lf f 0 n)).length := by rw [fcells_length, Lf_length]; exact hk
    rw [hg, List.getElem?_set, List.getElem?_set, List.getElem?_set, hg]
    simp only [List.length_set]
    unfold upd
    have hm : k % 3 = 0 ∨ k % 3 = 1 ∨ k % 3 = 2 := by omega
    by_cases hki : k / 3 = i
    · rw [if_pos hki]
      rcases hm with hm | hm | hm
      · rw [if_neg (by omega), if_neg (by omega), if_pos (by omega), hm]; simp [FM.cells]; omega
      · rw [if_neg (by omega), if_pos (by omega), hm]; simp [FM.cells]; omega
      · rw [if_pos (by omega), hm]; simp [FM.cells]; omega
    · rw [if_neg hki, if_neg (by omega), if_neg (by omega), if_neg (by omega)]
  · rw [List.getElem?_eq_none (by rw [fcells_length, Lf_length]; omega), List.getElem?_eq_none (by simp only [List.length_set]; rw [fcells_length, Lf_length]; omega)]
theorem Arr.put {W : World} {g N n : Nat} {f : Nat → FM} (h : Arr W g N n f) (i : Nat) (hi : i < n) (x : FM) : Arr (W.setCells g (i * 3) x.cells) g N n (upd f i x) ∧ But g W (W.setCells g (i * 3) x.cells) := by
  obtain ⟨cur, hb, hs, hn, ht⟩ := h.ex
  refine ⟨⟨((cur.setIfInBounds (i * 3) (.string x.k)).setIfInBounds (i * 3 + 1) (.int .u64 (x.s : Nat))).setIfInBounds (i * 3 + 1 + 1) (.slice x.A x.l.length x.c), ((hb.set _ _).set _ _).set _ _, by simpa using hs, hn, ?_⟩, ((But.set _ _ _ _).trans (But.set _ _ _ _)).trans (But.set _ _ _ _)⟩
  simp only [Array.toList_setIfInBounds, List.take_set]
  rw [ht, fcells_upd f n i x hi]
theorem Arr.store {W : World} {g N n : Nat} {f : Nat → FM} (h : Arr W g N n f) (i : Nat) (hi : i < n) (x : FM) : (storeVar 71 ⟨g, i * 3, none⟩ x.val).run Try.prog W = .ok () (W.setCells g (i * 3) x.cells) := by
  obtain ⟨cur, hb, hs, hn, ht⟩ := h.ex
  have hc : ∀ j, j < x.cells.length → (W.cell? ⟨g, i * 3 + j, none⟩).isSome = true := fun j hj => by
    have hj3 : j < 3 := hj
    rw [hb.cell, Array.getElem?_eq_getElem (by omega)]
    rfl
  have hst := run_storeCells_cells (P := Try.prog) g (i * 3) x.cells 0 W (by simpa using hc) (fun j _ => hb.frozen _) (by simp [FM.cells, Value.oneCell'])
  have hz : (sizeOf 71).run Try.prog W = .ok 3 W := by kernel_rfl
  have he : x.val.cells = x.cells.toArray := rfl
  have h3 : x.cells.toArray.size = 3 := rfl
  simp only [storeVar, Sem.run_bind, hz, he, h3, Result.andThen_ok, ne_eq, not_true_eq_false, if_false]
  simpa using hst
theorem run_storeF_op {ρ : Operand → Value} {d : Option Tmp} {ty : TypeId} {pos : String} {af : Array Edge} {gd : Option (Nat × Bool)} {W : World} {p y : Operand} {g N n : Nat} {f : Nat → FM} {x : FM} {i : Nat} (h : Arr W g N n f) (hi : i < n) (hx : ρ p = .pointer (some ⟨g, i * 3, none⟩)) (hy : ρ y = x.val) :
    (execOp ρ ⟨d, .store 71 p y, ty, pos, af, gd⟩).run Try.prog W = .ok .skip (W.setCells g (i * 3) x.cells) := by
  have := h.store i hi x
  simp [execOp, hx, hy, Instr.storeAt, Instr.sureAddr, this]
theorem upd_swp (f : Nat → FM) (i j : Nat) (h : i ≠ j) : upd (upd f i (f j)) j (f i) = swp f i j := by
  funext k
  unfold upd swp
  repeat' split
  all_goals first | rfl | omega
/-- a row that a call owns, as one that is sorted -/
theorem Arr.of_own {W : World} {B n c : Nat} {A : Option Addr} {f : Nat → FM} (h : W.ownsRow B 71 3 (.slice A n c) n (fcells (Lf f 0 n))) (hn : 0 < n) : ∃ g, A = some ⟨g, 0, none⟩ ∧ B ≤ g ∧ Arr W g (c * 3) n f ∧ n ≤ c ∧ c ≤ maxLen := by
  rcases h.2 with ⟨_, h0⟩ | ⟨g, cap, cur, h0, hg1, hg2, hg3, hg4, hg5, hg6⟩
  · omega
  · injection h0 with e1 e2 e3
    subst e1 e3
    exact ⟨g, rfl, hg1, ⟨cur, hg2, hg5, by omega, hg6⟩, hg3, hg4⟩
theorem Arr.own {W : World} {B g n c : Nat} {f : Nat → FM} (h : Arr W g (c * 3) n f) (hB : B ≤ g) (hn : n ≤ c) (hc : c ≤ maxLen) : W.ownsRow B 71 3 (.slice (some ⟨g, 0, none⟩) n c) n (fcells (Lf f 0 n)) := by
  obtain ⟨cur, hb, hs, _, ht⟩ := h.ex
  exact ⟨by rw [fcells_length, Lf_length], .inr ⟨g, c, cur, rfl, hB, hb, hn, hc, hs, ht⟩⟩
end Go.Proofs.Ytadgaphgomagkaa
