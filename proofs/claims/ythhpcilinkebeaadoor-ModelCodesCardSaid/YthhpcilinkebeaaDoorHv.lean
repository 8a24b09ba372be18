/- The abstract array: a volume's blocks turned. -/
import Derived.Test.YthhpcilinkebeaaDoorHt
namespace Go.Proofs.YthhpcilinkebeaaDoor
open Go.RowKit Go.Maps
set_option maxHeartbeats 4000000
set_option maxRecDepth 100000

theorem lits_of {K : Type} (κ : KK K) : ∀ es : List (Lit × DataW Value), (∀ p ∈ es, ∃ x, p.1 = κ.lit x) → ∃ ks : List K, es.map (·.1) = ks.map κ.lit
  | [], _ => ⟨[], rfl⟩
  | p :: r, h => by
    obtain ⟨x, hx⟩ := h p (by simp)
    obtain ⟨ks, hk⟩ := lits_of κ r fun q hq => h q (by simp [hq])
    exact ⟨x :: ks, by rw [List.map_cons, List.map_cons, hx, hk]⟩
theorem MpX.keysEx {K : Type} [DecidableEq K] {κ : KK K} {w : World} {M n : Nat} {f : K → Option Value} (h : MpX κ w M n f) : ∃ ks, Keys f ks := by
  obtain ⟨D, h1, h2, _⟩ := h
  obtain ⟨es, rfl, hp, _⟩ := h1.entries κ.keyed
  obtain ⟨es', e', hko⟩ := h1.keysOf
  injection e' with e'
  subst e'
  obtain ⟨ks, hks⟩ := lits_of κ es fun p hp' => by
    obtain ⟨v, hv⟩ := hko p hp'
    obtain ⟨x, _, _, hx⟩ := κ.back _ _ hv
    exact ⟨x, hx⟩
  refine ⟨ks, ?_, fun x => ?_⟩
  · have hnd : (es.map (·.1)).Nodup := List.pairwise_map.2 hp
    rw [hks] at hnd
    exact (List.pairwise_map.1 hnd).imp fun {a b} hab e => hab (by rw [e])
  · rw [← h2, has_eq, List.any_eq_true]
    constructor
    · intro hx
      have : κ.lit x ∈ es.map (·.1) := by rw [hks]; exact List.mem_map.2 ⟨x, hx, rfl⟩
      obtain ⟨p, hp', e⟩ := List.mem_map.1 this
      exact ⟨p, hp', by rw [e]; exact WideAt.sameKey_self (κ.isLit x)⟩
    · rintro ⟨p, hp', hs⟩
      have e := WideAt.sameKey_eq hs
      have : κ.lit x ∈ es.map (·.1) := List.mem_map.2 ⟨p, hp', e⟩
      rw [hks] at this
      obtain ⟨y, hy, e2⟩ := List.mem_map.1 this
      rw [← κ.inj _ _ e2]; exact hy
theorem nodup_lt : ∀ (n : Nat) (l : List Nat), l.Nodup → (∀ x ∈ l, x < n) → l.length ≤ n
  | 0, l, _, h => by
    cases l with
    | nil => simp
    | cons x r => have := h x (by simp); omega
  | n + 1, l, hd, h => by
    have h1 := nodup_lt n (l.erase n) (hd.erase n) fun x hx => by
      have h2 := (List.Nodup.mem_erase_iff hd).1 hx
      have := h x h2.2
      have := h2.1
      omega
    have h2 := List.length_erase (a := n) (l := l)
    split at h2 <;> omega
theorem ints_few : ∀ (n : Nat) (ks : List Int), ks.Nodup → (∀ k ∈ ks, 0 ≤ k ∧ k < n) → ks.length ≤ n := by
  intro n ks hnd hk
  have h1 : (ks.map Int.toNat).Nodup := List.pairwise_map.2 (hnd.imp_of_mem fun {a b} ha hb hab e => hab (by have := hk a ha; have := hk b hb; omega))
  have := nodup_lt n _ h1 fun x hx => by
    obtain ⟨k, hk', rfl⟩ := List.mem_map.1 hx
    have := hk k hk'
    omega
  simpa using this
theorem VolAt.few_mp {w : World} {block : Nat} {m : VM} (h : VolAt w block m) : ∃ n, n ≤ 1048576 ∧ MpX kInt w m.Bm n (fun i => (m.g i).map Sb.val) := by
  obtain ⟨n, hn⟩ := h.mp
  obtain ⟨ks, hks⟩ := hn.keysEx
  refine ⟨ks.length, Nat.le_trans (ints_few m.size ks hks.1 fun k hk => ?_) h.few, hn.tight hks⟩
  have : ((m.g k).map Sb.val).isSome = true := (hks.2 k).1 hk
  cases hg : m.g k with
  | none => rw [hg] at this; cases this
  | some s => exact h.dom k s hg
section
variable {w w' : World} {A M block quota : Nat} {ms : List VM}
theorem ArrAt.blocks (h : ArrAt w A M block quota ms) {s : Bts} {m : VM} (hm : getM ms s = some m) (g' : Int → Option Sb) (hmp : ∃ n, MpX kInt w' m.Bm n (fun i => (g' i).map Sb.val)) (hok : ∀ i s, g' i = some s → PgB w block s)
    (hdom : ∀ i s, g' i = some s → 0 ≤ i ∧ i < m.size) (hc : Chg (fun k => k = m.Bm) w w') : ArrAt w' A M block quota (putM ms { m with g := g' }) := by
  obtain ⟨hmem, hnm⟩ := getM_mem hm
  have hv := h.vol m hmem
  obtain ⟨n1, hb1⟩ := hv.mp
  refine h.upd (m := m) (by rw [hnm]; exact hm) rfl rfl rfl ⟨hv.blk.keep hc fun e => hv.blk.has.notMp (e ▸ hb1.isMp), hmp, fun i s hi => (hok i s hi).keep hc fun k e hh => ?_, hdom, hv.few⟩ (hc.mono fun k _ e => .inr e) (by have := h.used; show usedM ms + m.size ≤ quota + m.size; omega)
  subst e
  exact hh.notMp hb1.isMp
theorem ArrAt.thin (h : ArrAt w A M block quota ms) {s : Bts} {m : VM} (hm : getM ms s = some m) (o : OM) {n : Nat} (hmT : MpX kInt w' m.Bm n (fun i => if inT o i then none else (m.g i).map Sb.val)) (hc : Chg (fun k => k = m.Bm) w w') :
    ArrAt w' A M block quota (putM ms { m with g := fun i => if inT o i then none else m.g i }) := by
  have hv := h.vol m (getM_mem hm).1
  refine h.blocks hm _ ⟨n, ?_⟩ (fun i s hi => ?_) (fun i s hi => ?_) hc
  · have e : (fun i => (if inT o i then none else m.g i).map Sb.val) = fun i => if inT o i then none else (m.g i).map Sb.val := funext fun i => by cases inT o i <;> simp
    rw [e]; exact hmT
  · cases ht : inT o i <;> simp [ht] at hi
    exact hv.ok i s hi
  · cases ht : inT o i <;> simp [ht] at hi
    exact hv.dom i s hi
/-- one block is laid -/
theorem ArrAt.lay1 (h : ArrAt w A M block quota ms) {s : Bts} {m : VM} (hm : getM ms s = some m) (i : Int) (hi : 0 ≤ i ∧ i < m.size) (sb : Sb) (hsb : PgB w block sb) :
    ∃ w', (Instr.mapUpdate 93 (.map (some m.Bm)) (.int .i64 i) sb.val).run Tryd.prog w = .ok () w' ∧ ArrAt w' A M block quota (putM ms { m with g := fun j => if j = i then some sb else m.g j }) ∧ Chg (fun k => k = m.Bm) w w' := by
  have hv := h.vol m (getM_mem hm).1
  obtain ⟨n, hn, hmp⟩ := hv.few_mp
  have hf := hv.few
  obtain ⟨w', hrun, h1, h2⟩ := hmp.store (x := i) (show -9223372036854775808 ≤ i ∧ i ≤ 9223372036854775807 by omega) (t := 93) (e := 31) Tryd.underlying93 (by unfold maxLen; omega) sb.val
  have hc := Chg.of_grown h2.grown
  refine ⟨w', hrun, h.blocks hm _ ⟨n + 1, ?_⟩ (fun j s hj => ?_) (fun j s hj => ?_) hc, hc⟩
  · have e : (fun j => (if j = i then some sb else m.g j).map Sb.val) = updX (fun i => (m.g i).map Sb.val) i (some sb.val) := funext fun j => by unfold updX; by_cases e : j = i <;> simp [e]
    rw [e]; exact h1
  · by_cases e : j = i
    · simp [e] at hj; rw [← hj]; exact hsb
    · simp [e] at hj; exact hv.ok j s hj
  · by_cases e : j = i
    · rw [e]; exact hi
    · simp [e] at hj; exact hv.dom j s hj
end
end Go.Proofs.YthhpcilinkebeaaDoor
