/- The abstract array: what turns it, what stays. -/
import Derived.Test.YthhpcilinkebeaaDoorHp
namespace Go.Proofs.YthhpcilinkebeaaDoor
open Go.RowKit Go.Maps
set_option maxHeartbeats 4000000
set_option maxRecDepth 100000

def IsMp (w : World) (k : Nat) : Prop := ∃ es c, w.heap[k]? = some (.map es c)
theorem MpX.isMp {K : Type} [DecidableEq K] {κ : KK K} {w : World} {M n : Nat} {f : K → Option Value} (h : MpX κ w M n f) : IsMp w M := by
  obtain ⟨D, ⟨es, clock, hb, _⟩, _⟩ := h
  exact ⟨es, clock, hb⟩
theorem Has.notMp {w : World} {k : Nat} {t : TypeId} (h : Has w k t) : ¬ IsMp w k := by
  rintro ⟨es, c, e⟩
  obtain ⟨cs, fr, e'⟩ := h
  rw [e] at e'
  cases e'
/-- the blocks that an array's turns may change -/
def Foot (M : Nat) (ms : List VM) (k : Nat) : Prop := k = M ∨ ∃ m ∈ ms, k = m.V ∨ k = m.Bm
section
variable {w w' : World} {A M block quota : Nat} {ms : List VM}
theorem ArrAt.foot (h : ArrAt w A M block quota ms) {k : Nat} (hk : Foot M ms k) : k < w.heap.size ∧ (Has w k 95 ∨ IsMp w k) := by
  rcases hk with rfl | ⟨m, hm, rfl | rfl⟩
  · obtain ⟨n, hn⟩ := h.mp; exact ⟨hn.lt, .inr hn.isMp⟩
  · exact ⟨(h.vol m hm).blk.lt, .inl (h.vol m hm).blk.has⟩
  · obtain ⟨n, hn⟩ := (h.vol m hm).mp; exact ⟨hn.lt, .inr hn.isMp⟩
theorem ArrAt.not (h : ArrAt w A M block quota ms) {k : Nat} {t : TypeId} (hk : Has w k t) (ht : t ≠ 95) : ¬ Foot M ms k := fun hf => by
  rcases (h.foot hf).2 with h1 | h1
  · exact hk.ne h1 ht rfl
  · exact hk.notMp h1
theorem PgB.keep {S : Nat → Prop} {s : Sb} (h : PgB w block s) (hc : Chg S w w') (hp : ∀ k, S k → ¬ Has w k 5) : PgB w' block s :=
  have hn : ∀ ad, s.A = some ad → ¬ S ad.block := fun ad e hs => hp _ hs (h.2.2.2 ad e)
  ⟨h.1.keepC hc hn, h.2.1, h.2.2.1, fun ad e => (h.2.2.2 ad e).keep hc (hn ad e)⟩
theorem MpX.keepC {K : Type} [DecidableEq K] {κ : KK K} {S : Nat → Prop} {n : Nat} {f : K → Option Value} (h : MpX κ w M n f) (hc : Chg S w w') (hM : ¬ S M) : MpX κ w' M n f := h.block (hc.block M h.lt hM)
theorem VolAt.keep {S : Nat → Prop} {m : VM} (h : VolAt w block m) (hc : Chg S w w') (hV : ¬ S m.V) (hB : ¬ S m.Bm) (hp : ∀ k, S k → ¬ Has w k 5) : VolAt w' block m :=
  ⟨h.blk.keep hc hV, let ⟨n, hn⟩ := h.mp; ⟨n, hn.keepC hc hB⟩, fun i s hi => (h.ok i s hi).keep hc hp, h.dom, h.few⟩
theorem ArrAt.put (h : ArrAt w A M block quota ms) (m : VM) (hn : getM ms m.name = none) (hv : VolAt w' block m) (hmp : ∃ n, MpX kStr w' M n (MpF (putM ms m))) (hc : Chg (fun k => k = M) w w')
    (hV : w.heap.size ≤ m.V) (hB : w.heap.size ≤ m.Bm) (hlen : ms.length + 1 ≤ 1024) (hq : usedM ms + m.size ≤ quota) : ArrAt w' A M block quota (putM ms m) := by
  obtain ⟨n0, hm0⟩ := h.mp
  have hpg : ∀ k, k = M → ¬ Has w k 5 := fun k e hh => by subst e; exact hh.notMp hm0.isMp
  have lt : ∀ x ∈ ms, x.V < w.heap.size ∧ x.Bm < w.heap.size := fun x hx => ⟨(h.foot (.inr ⟨x, hx, .inl rfl⟩)).1, (h.foot (.inr ⟨x, hx, .inr rfl⟩)).1⟩
  refine ⟨h.blk.keep hc fun e => ?_, hmp, fun x hx => ?_, putM_sorted m h.sorted, fun x hx y hy e => ?_, fun x hx y hy e => ?_, fun x hx => ?_, h.b1, h.b2, h.q, Nat.le_trans (putM_len m h.sorted).1 hlen, ?_⟩
  · exact h.blk.has.notMp (e ▸ hm0.isMp)
  · rcases putM_mem h.sorted hx with rfl | ⟨hx, _⟩
    · exact hv
    · exact (h.vol x hx).keep hc (fun e => (h.vol x hx).blk.has.notMp (e ▸ hm0.isMp)) (h.bm x hx) hpg
  · rcases putM_mem h.sorted hx with ex | ⟨hx', _⟩ <;> rcases putM_mem h.sorted hy with ey | ⟨hy', _⟩
    · rw [ex, ey]
    · have := (lt y hy').1; rw [ex] at e; omega
    · have := (lt x hx').1; rw [ey] at e; omega
    · exact h.vs x hx' y hy' e
  · rcases putM_mem h.sorted hx with ex | ⟨hx', _⟩ <;> rcases putM_mem h.sorted hy with ey | ⟨hy', _⟩
    · rw [ex, ey]
    · have := (lt y hy').2; rw [ex] at e; omega
    · have := (lt x hx').2; rw [ey] at e; omega
    · exact h.bs x hx' y hy' e
  · rcases putM_mem h.sorted hx with rfl | ⟨hx, _⟩
    · have := hm0.lt; omega
    · exact h.bm x hx
  · have := putM_used m h.sorted
    rw [hn] at this
    simp only at this
    omega
theorem ArrAt.del (h : ArrAt w A M block quota ms) (s : Bts) (hmp : ∃ n, MpX kStr w' M n (MpF (delM ms s))) (hc : Chg (fun k => k = M) w w') : ArrAt w' A M block quota (delM ms s) := by
  obtain ⟨n0, hm0⟩ := h.mp
  have hpg : ∀ k, k = M → ¬ Has w k 5 := fun k e hh => by subst e; exact hh.notMp hm0.isMp
  refine ⟨h.blk.keep hc fun e => h.blk.has.notMp (e ▸ hm0.isMp), hmp, fun x hx => ?_, delM_sorted s h.sorted, fun x hx y hy e => h.vs x (delM_mem hx).1 y (delM_mem hy).1 e, fun x hx y hy e => h.bs x (delM_mem hx).1 y (delM_mem hy).1 e, fun x hx => h.bm x (delM_mem hx).1, h.b1, h.b2, h.q, Nat.le_trans (delM_len ms s) h.few, Nat.le_trans (delM_used ms s) h.used⟩
  have hx := (delM_mem hx).1
  exact (h.vol x hx).keep hc (fun e => (h.vol x hx).blk.has.notMp (e ▸ hm0.isMp)) (h.bm x hx) hpg
theorem MpF_put (hs : SrtM ms) {m m' : VM} (hm : getM ms m.name = some m) (h1 : m'.name = m.name) (h2 : m'.V = m.V) : MpF (putM ms m') = MpF ms := by
  funext s
  unfold MpF
  rw [getM_put m' hs, h1]
  split
  · rename_i e
    rw [e, hm]
    simp [VM.ptr, h2]
  · rfl
theorem ArrAt.upd (h : ArrAt w A M block quota ms) {m m' : VM} (hm : getM ms m.name = some m) (h1 : m'.name = m.name) (h2 : m'.V = m.V) (h3 : m'.Bm = m.Bm) (hv : VolAt w' block m') (hc : Chg (fun k => k = m.V ∨ k = m.Bm) w w')
    (hq : usedM ms + m'.size ≤ quota + m.size) : ArrAt w' A M block quota (putM ms m') := by
  obtain ⟨n0, hm0⟩ := h.mp
  obtain ⟨hmem, _⟩ := getM_mem hm
  have hvm := h.vol m hmem
  obtain ⟨n1, hb1⟩ := hvm.mp
  have hpg : ∀ k, (k = m.V ∨ k = m.Bm) → ¬ Has w k 5 := fun k e hh => by
    rcases e with rfl | rfl
    · exact hh.ne hvm.blk.has (by decide) rfl
    · exact hh.notMp hb1.isMp
  have hMn : ¬ (M = m.V ∨ M = m.Bm) := fun e => by
    rcases e with e | e
    · exact hvm.blk.has.notMp (e ▸ hm0.isMp)
    · exact h.bm m hmem e.symm
  have old : ∀ x ∈ ms, x.name ≠ m.name → VolAt w' block x := fun x hx hne => by
    obtain ⟨n2, hb2⟩ := (h.vol x hx).mp
    refine (h.vol x hx).keep hc (fun e => ?_) (fun e => ?_) hpg
    · rcases e with e | e
      · exact hne (h.vs x hx m hmem e)
      · exact (h.vol x hx).blk.has.notMp (e ▸ hb1.isMp)
    · rcases e with e | e
      · exact hvm.blk.has.notMp (e ▸ hb2.isMp)
      · exact hne (h.bs x hx m hmem e)
  refine ⟨h.blk.keep hc fun e => ?_, ⟨n0, by rw [MpF_put h.sorted hm h1 h2]; exact hm0.keepC hc hMn⟩, fun x hx => ?_, putM_sorted m' h.sorted, fun x hx y hy e => ?_, fun x hx y hy e => ?_, fun x hx => ?_, h.b1, h.b2, h.q, ?_, ?_⟩
  · rcases e with e | e
    · exact h.blk.has.ne hvm.blk.has (by decide) e
    · exact h.blk.has.notMp (e ▸ hb1.isMp)
  · rcases putM_mem h.sorted hx with rfl | ⟨hx, hne⟩
    · exact hv
    · exact old x hx (by rw [← h1]; exact hne)
  · rcases putM_mem h.sorted hx with ex | ⟨hx', _⟩ <;> rcases putM_mem h.sorted hy with ey | ⟨hy', _⟩
    · rw [ex, ey]
    · rw [ex, h1]; rw [ex, h2] at e; exact h.vs m hmem y hy' e
    · rw [ey, h1]; rw [ey, h2] at e; exact h.vs x hx' m hmem e
    · exact h.vs x hx' y hy' e
  · rcases putM_mem h.sorted hx with ex | ⟨hx', _⟩ <;> rcases putM_mem h.sorted hy with ey | ⟨hy', _⟩
    · rw [ex, ey]
    · rw [ex, h1]; rw [ex, h3] at e; exact h.bs m hmem y hy' e
    · rw [ey, h1]; rw [ey, h3] at e; exact h.bs x hx' m hmem e
    · exact h.bs x hx' y hy' e
  · rcases putM_mem h.sorted hx with rfl | ⟨hx, _⟩
    · rw [h3]; exact h.bm m hmem
    · exact h.bm x hx
  · rw [(putM_len m' h.sorted).2 (by rw [h1, hm]; simp)]; exact h.few
  · have := putM_used m' h.sorted
    rw [h1, hm] at this
    simp only at this
    omega
theorem Foot.put {m : VM} (hs : SrtM ms) {k : Nat} (h : Foot M (putM ms m) k) : Foot M ms k ∨ k = m.V ∨ k = m.Bm := by
  rcases h with rfl | ⟨x, hx, e⟩
  · exact .inl (.inl rfl)
  · rcases putM_mem hs hx with rfl | ⟨hx, _⟩
    · exact .inr e
    · exact .inl (.inr ⟨x, hx, e⟩)
theorem Foot.del {s : Bts} {k : Nat} (h : Foot M (delM ms s) k) : Foot M ms k := by
  rcases h with rfl | ⟨x, hx, e⟩
  · exact .inl rfl
  · exact .inr ⟨x, (delM_mem hx).1, e⟩
end
end Go.Proofs.YthhpcilinkebeaaDoor
