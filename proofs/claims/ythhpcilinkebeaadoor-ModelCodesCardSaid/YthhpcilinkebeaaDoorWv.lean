/- A region that draws its order, by what each operation gives: whatever the order, each gives a value of its kind in every world of a kind. -/
import Derived.Test.YthhpcilinkebeaaDoorWu
import Derived.Test.YthhpcilinkebeaaDoorWi
namespace Go.Proofs.YthhpcilinkebeaaDoor
open Go

section
variable {P : Program} {ops : Array Oper} {Q : Exit → Act → World → Prop} {a0 : Act} {S : (Nat → Bool) → World → Prop} {R : Nat → Value → World → Prop}

/-- what is so of values stays so -/
def Keeps (R : Nat → Value → World → Prop) (w w' : World) : Prop := ∀ i v, R i v w → R i v w'
/-- a slot that no operation writes ahead of the i-th -/
def freeSlot (ops : Array Oper) (i s : Nat) : Bool := ops.all fun o => o.dst != some s || o.after.any fun e => Region.binds .any e && e.on == i
/-- which have come up -/
def don (listed : Array Bool) (i : Nat) : Bool := listed.getD i false
def mark (done : Nat → Bool) (i : Nat) : Nat → Bool := fun k => if k = i then true else done k
theorem don_set {listed : Array Bool} {i : Nat} (hi : i < listed.size) : don (listed.setIfInBounds i true) = mark (don listed) i := by
  funext k
  unfold don mark
  by_cases hk : k = i
  · subst hk; simp [hi]
  · rw [if_neg hk, getD_set_ne false (Ne.symm hk)]
theorem don_none (n : Nat) : don (Array.replicate n false) = fun _ => false := by
  funext k
  unfold don
  rcases Nat.lt_or_ge k n with h | h <;> simp [h]
theorem don_all (n : Nat) : don (Array.replicate n true) = fun k => decide (k < n) := by
  funext k
  unfold don
  rcases Nat.lt_or_ge k n with h | h
  · simp [h]
  · have h2 : ¬ k < n := by omega
    simp [h2]
/-- how far a region has come -/
structure Flow (ops : Array Oper) (a0 : Act) (S : (Nat → Bool) → World → Prop) (R : Nat → Value → World → Prop) (listed : Array Bool) (a : Act) (w : World) : Prop where
  s : S (don listed) w
  size : a.tmps.size = a0.tmps.size
  defers : a.defers = a0.defers
  lsz : listed.size = ops.size
  shut : ∀ (j : Nat) oj, ops[j]? = some oj → listed.getD j false = true → ∀ e ∈ oj.after, Region.binds .any e = true → listed.getD e.on false = true
  out : ∀ s, (∀ (i : Nat) o, ops[i]? = some o → o.dst = some s → listed.getD i false = false) → a.tmps[s]? = a0.tmps[s]?
  at_ : ∀ (i : Nat) o d, ops[i]? = some o → o.dst = some d → listed.getD i false = true → ∃ v, a.tmps[d]? = some v ∧ R i v w
/-- an operation gives a value of its kind -/
def GivesR (P : Program) (S : World → Prop) (R : Nat → Value → World → Prop) (i : Nat) (d : Option Tmp) (w : World) : Result Next → Prop
  | .ok (.value u) w' => S w' ∧ Keeps R w w' ∧ R i u w'
  | .ok .skip w' => d = none ∧ S w' ∧ Keeps R w w'
  | .ok (.enter f args) w' => Calls P f args w' fun e w'' => ∃ v, e = .returned v ∧ S w'' ∧ Keeps R w w'' ∧ R i v w''
  | _ => False
def ObR (P : Program) (ops : Array Oper) (a0 : Act) (S : (Nat → Bool) → World → Prop) (R : Nat → Value → World → Prop) (i : Nat) (o : Oper) : Prop :=
  ∀ (done : Nat → Bool) (a : Act) (w : World), done i = false → (∀ e ∈ o.after, Region.binds .any e = true → done e.on = true) →
    (∀ (j : Nat) oj, ops[j]? = some oj → done j = true → ∀ e ∈ oj.after, Region.binds .any e = true → done e.on = true) → S done w → (∀ s, freeSlot ops i s = true → a.tmps[s]? = a0.tmps[s]?) →
    (∀ (e : Edge), e ∈ o.after → Region.binds .any e = true → ∀ oj d, ops[e.on]? = some oj → oj.dst = some d → ∃ v, a.tmps[d]? = some v ∧ R e.on v w) →
    (Region.wanted o (yielded ops a.tmps) = true ∧ GivesR P (S (mark done i)) R i o.dst w ((execOp a.eval o).run P w)) ∨ (Region.wanted o (yielded ops a.tmps) = false ∧ S (mark done i) w ∧ R i undef w)
/-- each waits for elder ones; slots are written once, and are there -/
def flowing (ops : Array Oper) (n : Nat) : Bool :=
  ((List.range ops.size).all fun j => ((ops[j]?).map (·.after.all fun e => !Region.binds .any e || decide (e.on < j))).getD false) &&
  ((List.range ops.size).all fun j => match (ops[j]?).bind (·.dst) with
    | some d => decide (d < n) && (List.range ops.size).all fun k => k == j || (ops[k]?).bind (·.dst) != some d
    | none => true)
theorem flowing_lo {n : Nat} (h : flowing ops n = true) : ∀ j oj, ops[j]? = some oj → ∀ e ∈ oj.after, Region.binds .any e = true → e.on < j := by
  unfold flowing at h
  rw [Bool.and_eq_true, List.all_eq_true] at h
  intro j oj hj e he hb
  have := h.1 j (List.mem_range.2 (Array.getElem?_eq_some_iff.1 hj).1)
  rw [hj] at this
  simp only [Option.map_some, Option.getD_some, Array.all_eq_true'] at this
  have := this e he
  simpa [hb] using this
theorem flowing_dst {n : Nat} (h : flowing ops n = true) {j : Nat} {oj : Oper} {d : Tmp} (hj : ops[j]? = some oj) (hd : oj.dst = some d) : d < n ∧ ∀ (k : Nat) ok, ops[k]? = some ok → k ≠ j → ok.dst ≠ some d := by
  unfold flowing at h
  rw [Bool.and_eq_true, List.all_eq_true, List.all_eq_true] at h
  have := h.2 j (List.mem_range.2 (Array.getElem?_eq_some_iff.1 hj).1)
  rw [hj, Option.bind_some, hd] at this
  simp only [Bool.and_eq_true, decide_eq_true_iff, List.all_eq_true] at this
  refine ⟨this.1, fun k ok hk hkj e => ?_⟩
  have h2 := this.2 k (List.mem_range.2 (Array.getElem?_eq_some_iff.1 hk).1)
  rw [hk, Option.bind_some, e] at h2
  simp [hkj] at h2
theorem Flow.put {listed : Array Bool} {a : Act} {w w' : World} {i : Nat} {o : Oper} {v : Value} (hf : flowing ops a0.tmps.size = true) (h : Flow ops a0 S R listed a w) (hi : ops[i]? = some o) (hall : ∀ e ∈ o.after, Region.binds .any e = true → listed.getD e.on false = true)
    (hS : S (mark (don listed) i) w') (hk : Keeps R w w') (hv : ∀ d, o.dst = some d → R i v w') : Flow ops a0 S R (listed.setIfInBounds i true) (a.put o.dst v) w' := by
  have hil : i < listed.size := by rw [h.lsz]; exact (Array.getElem?_eq_some_iff.1 hi).1
  have hsh : ∀ (j : Nat) oj, ops[j]? = some oj → (listed.setIfInBounds i true).getD j false = true → ∀ e ∈ oj.after, Region.binds .any e = true → (listed.setIfInBounds i true).getD e.on false = true := by
    intro j oj hj hl e he hb
    refine getD_set_true ?_
    by_cases hji : j = i
    · subst hji
      rw [hi] at hj
      injection hj with hj
      exact hall e (hj ▸ he) hb
    · rw [getD_set_ne false (Ne.symm hji)] at hl
      exact h.shut j oj hj hl e he hb
  have hself : (listed.setIfInBounds i true).getD i false = true := by simp [hil]
  rw [← don_set hil] at hS
  have hof : ∀ s, (∀ (j : Nat) o', ops[j]? = some o' → o'.dst = some s → (listed.setIfInBounds i true).getD j false = false) → o.dst ≠ some s ∧ a.tmps[s]? = a0.tmps[s]? := by
    intro s hs
    refine ⟨fun e => ?_, h.out s fun j o' hj hd => ?_⟩
    · have := hs i o hi e
      rw [hself] at this
      cases this
    · have h1 := hs j o' hj hd
      by_cases hji : j = i
      · subst hji
        rw [hself] at h1
        cases h1
      · rwa [getD_set_ne false (Ne.symm hji)] at h1
  cases hd : o.dst with
  | none =>
    refine ⟨hS, h.size, h.defers, by simp [h.lsz], hsh, fun s hs => (hof s hs).2, fun j oj d hj hjd hl => ?_⟩
    have hji : j ≠ i := fun e => by rw [e, hi] at hj; injection hj with hj; rw [← hj, hd] at hjd; cases hjd
    rw [getD_set_ne false (Ne.symm hji)] at hl
    obtain ⟨u, h1, h2⟩ := h.at_ j oj d hj hjd hl
    exact ⟨u, h1, hk _ _ h2⟩
  | some d0 =>
    obtain ⟨hlt, hne⟩ := flowing_dst hf hi hd
    refine ⟨hS, by simp [Act.put, h.size], h.defers, by simp [h.lsz], hsh, fun s hs => ?_, fun j oj d hj hjd hl => ?_⟩
    · obtain ⟨h1, h2⟩ := hof s hs
      show (a.tmps.setIfInBounds d0 v)[s]? = _
      rw [Array.getElem?_setIfInBounds_ne (fun e => h1 (by rw [hd, e]))]
      exact h2
    · show ∃ u, (a.tmps.setIfInBounds d0 v)[d]? = some u ∧ _
      by_cases hji : j = i
      · subst hji
        rw [hi] at hj
        injection hj with hj
        rw [← hj, hd] at hjd
        injection hjd with hjd
        subst hjd
        exact ⟨v, by rw [Array.getElem?_setIfInBounds_self, if_pos (by rw [h.size]; exact hlt)], hv _ hd⟩
      · rw [getD_set_ne false (Ne.symm hji)] at hl
        obtain ⟨u, h1, h2⟩ := h.at_ j oj d hj hjd hl
        have hdd : d0 ≠ d := fun e => hne j oj hj hji (by rw [hjd, e])
        exact ⟨u, by rw [Array.getElem?_setIfInBounds_ne hdd]; exact h1, hk _ _ h2⟩
/-- how many have not come up -/
def unl (ops : Array Oper) (listed : Array Bool) : Nat := ((List.range ops.size).filter fun i => !listed.getD i false).length
theorem unl_set {listed : Array Bool} {i : Nat} (hi : i < ops.size) (hs : listed.size = ops.size) (h : listed.getD i false = false) : unl ops (listed.setIfInBounds i true) + 1 = unl ops listed := by
  unfold unl
  have key : ∀ l : List Nat, l.Nodup → i ∈ l → ((l.filter fun k => !(listed.setIfInBounds i true).getD k false).length) + 1 = (l.filter fun k => !listed.getD k false).length := by
    intro l
    induction l with
    | nil => intro _ h; cases h
    | cons x r ih =>
      intro hn hm
      rw [List.nodup_cons] at hn
      have hrest : i ∉ r → (r.filter fun k => !(listed.setIfInBounds i true).getD k false) = r.filter fun k => !listed.getD k false := fun hr =>
        List.filter_congr fun k hk => by rw [getD_set_ne false (show i ≠ k from fun e => hr (by rw [e]; exact hk))]
      by_cases hx : x = i
      · subst hx
        have h1 : (listed.setIfInBounds x true).getD x false = true := by simp [hs, hi]
        rw [List.filter_cons, List.filter_cons, h1, h, hrest hn.1]
        simp
      · have hm' : i ∈ r := by
          rcases List.mem_cons.1 hm with e | e
          · exact absurd e.symm hx
          · exact e
        have := ih hn.2 hm'
        rw [List.filter_cons, List.filter_cons, getD_set_ne false (fun e => hx e.symm)]
        split <;> (try simp only [List.length_cons]) <;> omega
  exact key _ List.nodup_range (List.mem_range.2 hi)
theorem getD_tf {listed : Array Bool} {i : Nat} (hi : i < listed.size) (x y : Bool) : listed.getD i x = listed.getD i y := by rw [Array.getD_eq_getD_getElem?, Array.getD_eq_getD_getElem?, Array.getElem?_eq_getElem hi]; rfl
theorem flow_any (hf : flowing ops a0.tmps.size = true) (hob : ∀ (i : Nat) o, ops[i]? = some o → ObR P ops a0 S R i o)
    (hend : ∀ a w, Flow ops a0 S R (Array.replicate ops.size true) a w → Q .normal a w) :
    ∀ (fuel : Nat) (listed : Array Bool) (a : Act) (w : World), listed.size = ops.size → unl ops listed ≤ fuel → Flow ops a0 S R listed a w → wpAny P .any ops Q fuel listed a w := by
  have full : ∀ listed : Array Bool, (∀ i, i < ops.size → listed.getD i false = true) → ∀ a w, Flow ops a0 S R listed a w → Q .normal a w := fun listed hl a w h =>
    hend a w ⟨by
      have e : don (Array.replicate ops.size true) = don listed := by
        rw [don_all]
        funext k
        unfold don
        by_cases hk : k < ops.size
        · rw [hl k hk]; simp [hk]
        · have : listed.getD k false = false := by
            have h2 : ¬ k < listed.size := by rw [h.lsz]; exact hk
            simp [h2]
          rw [this]; simp [hk]
      rw [e]; exact h.s, h.size, h.defers, by simp, fun j oj hj _ e he hb => by
      have h1 := flowing_lo hf j oj hj e he hb
      have h2 := (Array.getElem?_eq_some_iff.1 hj).1
      have h3 : e.on < ops.size := by omega
      simp [h3], fun s hs => h.out s fun i o hi hd => by
      have h2 := (Array.getElem?_eq_some_iff.1 hi).1
      have := hs i o hi hd
      simp [h2] at this, fun i o d hi hd _ => h.at_ i o d hi hd (hl i (Array.getElem?_eq_some_iff.1 hi).1)⟩
  have stuck : ∀ listed : Array Bool, listed.size = ops.size → Region.ready .any ops listed = [] → ∀ n i, i < n → i < ops.size → listed.getD i false = true := by
    intro listed hs hr n
    induction n with
    | zero => intro i h; omega
    | succ n ih =>
      intro i hin hi
      rcases hc : listed.getD i false with _ | _
      · exfalso
        have hm : i ∈ Region.ready .any ops listed := mem_ready.2 ⟨by rw [getD_tf (by omega) true false]; exact hc, ops[i], Array.getElem?_eq_getElem hi, fun e he hb => by
          have hlo := flowing_lo hf i _ (Array.getElem?_eq_getElem hi) e he hb
          exact ih e.on (by omega) (by omega)⟩
        rw [hr] at hm
        cases hm
      · rfl
  intro fuel
  induction fuel with
  | zero =>
    intro listed a w hs hu h
    have hall : ∀ i, i < ops.size → listed.getD i false = true := fun i hi => by
      rcases hc : listed.getD i false with _ | _
      · have := unl_set hi hs hc; omega
      · rfl
    refine ⟨?_, full listed hall a w h⟩
    refine List.eq_nil_iff_forall_not_mem.2 fun i hi => ?_
    obtain ⟨h1, o, ho, _⟩ := mem_ready.1 hi
    have hlt := (Array.getElem?_eq_some_iff.1 ho).1
    rw [getD_tf (by omega) true false, hall i hlt] at h1
    cases h1
  | succ fuel ih =>
    intro listed a w hs hu h
    refine ⟨fun hr => full listed (fun i hi => stuck listed hs hr (i + 1) i (by omega) hi) a w h, fun i hi => ?_⟩
    obtain ⟨h1, o, ho, hall⟩ := mem_ready.1 hi
    have hlt := (Array.getElem?_eq_some_iff.1 ho).1
    rw [getD_tf (by omega) true false] at h1
    have hu2 := unl_set hlt hs h1
    have next : ∀ (v : Value) (w' : World), S (mark (don listed) i) w' → Keeps R w w' → (∀ d, o.dst = some d → R i v w') → wpAny P .any ops Q fuel (listed.setIfInBounds i true) (a.put o.dst v) w' := fun v w' a1 a2 a3 =>
      ih _ _ _ (by simp [hs]) (by omega) (h.put hf ho hall a1 a2 a3)
    have hfree : ∀ s, freeSlot ops i s = true → a.tmps[s]? = a0.tmps[s]? := fun s hfs => h.out s fun j oj hj hjd => by
      unfold freeSlot at hfs
      rw [Array.all_eq_true'] at hfs
      have h3 := hfs oj (Array.mem_of_getElem? hj)
      rw [hjd] at h3
      simp only [bne_self_eq_false, Bool.false_or] at h3
      obtain ⟨e, he, h4⟩ := Array.any_eq_true'.1 h3
      rw [Bool.and_eq_true, beq_iff_eq] at h4
      rcases hc : listed.getD j false with _ | _
      · rfl
      · have := h.shut j oj hj hc e he h4.1
        rw [h4.2, h1] at this
        cases this
    have hob1 := hob i o ho (don listed) a w h1 hall h.shut h.s hfree (fun e he hb oj d hj hd => h.at_ e.on oj d hj hd (hall e he hb))
    unfold wpOp
    simp only [ho]
    rcases hob1 with ⟨hw, hg⟩ | ⟨hw, hg⟩
    · rw [if_pos hw]
      refine .inl ?_
      unfold Oper.wp
      generalize (execOp a.eval o).run P w = r at *
      cases r with
      | ok x w' =>
        cases x <;> simp only [GivesR, Oper.upon] at hg ⊢
        case value u => exact next u w' hg.1 hg.2.1 fun d _ => hg.2.2
        case skip => exact next undef w' hg.2.1 hg.2.2 fun d hd => by rw [hg.1] at hd; cases hd
        case enter f args =>
          refine Calls.mono hg fun e w'' he => ?_
          obtain ⟨v, rfl, b1, b2, b3⟩ := he
          exact next v w'' b1 b2 fun d _ => b3
      | halt x w' => exact hg.elim
    · rw [if_neg (by rw [hw]; decide)]
      exact next undef w hg.1 (fun _ _ h => h) fun d _ => hg.2
/-- what each operation gave, laid into the frame -/
def puts (ops : Array Oper) (a : Act) (v : Nat → Value) : Act := (List.range ops.size).foldl (fun b i => b.put ((ops[i]?).bind (·.dst)) (v i)) a
theorem puts_at (v : Nat → Value) : ∀ (l : List Nat) (b : Act), l.Nodup → (∀ i ∈ l, i < ops.size) → flowing ops b.tmps.size = true →
    (l.foldl (fun b i => b.put ((ops[i]?).bind (·.dst)) (v i)) b).tmps.size = b.tmps.size ∧ (l.foldl (fun b i => b.put ((ops[i]?).bind (·.dst)) (v i)) b).defers = b.defers ∧
    ∀ s : Nat, (l.foldl (fun b i => b.put ((ops[i]?).bind (·.dst)) (v i)) b).tmps[s]? = match l.find? (fun i => (ops[i]?).bind (·.dst) == some s) with
      | some i => some (v i)
      | none => b.tmps[s]? := by
  intro l
  induction l with
  | nil => intro b _ _ _; exact ⟨rfl, rfl, fun s => rfl⟩
  | cons i r ih =>
    intro b hn hl hf
    rw [List.nodup_cons] at hn
    have hsz : (b.put ((ops[i]?).bind (·.dst)) (v i)).tmps.size = b.tmps.size := by
      unfold Act.put; split <;> simp
    have hdf : (b.put ((ops[i]?).bind (·.dst)) (v i)).defers = b.defers := by
      unfold Act.put; split <;> rfl
    obtain ⟨h1, h2, h3⟩ := ih (b.put ((ops[i]?).bind (·.dst)) (v i)) hn.2 (fun k hk => hl k (by simp [hk])) (by rw [hsz]; exact hf)
    rw [List.foldl_cons]
    refine ⟨h1.trans hsz, h2.trans hdf, fun s => ?_⟩
    rw [h3 s, List.find?_cons]
    have hi := hl i (by simp)
    obtain ⟨o, ho⟩ : ∃ o, ops[i]? = some o := ⟨_, Array.getElem?_eq_getElem hi⟩
    by_cases hd : (ops[i]?).bind (·.dst) = some s
    · rw [hd]
      simp only [beq_self_eq_true]
      have hds : o.dst = some s := by rw [ho] at hd; exact hd
      obtain ⟨hlt, hne⟩ := flowing_dst hf ho hds
      have hnone : r.find? (fun i => (ops[i]?).bind (·.dst) == some s) = none := by
        rw [List.find?_eq_none]
        intro k hk
        have hkl := hl k (by simp [hk])
        have hki : k ≠ i := fun e => hn.1 (e ▸ hk)
        have := hne k _ (Array.getElem?_eq_getElem hkl) hki
        rw [Array.getElem?_eq_getElem hkl]
        simpa using this
      rw [hnone]
      show (b.tmps.setIfInBounds s (v i))[s]? = _
      rw [Array.getElem?_setIfInBounds_self, if_pos hlt]
    · rw [show ((ops[i]?).bind (·.dst) == some s) = false from beq_eq_false_iff_ne.2 hd]
      simp only
      have hb : (b.put ((ops[i]?).bind (·.dst)) (v i)).tmps[s]? = b.tmps[s]? := by
        unfold Act.put
        split
        · rename_i d hdd
          rw [hdd] at hd
          exact Array.getElem?_setIfInBounds_ne (fun e => hd (by rw [e]))
        · rfl
      rw [hb]
theorem flow_puts {a : Act} {w : World} (hf : flowing ops a0.tmps.size = true) (h : Flow ops a0 S R (Array.replicate ops.size true) a w) :
    ∃ v : Nat → Value, a = puts ops a0 v ∧ ∀ (i : Nat) o d, ops[i]? = some o → o.dst = some d → R i (v i) w := by
  refine ⟨fun i => match (ops[i]?).bind (·.dst) with
    | some d => a.tmps.getD d undef
    | none => undef, ?_, fun i o d hi hd => ?_⟩
  · obtain ⟨h1, h2, h3⟩ := puts_at (ops := ops) (fun i => match (ops[i]?).bind (·.dst) with
      | some d => a.tmps.getD d undef
      | none => undef) (List.range ops.size) a0 List.nodup_range (fun i hi => List.mem_range.1 hi) hf
    unfold puts
    generalize (List.range ops.size).foldl _ a0 = b at *
    obtain ⟨bt, bd⟩ := b
    obtain ⟨at1, ad⟩ := a
    have hd := h.defers
    have hs := h.size
    have ho := h.out
    have ha := h.at_
    dsimp only at *
    have : at1 = bt := by
      refine Array.ext_getElem? fun s => ?_
      rw [h3 s]
      cases hfd : (List.range ops.size).find? (fun i => (ops[i]?).bind (·.dst) == some s) with
      | none =>
        dsimp only
        refine ho s fun i o hi hd => ?_
        rw [List.find?_eq_none] at hfd
        have := hfd i (List.mem_range.2 (Array.getElem?_eq_some_iff.1 hi).1)
        rw [hi] at this
        simp [hd] at this
      | some i =>
        dsimp only
        have hm := List.mem_of_find?_eq_some hfd
        have hp := List.find?_some hfd
        have hi := List.mem_range.1 hm
        rw [beq_iff_eq] at hp
        rw [hp]
        dsimp only
        have hdi : ops[i].dst = some s := by rw [Array.getElem?_eq_getElem hi] at hp; exact hp
        obtain ⟨u, hu, _⟩ := ha i _ s (Array.getElem?_eq_getElem hi) hdi (by simp [hi])
        rw [hu, Array.getD_eq_getD_getElem?, hu]
        rfl
    rw [this, hd, h2]
  · have hi2 := (Array.getElem?_eq_some_iff.1 hi).1
    obtain ⟨u, hu, hR⟩ := h.at_ i o d hi hd (by simp [hi2])
    dsimp only
    rw [hi, Option.bind_some, hd]
    dsimp only
    rw [Array.getD_eq_getD_getElem?, hu]
    exact hR
/-- a region that draws its order: each operation's own law, and the end -/
theorem wp_region_flow {id : Nat} {w : World} (hm : P.follows .mixedOrders = true) (hf : flowing ops a0.tmps.size = true) (hS : S (fun _ => false) w.drew)
    (hob : ∀ (i : Nat) o, ops[i]? = some o → ObR P ops a0 S R i o)
    (hend : ∀ (v : Nat → Value) (w' : World), S (fun k => decide (k < ops.size)) w' → (∀ (i : Nat) o d, ops[i]? = some o → o.dst = some d → R i (v i) w') → Q .normal (puts ops a0 v) w') : (Code.region id ops true).wp P Q a0 w := by
  refine wp_region_any hm (flow_any hf hob (fun a w' h => ?_) _ _ _ _ (by simp) ?_ ⟨by rw [don_none]; exact hS, rfl, rfl, by simp, fun j oj hj hl => ?_, fun _ _ => rfl, fun i o d hi hd hl => ?_⟩)
  · obtain ⟨v, rfl, hv⟩ := flow_puts hf h
    exact hend v w' (by have := h.s; rwa [don_all] at this) hv
  · unfold unl
    refine Nat.le_trans (List.length_filter_le _ _) (by simp)
  · have hlt := (Array.getElem?_eq_some_iff.1 hj).1
    simp [hlt] at hl
  · have hlt := (Array.getElem?_eq_some_iff.1 hi).1
    simp [hlt] at hl
end
end Go.Proofs.YthhpcilinkebeaaDoor
/- Operations at a frame that is not known whole: for the texts over Wv. -/
namespace Go.Proofs.YthhpcilinkebeaaDoor
open Go

theorem ev {a : Act} {d : Tmp} {v : Value} (h : a.tmps[d]? = some v) : a.eval (.tmp d) = v := by
  show a.tmps.getD d undef = v
  rw [Array.getD_eq_getD_getElem?, h]; rfl
section
variable {P : Program} {ρ : Operand → Value} {d : Option Tmp} {ty : TypeId} {pos : String} {af : Array Edge} {g : Option (Nat × Bool)} {w : World}
theorem run_move_op {x : Operand} {v : Value} (hx : ρ x = v) : (execOp ρ ⟨d, .move x, ty, pos, af, g⟩).run P w = .ok (.value v) w := by
  simp [execOp, hx]
theorem run_assign_op {x : Operand} {v : Value} (hx : ρ x = v) : (execOp ρ ⟨d, .assign x, ty, pos, af, g⟩).run P w = .ok (.value v) w := by
  simp [execOp, hx]
theorem run_fieldAddr_op {t : TypeId} {x : Operand} {n k : Nat} {b m : Nat} (hx : ρ x = .pointer (some ⟨b, k, none⟩)) (h : (Instr.fieldAt t (.pointer (some ⟨b, k, none⟩)) n).run P w = .ok (.pointer (some ⟨b, m, none⟩)) w) : (execOp ρ ⟨d, .fieldAddr t x n, ty, pos, af, g⟩).run P w = .ok (.value (.pointer (some ⟨b, m, none⟩))) w := by
  simp [execOp, hx, h]
theorem run_call_op {f : FuncId} {xs : Array Operand} {ts : Array TypeId} {vs : Array Value} (h : xs.map ρ = vs) (hf : ρ (.func f) = .func (.func f) #[] #[]) (hc : (callFunc f vs).run P w = .ok (.enter f vs) w) : (execOp ρ ⟨d, .call { callee := .value (.func f), args := xs, argTypes := ts }, ty, pos, af, g⟩).run P w = .ok (.enter f vs) w := by
  simp [execOp, resolve, invoke, Deferred.ofValue, h, hf, hc]
end
section
variable {P : Program} {S : World → Prop} {R : Nat → Value → World → Prop} {i : Nat} {d : Option Tmp} {w w' : World} {u : Value}
theorem GivesR.val {r : Result Next} (h : r = .ok (.value u) w') (hS : S w') (hk : Keeps R w w') (hR : R i u w') : GivesR P S R i d w r := by subst h; exact ⟨hS, hk, hR⟩
theorem GivesR.same {r : Result Next} (h : r = .ok (.value u) w) (hS : S w) (hR : R i u w) : GivesR P S R i d w r := by subst h; exact ⟨hS, fun _ _ h => h, hR⟩
theorem GivesR.call {r : Result Next} {f : FuncId} {args : Array Value} (h : r = .ok (.enter f args) w') (hc : Calls P f args w' fun e w'' => ∃ v, e = .returned v ∧ S w'' ∧ Keeps R w w'' ∧ R i v w'') : GivesR P S R i d w r := by subst h; exact hc
end
end Go.Proofs.YthhpcilinkebeaaDoor
