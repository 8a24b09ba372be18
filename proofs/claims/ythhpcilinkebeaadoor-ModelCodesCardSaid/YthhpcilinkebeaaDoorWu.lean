/- A region that draws its order, walked in one line: operations that give one value in every world of a kind, calls too. -/
import Derived.Test.YthhpcilinkebeaaDoorProg
import Derived.OrdersHeld
import Derived.Deep.RegionHeld3
import Derived.KernelRfl
namespace Go.Proofs.YthhpcilinkebeaaDoor
open Go

section
variable {P : Program} {ops : Array Oper} {Q : Exit → Act → World → Prop} {md : Region.Mode} {S : World → Prop} {m : Nat}

/-- one value, and the world is of the kind again -/
def Gives1 (P : Program) (S : World → Prop) (v : Value) : Result Next → Prop
  | .ok (.value u) w => u = v ∧ S w
  | .ok (.enter f args) w => Calls P f args w fun e w' => e = .returned v ∧ S w'
  | _ => False
def GivesIf (P : Program) (ops : Array Oper) (S : World → Prop) (o : Oper) (v : Value) (a : Act) : Prop :=
  (Region.wanted o (yielded ops a.tmps) = true ∧ ∀ w, S w → Gives1 P S v ((execOp a.eval o).run P w)) ∨
  (Region.wanted o (yielded ops a.tmps) = false ∧ v = undef)
theorem gives_val {v : Value} {W : World} {r : Result Next} (h : r = .ok (.value v) W) (hS : S W) : Gives1 P S v r := by subst h; exact ⟨rfl, hS⟩
theorem gives_call {v : Value} {W : World} {r : Result Next} {f : FuncId} {args : Array Value} (h : r = .ok (.enter f args) W) (hc : Calls P f args W fun e w' => e = .returned v ∧ S w') : Gives1 P S v r := by subst h; exact hc
theorem GivesIf.wpOp {i : Nat} {o : Oper} {v : Value} {a : Act} (hi : ops[i]? = some o) (hy : GivesIf P ops S o v a)
    {K : Act → World → Prop} {w : World} (hS : S w) (h : ∀ w', S w' → K (a.put o.dst v) w') : wpOp P ops Q i K a w := by
  unfold Go.wpOp
  simp only [hi]
  rcases hy with ⟨hw, hv⟩ | ⟨hw, rfl⟩
  · simp only [hw, if_true, Oper.wp]
    refine .inl ?_
    have h1 := hv w hS
    generalize (execOp a.eval o).run P w = r at *
    cases r with
    | ok n w' =>
      cases n <;> simp only [Gives1, Oper.upon] at h1 ⊢
      case value u => rw [h1.1]; exact h w' h1.2
      case enter f args =>
        refine Calls.mono h1 fun e w'' he => ?_
        obtain ⟨rfl, hs⟩ := he
        exact h w'' hs
    | halt x w' => exact h1.elim
  · simp only [hw, Bool.false_eq_true, if_false]; exact h w hS
theorem GivesIf.of_same {o : Oper} {v : Value} {a a' : Act} (hy : GivesIf P ops S o v a) (he : execOp a'.eval o = execOp a.eval o)
    (hw : Region.wanted o (yielded ops a'.tmps) = Region.wanted o (yielded ops a.tmps)) : GivesIf P ops S o v a' := by
  unfold GivesIf at *
  rw [he, hw]
  exact hy
theorem wpOp_putG {j : Nat} {oi oj : Oper} {v : Value} (hj : ops[j]? = some oj) (hap : oi.apart ops oj = true)
    (hsi : ∀ cs b, oi.op ≠ .select cs b) (hsj : ∀ cs b, oj.op ≠ .select cs b)
    (hQ : ∀ c a w, Q (.panic c) (a.put oi.dst v) w → Q (.panic c) a w) {K : Act → World → Prop} {a : Act} {w : World}
    (hy : GivesIf P ops S oi v a) (h : wpOp P ops Q j K (a.put oi.dst v) w) :
    wpOp P ops Q j (fun a' w' => GivesIf P ops S oi v a' ∧ K (a'.put oi.dst v) w') a w := by
  obtain ⟨h1, h2, h3⟩ := Oper.apart_spec hap
  have keep : ∀ (a : Act), GivesIf P ops S oi v a → ∀ u, GivesIf P ops S oi v (a.put oj.dst u) := fun a hy u =>
    hy.of_same (execOp_put oi hsi a oj.dst u h3) (wanted_put oi a oj.dst u h3)
  have keepD : ∀ d, GivesIf P ops S oi v { a with defers := d :: a.defers } := fun d => hy.of_same rfl rfl
  unfold wpOp at *
  simp only [hj] at *
  rw [wanted_put oj a oi.dst v h1] at h
  split
  · rename_i hw
    simp only [hw, if_true] at h
    rcases h with h | ⟨hasks, hlets⟩
    case inr => exact .inr ⟨by unfold Oper.asks at *; rw [execOp_put oj hsj a oi.dst v h1] at hasks; exact hasks, hlets⟩
    refine .inl ?_
    unfold Oper.wp at *
    rw [execOp_put oj hsj a oi.dst v h1] at h
    generalize (execOp a.eval oj).run P w = r at *
    cases r with
    | ok n w' =>
      cases n <;> simp only [Oper.upon] at h ⊢
      case value u => exact ⟨keep a hy u, by rw [← Act.put_comm a v u h2]; exact h⟩
      case skip => exact ⟨keep a hy _, by rw [← Act.put_comm a v undef h2]; exact h⟩
      case defer d =>
        refine ⟨keep _ (keepD d) _, ?_⟩
        rw [← Act.put_comm _ v undef h2, ← Act.put_defers]
        exact h
      case enter f args =>
        refine Calls.mono h fun e w'' he => ?_
        cases e with
        | returned u => exact ⟨keep a hy u, by rw [← Act.put_comm a v u h2]; exact he⟩
        | panicked c => exact hQ _ _ _ he
        | outgrown => exact he
      case row row args => exact Rows.mono h fun u w'' he => ⟨keep a hy u, by rw [← Act.put_comm a v u h2]; exact he⟩
    | halt x w' =>
      cases x <;> simp only [Oper.upon] at h ⊢
      case panic u => exact hQ _ _ _ h
  · rename_i hw
    simp only [hw] at h
    exact ⟨keep a hy _, by rw [← Act.put_comm a v undef h2]; exact h⟩

/-- the first m have come up -/
def front (listed : Array Bool) (m : Nat) : Bool := (List.range m).all fun p => listed.getD p true
/-- the first m operations, in whatever order; then the rest -/
def wpAnyU (P : Program) (md : Region.Mode) (ops : Array Oper) (Q : Exit → Act → World → Prop) (S : World → Prop) (m : Nat) : Nat → Array Bool → Act → Prop
  | 0, listed, a => ∀ w, S w → wpAny P md ops Q 0 listed a w
  | fuel + 1, listed, a => if front listed m = true then ∀ w, S w → wpAny P md ops Q (fuel + 1) listed a w
    else ∀ i ∈ Region.ready md ops listed, i < m → ∀ w, S w → wpOp P ops Q i (fun a' w' => S w' ∧ wpAnyU P md ops Q S m fuel (listed.setIfInBounds i true) a') a w
theorem front_not {listed : Array Bool} {i : Nat} (hi : i < m) (h : listed.getD i true = false) : ¬ front listed m = true := fun hf => by
  unfold front at hf
  rw [List.all_eq_true] at hf
  rw [hf i (List.mem_range.2 hi)] at h
  cases h
theorem U_done {listed : Array Bool} {a : Act} (hf : front listed m = true) : ∀ fuel, (∀ w, S w → wpAny P md ops Q fuel listed a w) → wpAnyU P md ops Q S m fuel listed a
  | 0, h => h
  | fuel + 1, h => by unfold wpAnyU; rw [if_pos hf]; exact h
theorem U_first {i : Nat} {oi : Oper} {v : Value} (hi : ops[i]? = some oi) (him : i < m) (hsel : ∀ (j : Nat) (o : Oper) cs b, ops[j]? = some o → o.op ≠ .select cs b)
    (hQ : ∀ c a w, Q (.panic c) (a.put oi.dst v) w → Q (.panic c) a w) :
    ∀ (fuel : Nat) (listed : Array Bool) (a : Act),
      (∀ j oj, ops[j]? = some oj → j ≠ i → listed.getD j true = false → (∀ e ∈ oj.after, Region.binds md e = true → e.on ≠ i) → oi.apart ops oj = true) →
      i ∈ Region.ready md ops listed → GivesIf P ops S oi v a →
      wpAnyU P md ops Q S m fuel (listed.setIfInBounds i true) (a.put oi.dst v) → wpAnyU P md ops Q S m (fuel + 1) listed a := by
  intro fuel
  induction fuel with
  | zero =>
    intro listed a _ hr hy H
    unfold wpAnyU
    rw [if_neg (front_not him (mem_ready.1 hr).1)]
    intro j hj hjm w hS
    by_cases hji : j = i
    · subst hji; exact hy.wpOp hi hS fun w' hS' => ⟨hS', H⟩
    · have := ready_mono hj hji
      rw [(H w hS).1] at this
      cases this
  | succ fuel ih =>
    intro listed a hfree hr hy H
    have hun := (mem_ready.1 hr).1
    unfold wpAnyU
    rw [if_neg (front_not him hun)]
    intro j hj hjm w hS
    by_cases hji : j = i
    · subst hji; exact hy.wpOp hi hS fun w' hS' => ⟨hS', H⟩
    · have hrj := ready_mono hj hji
      have H' := H
      unfold wpAnyU at H'
      rw [if_neg (front_not hjm (mem_ready.1 hrj).1)] at H'
      have h1 := H' j hrj hjm w hS
      obtain ⟨hjun, oj, hoj, hall⟩ := mem_ready.1 hj
      have hnot : ∀ e ∈ oj.after, Region.binds md e = true → e.on ≠ i := fun e he hb heq => by
        have h1 := hall e he hb
        rw [heq] at h1
        rcases Nat.lt_or_ge i listed.size with h' | h'
        · simp [h'] at hun h1; rw [hun] at h1; cases h1
        · simp [Array.getElem?_eq_none h'] at h1
      have h2 := wpOp_putG hoj (hfree j oj hoj hji hjun hnot) (fun cs b => hsel i oi cs b hi) (fun cs b => hsel j oj cs b hoj) hQ hy h1
      have hfree' : ∀ k ok, ops[k]? = some ok → k ≠ i → (listed.setIfInBounds j true).getD k true = false →
          (∀ e ∈ ok.after, Region.binds md e = true → e.on ≠ i) → oi.apart ops ok = true := fun k ok hk hki hun hno => by
        refine hfree k ok hk hki ?_ hno
        by_cases hjk : j = k
        · subst hjk; exact hjun
        · rw [getD_set_ne true hjk] at hun; exact hun
      refine wpOp_mono (fun a' w' h3 => ⟨h3.2.1, ih (listed.setIfInBounds j true) a' hfree' (ready_mono hr (Ne.symm hji)) h3.1 ?_⟩) h2
      rw [Array.setIfInBounds_comm _ _ hji]
      exact h3.2.2
theorem U_take {i : Nat} {oi : Oper} {v : Value} {fuel : Nat} {listed : Array Bool} {a : Act} (hi : ops[i]? = some oi) (him : i < m)
    (hs : Region.noSelect ops = true) (hf : Region.free md ops listed i = true) (hr : (Region.ready md ops listed).contains i = true)
    (hQ : ∀ c a w, Q (.panic c) (a.put oi.dst v) w → Q (.panic c) a w) (hy : GivesIf P ops S oi v a)
    (h : wpAnyU P md ops Q S m fuel (listed.setIfInBounds i true) (a.put oi.dst v)) : wpAnyU P md ops Q S m (fuel + 1) listed a :=
  U_first hi him (Region.noSelect_spec hs) hQ fuel listed a (Region.free_spec hi hf) (by simpa using hr) hy h

/-- who waits waits for elder ones; each of the first m is waited for by one up to m -/
def stacked (md : Region.Mode) (ops : Array Oper) (m : Nat) : Bool :=
  ((List.range ops.size).all fun j => ((ops[j]?).map (·.after.all fun e => !Region.binds md e || decide (e.on < j))).getD false) &&
  (m == ops.size || (decide (m < ops.size) && ((List.range m).all fun p => (List.range (m + 1)).any fun s => decide (p < s) && ((ops[s]?).map (·.after.any fun e => Region.binds md e && e.on == p)).getD false) &&
    ((List.range ops.size).all fun r => decide (r ≤ m) || ((ops[r]?).map (·.after.any fun e => Region.binds md e && decide (m ≤ e.on) && decide (e.on < r))).getD false)))
def Shut (md : Region.Mode) (ops : Array Oper) (listed : Array Bool) : Prop := ∀ j oj, ops[j]? = some oj → listed.getD j true = true → ∀ e ∈ oj.after, Region.binds md e = true → listed.getD e.on false = true
theorem Shut.set {listed : Array Bool} {i : Nat} (h : Shut md ops listed) (hi : i ∈ Region.ready md ops listed) : Shut md ops (listed.setIfInBounds i true) := by
  intro j oj hj hl e he hb
  obtain ⟨_, o, ho, hall⟩ := mem_ready.1 hi
  by_cases hji : i = j
  · subst hji
    rw [ho] at hj
    injection hj with hj
    subst hj
    exact getD_set_true (hall e he hb)
  · rw [getD_set_ne true hji] at hl
    exact getD_set_true (h j oj hj hl e he hb)
theorem stacked_spec (h : stacked md ops m = true) :
    (∀ j oj, ops[j]? = some oj → ∀ e ∈ oj.after, Region.binds md e = true → e.on < j) ∧
    (m = ops.size ∨ (m < ops.size ∧ (∀ p, p < m → ∃ s os, p < s ∧ s ≤ m ∧ ops[s]? = some os ∧ ∃ e ∈ os.after, Region.binds md e = true ∧ e.on = p) ∧
      ∀ r or_, m < r → ops[r]? = some or_ → ∃ e ∈ or_.after, Region.binds md e = true ∧ m ≤ e.on ∧ e.on < r)) := by
  unfold stacked at h
  rw [Bool.and_eq_true, List.all_eq_true] at h
  obtain ⟨h1, h2⟩ := h
  refine ⟨fun j oj hj e he hb => ?_, ?_⟩
  · have := h1 j (List.mem_range.2 (Array.getElem?_eq_some_iff.1 hj).1)
    rw [hj] at this
    simp only [Option.map_some, Option.getD_some, Array.all_eq_true'] at this
    have := this e he
    simpa [hb] using this
  · rw [Bool.or_eq_true, beq_iff_eq] at h2
    rcases h2 with h2 | h2
    · exact .inl h2
    · rw [Bool.and_eq_true, Bool.and_eq_true, decide_eq_true_iff, List.all_eq_true, List.all_eq_true] at h2
      obtain ⟨⟨h3, h4⟩, h5⟩ := h2
      refine .inr ⟨h3, fun p hp => ?_, fun r or_ hr hor => ?_⟩
      · have := h4 p (List.mem_range.2 hp)
        rw [List.any_eq_true] at this
        obtain ⟨s, hs, h6⟩ := this
        rw [Bool.and_eq_true, decide_eq_true_iff] at h6
        have hs' := List.mem_range.1 hs
        cases ho : ops[s]? with
        | none => rw [ho] at h6; simp at h6
        | some os =>
          rw [ho] at h6
          simp only [Option.map_some, Option.getD_some] at h6
          obtain ⟨e, he, h7⟩ := Array.any_eq_true'.1 h6.2
          rw [Bool.and_eq_true, beq_iff_eq] at h7
          exact ⟨s, os, h6.1, by omega, ho, e, he, h7⟩
      · have := h5 r (List.mem_range.2 (Array.getElem?_eq_some_iff.1 hor).1)
        rw [hor] at this
        simp only [Option.map_some, Option.getD_some, Bool.or_eq_true, decide_eq_true_iff] at this
        rcases this with h6 | h6
        · omega
        · obtain ⟨e, he, h7⟩ := Array.any_eq_true'.1 h6
          simp only [Bool.and_eq_true, decide_eq_true_iff] at h7
          exact ⟨e, he, h7.1.1, h7.1.2, h7.2⟩
theorem getD_true_of_false {listed : Array Bool} {i : Nat} (h : listed.getD i false = true) : listed.getD i true = true := by
  rcases Nat.lt_or_ge i listed.size with h' | h'
  · simp [h'] at h ⊢; exact h
  · simp [Array.getElem?_eq_none h'] at h
/-- who comes up is one of the first m, till these have come up -/
theorem ready_front (h : stacked md ops m = true) {listed : Array Bool} (hsh : Shut md ops listed) (hsz : listed.size = ops.size) (hf : ¬ front listed m = true) : Region.ready md ops listed ≠ [] ∧ ∀ i ∈ Region.ready md ops listed, i < m := by
  obtain ⟨h1, h2⟩ := stacked_spec h
  have hmle : m ≤ ops.size := by rcases h2 with h2 | h2 <;> omega
  obtain ⟨p, hp, hun⟩ : ∃ p, p < m ∧ listed.getD p true = false := by
    unfold front at hf
    rw [List.all_eq_true] at hf
    rcases Classical.em (∃ p, p < m ∧ listed.getD p true = false) with h | h
    · exact h
    · exact absurd (fun x hx => by
        cases e : listed.getD x true
        · exact absurd ⟨x, List.mem_range.1 hx, e⟩ h
        · rfl) hf
  constructor
  · have key : ∀ n p, p < n → p < m → listed.getD p true = false → Region.ready md ops listed ≠ [] := by
      intro n
      induction n with
      | zero => intro p hp; omega
      | succ n ih =>
        intro p hpn hpm hun he
        have hlt : p < ops.size := by omega
        have hmem : p ∈ Region.ready md ops listed := by
          refine mem_ready.2 ⟨hun, ops[p], Array.getElem?_eq_getElem hlt, fun e hee hb => ?_⟩
          have hlo := h1 p _ (Array.getElem?_eq_getElem hlt) e hee hb
          cases hc : listed.getD e.on true
          · exact absurd he (ih e.on (by omega) (by omega) hc)
          · have : e.on < listed.size := by omega
            simp [this] at hc ⊢; exact hc
        rw [he] at hmem
        cases hmem
    exact key (p + 1) p (by omega) hp hun
  · intro i hi
    rcases Nat.lt_or_ge i m with h | hge
    · exact h
    exfalso
    obtain ⟨hiun, oi, hoi, hall⟩ := mem_ready.1 hi
    have hil := (Array.getElem?_eq_some_iff.1 hoi).1
    rcases h2 with h2 | ⟨hm, hs, hr⟩
    · omega
    -- m itself has come up, or is ready
    have key : ∀ n r or_, r ≤ n → m ≤ r → ops[r]? = some or_ → (∀ e ∈ or_.after, Region.binds md e = true → listed.getD e.on false = true) → ∃ om, ops[m]? = some om ∧ ∀ e ∈ om.after, Region.binds md e = true → listed.getD e.on false = true := by
      intro n
      induction n with
      | zero => intro r or_ h0 hm0 ho ha; exact ⟨or_, by rw [show m = r by omega]; exact ho, ha⟩
      | succ n ih =>
        intro r or_ hrn hmr ho ha
        rcases Nat.lt_or_ge m r with hlt | hge
        · obtain ⟨e, he, hb, h3, h4⟩ := hr r or_ hlt ho
          have hl := ha e he hb
          have hlt2 : e.on < ops.size := Nat.lt_trans h4 (Array.getElem?_eq_some_iff.1 ho).1
          exact ih e.on _ (by omega) h3 (Array.getElem?_eq_getElem hlt2) fun e' he' hb' => hsh _ _ (Array.getElem?_eq_getElem hlt2) (getD_true_of_false hl) e' he' hb'
        · exact ⟨or_, by rw [show m = r by omega]; exact ho, ha⟩
    obtain ⟨om, hom, ham⟩ := key i i oi (Nat.le_refl _) hge hoi hall
    have down : ∀ n p, m - p ≤ n → p < m → listed.getD p true = true := by
      intro n
      induction n with
      | zero => intro p h3 h4; omega
      | succ n ih =>
        intro p h3 h4
        obtain ⟨s, os, hps, hsm, hos, e, he, hb, rfl⟩ := hs p h4
        rcases Nat.lt_or_ge s m with h5 | h5
        · exact getD_true_of_false (hsh s os hos (ih s (by omega) h5) e he hb)
        · rw [show s = m by omega, hom] at hos
          injection hos with hos
          subst hos
          exact getD_true_of_false (ham e he hb)
    rw [down m p (by omega) hp] at hun
    cases hun
theorem U_any (h : stacked md ops m = true) : ∀ (fuel : Nat) (listed : Array Bool) (a : Act), Shut md ops listed → listed.size = ops.size → wpAnyU P md ops Q S m fuel listed a → ∀ w, S w → wpAny P md ops Q fuel listed a w
  | 0, _, _, _, _, H, w, hS => H w hS
  | fuel + 1, listed, a, hsh, hsz, H, w, hS => by
    unfold wpAnyU at H
    split at H
    · exact H w hS
    · rename_i hf
      obtain ⟨hne, hlt⟩ := ready_front h hsh hsz hf
      refine ⟨fun h0 => absurd h0 hne, fun i hi => ?_⟩
      refine wpOp_mono (fun a' w' h3 => U_any h fuel _ a' (hsh.set hi) (by simp [hsz]) h3.2 w' h3.1) (H i hi (hlt i hi) w hS)
/-- the beginning -/
theorem wp_region_U {id : Nat} {a : Act} {w : World} (hm : P.follows .mixedOrders = true) (hst : stacked .any ops m = true) (hS : S w.drew)
    (h : wpAnyU P .any ops Q S m ops.size (Array.replicate ops.size false) a) : (Code.region id ops true).wp P Q a w := by
  refine wp_region_any hm (U_any hst _ _ _ (fun j oj hj hl => ?_) (by simp) h _ hS)
  have hlt := (Array.getElem?_eq_some_iff.1 hj).1
  simp [hlt] at hl
/-- the rest, as elsewhere -/
theorem U_rest {listed : Array Bool} {a : Act} {fuel : Nat} (hf : front listed m = true) (h : ∀ w, S w → wpAnyH P md ops Q (fun _ => True) fuel listed a w) : wpAnyU P md ops Q S m fuel listed a :=
  U_done hf fuel fun w hS => wpAny_of_held _ _ _ _ (h w hS)
end
end Go.Proofs.YthhpcilinkebeaaDoor
