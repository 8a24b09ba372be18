/- Words for maps: by texts, by numbers; every value as it lies. -/
import Derived.Test.YthhpcilinkebeaaDoorProg
import Derived.Test.YthhpcilinkebeaaDoorWd
import Derived.Test.YthhpcilinkebeaaDoorHa
import Derived.Maps.OwnSet
import Derived.Maps.Range
import Derived.Maps.RangeWalk
import Derived.Sort.KeysCollected
import Derived.Sort.MapsRangeIn
namespace Go.Proofs.YthhpcilinkebeaaDoor
open Go.RowKit Go.Maps
set_option maxRecDepth 100000
set_option linter.unusedSectionVars false

/-- every value as it lies -/
def idR (v : Value) : Option (DataW Value × List MemPlace) := some (.held v, [])
theorem idR_inv {v u : Value} {ps : List MemPlace} (h : idR v = some (.held u, ps)) : v = u := by
  unfold idR at h
  injection h with h
  injection h with h _
  injection h
/-- how keys are spelled -/
structure KK (K : Type) where
  ty : TypeId
  val : K → Value
  lit : K → Lit
  ok : K → Prop
  keyed : Keyed Tryd.prog ty
  key : ∀ x, ok x → keyOf Tryd.prog ty (val x) = some (lit x)
  inj : ∀ x y, lit x = lit y → x = y
  isLit : ∀ x, WideAt.IsKeyLit (lit x)
  back : ∀ v l, keyOf Tryd.prog ty v = some l → ∃ x, ok x ∧ v = val x ∧ l = lit x
def strB (s : ByteArray) : Bts := s.data.toList
theorem bts_str (s : ByteArray) : (⟨(strB s).toArray⟩ : ByteArray) = s := by
  cases s
  simp [strB]
theorem strB_mk (l : Bts) : strB ⟨l.toArray⟩ = l := by simp [strB]
def kStr : KK Bts where
  ty := 9
  val l := .string ⟨l.toArray⟩
  lit l := .string l
  ok l := l.length ≤ maxLen
  keyed := string_keyed Tryd.underlying9
  key l h := by
    have hl : (⟨l.toArray⟩ : ByteArray).size = l.length := rfl
    simp [keyOf, Tryd.underlying9, mapKey, hl, h]
  inj x y h := by injection h
  isLit x := by simp [WideAt.IsKeyLit]
  back v l h := by
    obtain ⟨x, rfl, rfl, hx⟩ := Maps.keyOf_str Tryd.underlying9 h
    exact ⟨x, hx, rfl, rfl⟩
def kInt : KK Int where
  ty := 3
  val i := .int .i64 i
  lit i := .int .i64 i
  ok i := -9223372036854775808 ≤ i ∧ i ≤ 9223372036854775807
  keyed := int_keyed Tryd.underlying3
  key i h := keyOf_int_mk Tryd.underlying3 (by simp [Lit.wf, IntKind.min, IntKind.max, IntKind.signed, IntKind.bits]; omega)
  inj x y h := by injection h
  isLit x := by simp [WideAt.IsKeyLit]
  back v l h := by
    obtain ⟨x, rfl, rfl, hwf⟩ := Maps.keyOf_int_inv Tryd.underlying3 h
    refine ⟨x, ?_, rfl, rfl⟩
    simp [Lit.wf, IntKind.min, IntKind.max, IntKind.signed, IntKind.bits] at hwf
    omega

section
variable {K : Type} [DecidableEq K] {κ : KK K}
/-- block M is a map of at most n entries that reads as f -/
def MpX (κ : KK K) (w : World) (M n : Nat) (f : K → Option Value) : Prop :=
  ∃ D : DataW Value, w.ownsMap Tryd.prog κ.ty idR M n D ∧ (∀ x, has D (κ.lit x) = (f x).isSome) ∧ ∀ x v, f x = some v → ∀ z, D.atKey (κ.lit x) z = .held v
def updX (f : K → Option Value) (x : K) (v : Option Value) : K → Option Value := fun y => if y = x then v else f y
/-- the keys that there are -/
def Keys (f : K → Option Value) (ks : List K) : Prop := ks.Nodup ∧ ∀ x, x ∈ ks ↔ (f x).isSome = true

variable {w w' : World} {M n : Nat} {f : K → Option Value}
theorem MpX.lt (h : MpX κ w M n f) : M < w.heap.size := let ⟨_, h, _⟩ := h; h.lt
theorem MpX.mono {n' : Nat} (h : MpX κ w M n f) (hn : n ≤ n') : MpX κ w M n' f := let ⟨D, h1, h2⟩ := h; ⟨D, h1.mono hn, h2⟩
theorem MpX.alloc (h : MpX κ w M n f) (o : Obj) : MpX κ (w.alloc o) M n f := let ⟨D, h1, h2⟩ := h; ⟨D, h1.alloc o, h2⟩
theorem MpX.drew (h : MpX κ w M n f) : MpX κ w.drew M n f := h
theorem MpX.block (h : MpX κ w M n f) (hb : w'.heap[M]? = w.heap[M]?) : MpX κ w' M n f := by
  obtain ⟨D, ⟨es, clock, hb0, r⟩, h2⟩ := h
  exact ⟨D, ⟨es, clock, hb.trans hb0, r⟩, h2⟩
theorem MpX.below (h : MpX κ w M n f) (hb : Below w.heap.size w w') : MpX κ w' M n f := h.block (hb.block M h.lt)
theorem MpX.made (w : World) : MpX κ (w.alloc (.map #[] 0)) w.heap.size 0 (fun _ => none) :=
  ⟨.map [], World.ownsMap_made _ _ _ _, fun _ => rfl, fun _ _ h => by cases h⟩
theorem MpX.look (h : MpX κ w M n f) {x : K} (hx : κ.ok x) {t e : TypeId} (ht : Tryd.prog.underlying t = some (.map κ.ty e)) {zv : Value} (hz : (zeroValue e).run Tryd.prog w = .ok zv w) :
    (Instr.lookup t (.map (some M)) (κ.val x) true).run Tryd.prog w = .ok (.tuple #[(f x).getD zv, .bool (f x).isSome]) w := by
  obtain ⟨D, h1, h2, h3⟩ := h
  obtain ⟨v, ps, hrun, hv⟩ := h1.look_ok κ.keyed ht hz (zd := .held zv) (zp := []) rfl (κ.key x hx)
  rw [h2] at hrun
  cases hf : f x with
  | none =>
    rw [hf] at hrun
    have hn : has D (κ.lit x) = false := by rw [h2, hf]; rfl
    rw [atKey_of_not_has hn] at hv
    rw [idR_inv hv] at hrun
    exact hrun
  | some m =>
    rw [hf] at hrun
    rw [h3 x m hf] at hv
    rw [idR_inv hv] at hrun
    exact hrun
theorem MpX.look1 (h : MpX κ w M n f) {x : K} (hx : κ.ok x) {t e : TypeId} (ht : Tryd.prog.underlying t = some (.map κ.ty e)) {zv : Value} (hz : (zeroValue e).run Tryd.prog w = .ok zv w) :
    (Instr.lookup t (.map (some M)) (κ.val x) false).run Tryd.prog w = .ok ((f x).getD zv) w := by
  obtain ⟨D, h1, h2, h3⟩ := h
  obtain ⟨v, ps, hrun, hv⟩ := h1.lookup κ.keyed ht hz (zd := .held zv) (zp := []) rfl (κ.key x hx)
  cases hf : f x with
  | none =>
    have hn : has D (κ.lit x) = false := by rw [h2, hf]; rfl
    rw [atKey_of_not_has hn] at hv
    rw [idR_inv hv] at hrun
    exact hrun
  | some m =>
    rw [h3 x m hf] at hv
    rw [idR_inv hv] at hrun
    exact hrun
theorem MpX.store (h : MpX κ w M n f) {x : K} (hx : κ.ok x) {t e : TypeId} (ht : Tryd.prog.underlying t = some (.map κ.ty e)) (hn : n < maxLen) (v : Value) :
    ∃ w', (Instr.mapUpdate t (.map (some M)) (κ.val x) v).run Tryd.prog w = .ok () w' ∧ MpX κ w' M (n + 1) (updX f x (some v)) ∧ w.mapTurned w' M := by
  obtain ⟨D, h1, h2, h3⟩ := h
  obtain ⟨w', hrun, r1, r2⟩ := h1.store κ.keyed ht hn (κ.key x hx) (val := v) (d := .held v) (ps := []) rfl
  refine ⟨w', hrun, ⟨_, r1, fun j => ?_, fun j m hj z => ?_⟩, r2⟩
  · by_cases e : j = x
    · subst e
      rw [has_put_same h1.isMap (κ.isLit _)]
      simp [updX]
    · rw [has_put_other (fun e' => e (κ.inj _ _ e')), h2]
      simp [updX, e]
  · by_cases e : j = x
    · subst e
      rw [atKey_put_same h1.isMap (κ.isLit _)]
      simp [updX] at hj
      rw [hj]
    · rw [atKey_put_other (fun e' => e (κ.inj _ _ e'))]
      exact h3 j m (by simpa [updX, e] using hj) z
theorem MpX.drop (h : MpX κ w M n f) {x : K} (hx : κ.ok x) {t e : TypeId} (ht : Tryd.prog.underlying t = some (.map κ.ty e)) (ty : TypeId) :
    ∃ w', (Builtin.delete_ #[t, κ.ty] ty #[.map (some M), κ.val x]).run Tryd.prog w = .ok (.tuple #[]) w' ∧ MpX κ w' M n (updX f x none) ∧ w.mapTurned w' M := by
  obtain ⟨D, h1, h2, h3⟩ := h
  obtain ⟨w', hrun, r1, r2⟩ := h1.drop κ.keyed ht (κ.key x hx) ty
  refine ⟨w', hrun, ⟨_, r1, fun j => ?_, fun j m hj z => ?_⟩, r2⟩
  · by_cases e : j = x
    · subst e
      rw [has_del_same]
      simp [updX]
    · rw [has_del_other (fun e' => e (κ.inj _ _ e')), h2]
      simp [updX, e]
  · by_cases e : j = x
    · subst e
      simp [updX] at hj
    · rw [atKey_del_other (fun e' => e (κ.inj _ _ e'))]
      exact h3 j m (by simpa [updX, e] using hj) z
theorem keys_size {D : DataW Value} (h1 : w.ownsMap Tryd.prog κ.ty idR M n D) (h2 : ∀ x, has D (κ.lit x) = (f x).isSome) {ks : List K} (hk : Keys f ks) : Maps.size D = ks.length := by
  obtain ⟨es, rfl, hp, _⟩ := h1.entries κ.keyed
  obtain ⟨es', e', hko⟩ := h1.keysOf
  injection e' with e'
  subst e'
  have hperm : (es.map (·.1)).Perm (ks.map κ.lit) := by
    refine (List.perm_ext_iff_of_nodup (List.pairwise_map.2 hp) (List.pairwise_map.2 (hk.1.imp fun {a b} hab e => hab (κ.inj _ _ e)))).2 fun l => ?_
    constructor
    · intro hl
      obtain ⟨p, hp', rfl⟩ := List.mem_map.1 hl
      obtain ⟨v, hv⟩ := hko p hp'
      obtain ⟨x, _, _, hx⟩ := κ.back _ _ hv
      rw [hx]
      refine List.mem_map.2 ⟨x, (hk.2 x).2 ?_, rfl⟩
      rw [← h2, has_eq, List.any_eq_true]
      exact ⟨p, hp', by rw [hx]; exact WideAt.sameKey_self (κ.isLit x)⟩
    · intro hl
      obtain ⟨x, hx, rfl⟩ := List.mem_map.1 hl
      have := (hk.2 x).1 hx
      rw [← h2, has_eq, List.any_eq_true] at this
      obtain ⟨p, hp', hs⟩ := this
      exact List.mem_map.2 ⟨p, hp', WideAt.sameKey_eq hs⟩
  have := hperm.length_eq
  simpa [Maps.size] using this
theorem MpX.len (h : MpX κ w M n f) {t e : TypeId} (ht : Tryd.prog.underlying t = some (.map κ.ty e)) (ty : TypeId) {ks : List K} (hk : Keys f ks) :
    (Builtin.len_ #[t] ty #[.map (some M)]).run Tryd.prog w = .ok (.int .i64 (ks.length : Nat)) w := by
  obtain ⟨D, h1, h2, _⟩ := h
  rw [h1.len ht, keys_size h1 h2 hk]

/-- the map M is gone through by r -/
def MpRX (κ : KK K) (w : World) (M r n : Nat) (f : K → Option Value) (left : K → Bool) (cnt : Nat) : Prop :=
  ∃ (D : DataW Value) (L : Lit → Bool), w.ranges Tryd.prog κ.ty idR M r n D L cnt ∧ (∀ x, has D (κ.lit x) = (f x).isSome) ∧ (∀ x v, f x = some v → ∀ z, D.atKey (κ.lit x) z = .held v) ∧ ∀ x, L (κ.lit x) = left x
variable {r cnt : Nat} {left : K → Bool}
theorem MpRX.mp (h : MpRX κ w M r n f left cnt) : MpX κ w M n f := let ⟨D, _, h1, h2, h3, _⟩ := h; ⟨D, h1.owns, h2, h3⟩
theorem MpRX.left_eq (h : MpRX κ w M r n f left cnt) : w.rangeLeft M r = cnt := let ⟨_, _, h1, _⟩ := h; h1.left_eq
theorem MpRX.alloc (h : MpRX κ w M r n f left cnt) (o : Obj) : MpRX κ (w.alloc o) M r n f left cnt := let ⟨D, L, h1, h2⟩ := h; ⟨D, L, h1.alloc o, h2⟩
theorem MpRX.lt (h : MpRX κ w M r n f left cnt) : r < w.heap.size := let ⟨_, _, h1, _⟩ := h; h1.lt
theorem MpRX.kept {row : Option Nat} (h : MpRX κ w M r n f left cnt) (hg : w.grownBy w' row) (hb : some M ≠ row) (hr : some r ≠ row) : MpRX κ w' M r n f left cnt := let ⟨D, L, h1, h2⟩ := h; ⟨D, L, h1.kept hg hb hr, h2⟩
theorem MpRX.below (h : MpRX κ w M r n f left cnt) (hb : Below w.heap.size w w') : MpRX κ w' M r n f left cnt := h.kept (row := none) ⟨hb.os, hb.tape, hb.output, hb.size, fun k hk _ => hb.block k hk⟩ (by simp) (by simp)
theorem MpX.range (h : MpX κ w M n f) {t e : TypeId} (ht : Tryd.prog.underlying t = some (.map κ.ty e)) :
    ∃ w' cnt, (Instr.range t (.map (some M))).run Tryd.prog w = .ok (.pointer (some ⟨w.heap.size, 0, none⟩)) w' ∧ MpRX κ w' M w.heap.size n f (fun x => (f x).isSome) cnt ∧ w.grownBy w' none := by
  obtain ⟨D, h1, h2, h3⟩ := h
  obtain ⟨w', hrun, r1, r2, _⟩ := h1.range κ.keyed ht
  exact ⟨w', _, hrun, ⟨D, _, r1, h2, h3, h2⟩, r2⟩
theorem wpList_mxrg {w : World} {ops : Array Oper} {rest : List Oper} {o : Oper} {a : Act} {Q : Exit → Act → World → Prop} {t e : TypeId} (ht : Tryd.prog.underlying t = some (.map κ.ty e)) (hg : o.guard = none) (m : Operand) (hop : o.op = Op.range t m) (hm : a.eval m = .map (some M)) (h : MpX κ w M n f)
    (hK : ∀ w' cnt, MpRX κ w' M w.heap.size n f (fun x => (f x).isSome) cnt → Below w.heap.size w w' → wpList Tryd.prog ops Q rest (a.put o.dst (.pointer (some ⟨w.heap.size, 0, none⟩))) w') : wpList Tryd.prog ops Q (o :: rest) a w := by
  refine wpList_plain hg fun K' hK' => ?_
  obtain ⟨w', cnt, hrun, r1, r2⟩ := h.range ht
  unfold Oper.wp
  simp [execOp, hop, hm, hrun, Result.andThen]
  exact hK' _ _ (hK w' cnt r1 ⟨r2.os, r2.tape, r2.output, r2.size, fun k hk => r2.block k hk (by simp)⟩)
theorem wpList_mxnext {w : World} {ops : Array Oper} {rest : List Oper} {o : Oper} {a : Act} {Q : Exit → Act → World → Prop} (hg : o.guard = none) (it : Operand) (hop : o.op = Op.next it false) (hit : a.eval it = .pointer (some ⟨r, 0, none⟩)) (h : MpRX κ w M r n f left cnt)
    (hDone : (∀ x, left x = false) → wpList Tryd.prog ops Q rest (a.put o.dst (.tuple #[.bool false])) w)
    (hMore : ∀ (x : K) (v : Value) (w' : World) (cnt' : Nat), κ.ok x → f x = some v → left x = true → MpRX κ w' M r n f (fun y => left y && !decide (y = x)) cnt' → cnt' < cnt → w.grownBy w' (some r) →
      (Instr.entry (.pointer (some ⟨r, 0, none⟩))).run Tryd.prog w' = .ok (.tuple #[κ.val x, v]) w' → wpList Tryd.prog ops Q rest (a.put o.dst (.tuple #[.bool true, κ.val x, v])) w') : wpList Tryd.prog ops Q (o :: rest) a w := by
  refine wpList_plain hg fun K' hK' => ?_
  obtain ⟨D, L, h1, h2, h3, h4⟩ := h
  unfold Oper.wp
  rcases h1.next κ.keyed o.type with ⟨h0, hl, hrun⟩ | ⟨key, v, kl, y, w', cnt', hkey, hlk, hv, hat, hrun, hrg, hlt, hgr, hsz, hen⟩
  · simp [execOp, hop, hit, hrun, Result.andThen]
    exact hK' _ _ (hDone fun i => by rw [← h4]; exact hl _)
  · obtain ⟨x, hox, rfl, rfl⟩ := κ.back _ _ hkey
    have hh : has D (κ.lit x) = true := has_true_of_atKey hat
    rw [h2] at hh
    obtain ⟨m, hm⟩ := Option.isSome_iff_exists.1 hh
    have hy : y.1 = .held m := by rw [← hat (.lit (.bool true)), ← h3 x m hm]
    have hve : v = m := idR_inv (ps := y.2) (by rw [hv, ← hy])
    subst hve
    simp [execOp, hop, hit, hrun, Result.andThen]
    refine hK' _ _ (hMore x v w' cnt' hox hm ?_ ⟨D, _, hrg, h2, h3, fun j => ?_⟩ hlt hgr hen)
    · rw [← h4]; exact hlk
    · simp only
      rw [h4]
      by_cases e : j = x
      · subst e
        rw [WideAt.sameKey_self (κ.isLit j)]
        simp
      · rw [sameKey_ne (fun e' => e (κ.inj _ _ e'))]
        simp [e]
theorem Keys.upd {ks : List K} (h : Keys f ks) (x : K) (v : Value) : ∃ ks', Keys (updX f x (some v)) ks' := by
  by_cases hx : x ∈ ks
  · refine ⟨ks, h.1, fun y => ?_⟩
    rw [h.2]
    unfold updX
    by_cases e : y = x
    · subst e; simp [(h.2 y).1 hx]
    · simp [e]
  · refine ⟨x :: ks, List.nodup_cons.2 ⟨hx, h.1⟩, fun y => ?_⟩
    rw [List.mem_cons, h.2]
    unfold updX
    by_cases e : y = x
    · simp [e]
    · simp [e]
end
end Go.Proofs.YthhpcilinkebeaaDoor
