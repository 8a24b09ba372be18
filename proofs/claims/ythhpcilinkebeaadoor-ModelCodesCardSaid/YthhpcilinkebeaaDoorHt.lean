/- The abstract array: maps of blocks cloned, thinned out. -/
import Derived.Test.YthhpcilinkebeaaDoorHr
import Derived.Test.YthhpcilinkebeaaDoorHn
namespace Go.Proofs.YthhpcilinkebeaaDoor
open Go.RowKit Go.Maps Go.Shelf
set_option maxHeartbeats 4000000
set_option maxRecDepth 100000

theorem clone_map {w : World} {b n : Nat} {f : Int → Option Value} (h : MpX kInt w b n f) :
    Calls Tryd.prog 66 #[.map (some b)] w fun e w' => e = .returned (.map (some w.heap.size)) ∧ MpX kInt w' w.heap.size n f ∧ Below w.heap.size w w' := by
  obtain ⟨D, h1, h2⟩ := h
  exact (AnyW.maps_Clone_owns Tryd.cloneA kInt.ty idR b n D w h1).mono fun e w' he => ⟨he.1, ⟨D, he.2.1, h2⟩, he.2.2.2⟩
theorem VolAt.copy {w W : World} {block B n : Nat} {m : VM} (h : VolAt w block m) (hb : Below w.heap.size w W) (hmc : MpX kInt W B n (fun i => (m.g i).map Sb.val)) (nm : Bts) (snap : Bool) :
    VolAt (W.alloc (.cells #[.int .i64 (m.size : Nat), .bool snap, .map (some B)] 95)) block ⟨nm, W.heap.size, B, m.size, snap, m.g⟩ :=
  have hx := (Below.refl W.heap.size W).alloc (Nat.le_refl _) (.cells #[.int .i64 (m.size : Nat), .bool snap, .map (some B)] 95)
  ⟨Blk.new _ _ _, ⟨n, hmc.alloc _⟩, fun i s hi => ((h.ok i s hi).below hb).below hx, h.dom, h.few⟩
def inT (o : OM) (i : Int) : Bool := decide (o.at_ ≤ i ∧ i < o.at_ + o.n)
theorem trim1_any (o : OM) (O : Nat) (i : Int) (v : Value) (w : World) (hO : Blk w O 33 o.cells.toArray) (h0 : 0 ≤ o.at_) (hn : 0 ≤ o.n) (hi : i ≤ 9223372036854775807) (hs : o.at_ + o.n ≤ 9223372036854775807) :
    Calls Tryd.prog 75 #[.int .i64 i, v, .pointer (some ⟨O, 0, none⟩)] w fun e w' => e = .returned (.bool (inT o i)) ∧ w' = w := by
  have c3 : w.cell? ⟨O, 3, none⟩ = some (.int .i64 o.at_) := hO.cell 3
  have c4 : w.cell? ⟨O, 4, none⟩ = some (.int .i64 o.n) := hO.cell 4
  have HI : Hid (inT o i = decide (o.at_ ≤ i ∧ i < o.at_ + o.n)) := Lib.hid rfl
  generalize inT o i = R at *
  by_cases h1 : o.at_ ≤ i
  · obtain ⟨d, hd⟩ : ∃ d, i - o.at_ = d := ⟨_, rfl⟩
    have kw : IntKind.i64.wrap (i - o.at_) = d := by rw [IntWalk.i64_in _ (by omega)]; exact hd
    by_cases h2 : d < o.n
    · have : R = true := by rw [HI.out, decide_eq_true_iff]; omega
      subst this
      clear hd HI
      go_enter Tryd.func75, Tryd.ntmps75
      go_wp2_with fail
      go_ret
      exact ⟨rfl, rfl⟩
    · have : R = false := by rw [HI.out, decide_eq_false_iff_not]; omega
      subst this
      clear hd HI
      go_enter Tryd.func75, Tryd.ntmps75
      go_wp2_with fail
      go_ret
      exact ⟨rfl, rfl⟩
  · have : R = false := by rw [HI.out, decide_eq_false_iff_not]; omega
    subst this
    clear HI
    go_enter Tryd.func75, Tryd.ntmps75
    go_wp2_with fail
    go_ret
    exact ⟨rfl, rfl⟩
def pdT (o : OM) : Lit → DataW Value → Bool
  | .int .i64 i, _ => inT o i
  | _, _ => false
theorem del_fn (o : OM) (i : Int) (p : Lit × DataW Value) : (!pdT o p.1 p.2 && p.1.sameKey (kInt.lit i)) = (!inT o i && p.1.sameKey (kInt.lit i)) := by
  cases hs : p.1.sameKey (kInt.lit i)
  · simp
  · have e : p.1 = kInt.lit i := WideAt.sameKey_eq hs
    rw [e]
    rfl
theorem del_has (D : DataW Value) (hD : IsMap D) (o : OM) (i : Int) : has (Lib.deleteFuncD (pdT o) D) (kInt.lit i) = if inT o i then false else has D (kInt.lit i) := by
  obtain ⟨es, rfl⟩ := hD
  show has (.map (es.filter fun p => !pdT o p.1 p.2)) _ = _
  rw [has_eq, List.any_filter, has_eq]
  have e : (fun p : Lit × DataW Value => !pdT o p.1 p.2 && p.1.sameKey (kInt.lit i)) = fun p => !inT o i && p.1.sameKey (kInt.lit i) := funext fun p => del_fn o i p
  rw [e]
  cases inT o i <;> simp
theorem del_at (D : DataW Value) (hD : IsMap D) (o : OM) (i : Int) (h : inT o i = false) (z : DataW Value) : (Lib.deleteFuncD (pdT o) D).atKey (kInt.lit i) z = D.atKey (kInt.lit i) z := by
  obtain ⟨es, rfl⟩ := hD
  show DataW.atKey (.map (es.filter fun p => !pdT o p.1 p.2)) _ _ = _
  unfold DataW.atKey
  simp only
  rw [List.find?_filter]
  have e : (fun p : Lit × DataW Value => decide ((!pdT o p.1 p.2) = true ∧ p.1.sameKey (kInt.lit i) = true)) = fun p => p.1.sameKey (kInt.lit i) := funext fun p => by
    have := del_fn o i p
    rw [h] at this
    rw [Bool.eq_iff_iff, decide_eq_true_iff, ← Bool.and_eq_true, this]
    simp
  rw [e]
theorem trim_map {w : World} {b n O : Nat} {f : Int → Option Value} (o : OM) (h : MpX kInt w b n f) (hO : Blk w O 33 o.cells.toArray) (h0 : 0 ≤ o.at_) (hn : 0 ≤ o.n) (hs : o.at_ + o.n ≤ 9223372036854775807) :
    Calls Tryd.prog 74 #[.map (some b), .func (.func 75) #[] #[.pointer (some ⟨O, 0, none⟩)]] w fun e w' =>
      e = .returned (.tuple #[]) ∧ MpX kInt w' b n (fun i => if inT o i then none else f i) ∧ Chg (fun k => k = b) w w' := by
  obtain ⟨D, h1, h2, h3⟩ := h
  have hb : b ≠ O := fun e => hO.has.notMp (e ▸ (show MpX kInt w b n f from ⟨D, h1, h2, h3⟩).isMp)
  refine (AnyDf.maps_DeleteFunc Tryd.delA kInt.keyed idR (pdT o) 75 #[.pointer (some ⟨O, 0, none⟩)] b n D w (enters_of Tryd.func75 (by kernel_rfl) rfl) h1 ?_).mono fun e w' he => ⟨he.1, ⟨_, he.2.1, fun i => ?_, fun i v hv z => ?_⟩, Chg.of_grown he.2.2⟩
  · intro W key val kl yd yp hg hkey _
    obtain ⟨i, hi, rfl, rfl⟩ := kInt.back _ _ hkey
    have hOW : Blk W O 33 o.cells.toArray := (hg.block O hO.lt (fun e => by injection e with e; exact hb e.symm)).trans hO
    refine (trim1_any o O i val W hOW h0 hn hi.2 hs).mono fun e w' he => ⟨he.1, ?_⟩
    rw [he.2]
    exact ⟨rfl, rfl, rfl, Nat.le_refl _, fun _ _ _ => rfl⟩
  · rw [del_has D h1.isMap, h2]
    show _ = (if inT o i then none else f i).isSome
    cases inT o i <;> rfl
  · replace hv : (if inT o i then none else f i) = some v := hv
    cases hi : inT o i with
    | true => rw [hi] at hv; simp at hv
    | false =>
      rw [hi] at hv
      rw [del_at D h1.isMap o i hi]
      exact h3 i v (by simpa using hv) z
end Go.Proofs.YthhpcilinkebeaaDoor
