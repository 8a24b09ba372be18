/- Words that serve any part: slices of bytes and ints, what stays, appends of one element, clones. -/
import Derived.Test.YthhpcilinkebeaaDoorProg
import Derived.Test.YthhpcilinkebeaaDoorWd
import Derived.Test.YthhpcilinkebeaaDoorWb
import Derived.Deep.LoopGhost
import Derived.Deep.DeepCutAuto
import Derived.Deep.QuietTactic
import Derived.BigQuiet
import Derived.Outline
import Derived.Laws.MakeOwn
namespace Go.Proofs.YthhpcilinkebeaaDoor
open Go.RowKit
set_option maxHeartbeats 2000000
set_option maxRecDepth 100000

theorem slB : SlT Tryd.prog 31 5 (.int .u8 0) 1 1 := ⟨Tryd.underlying31, by kernel_rfl, rfl, by decide⟩
theorem slI : SlT Tryd.prog 67 3 (.int .i64 0) 1 8 := ⟨Tryd.underlying67, by kernel_rfl, rfl, by decide⟩

/-- parts: slices of bytes that can be read, and the headers that stand for them -/
structure Sb where
  A : Option Addr
  c : Nat
  l : List UInt8
def Sb.val (s : Sb) : Value := .slice s.A s.l.length s.c
def Sb.ok (w : World) (s : Sb) : Prop := Rd w s.A (byts s.l) ∧ s.l.length ≤ s.c ∧ s.l.length ≤ 140737488351232
theorem Sb.ok_below {w w' : World} {s : Sb} (h : s.ok w) (hb : Below w.heap.size w w') : s.ok w' := ⟨h.1.below hb, h.2⟩
def flat (ps : List Sb) : List UInt8 := ps.flatMap (·.l)

theorem take_foldl {α β : Type} (f : β → α → β) (l : List α) (k : Nat) (hk : k < l.length) (x : β) : (l.take (k + 1)).foldl f x = f ((l.take k).foldl f x) l[k] := by
  rw [List.take_succ_eq_append_getElem hk, List.foldl_append]; rfl
theorem flat_take (ps : List Sb) (k : Nat) (hk : k < ps.length) : flat (ps.take (k + 1)) = flat (ps.take k) ++ ps[k].l := by
  rw [List.take_succ_eq_append_getElem hk]; unfold flat; rw [List.flatMap_append]; simp

theorem conv_bytes (w : World) (A : Option Addr) (c : Nat) (l : List UInt8) (hr : Rd w A (byts l)) :
    (convert 31 9 (.slice A l.length c)).run Tryd.prog w = .ok (.string ⟨l.toArray⟩) w := by
  have hb := run_convert_bytes_string (P := Tryd.prog) w 31 9 5 A l.length c Tryd.underlying31 Tryd.underlying5 Tryd.underlying9
  rcases A with _ | ad
  · have : l = [] := by have := hr.eq_nil; simpa [byts] using this
    subst this
    rw [hb]
    simp [Conv.bytesToString]
    rfl
  · have hl : (loadCells ad l.length).run Tryd.prog w = .ok ((l.map fun b => (b.toNat : Int)).map (Value.int .u8)).toArray w := by
      have := run_loadCells_list (P := Tryd.prog) w ad (byts l) (fun j v hj => by
        obtain ⟨ad', e, _, hc⟩ := hr (by intro e0; rw [e0] at hj; simp at hj)
        injection e with e
        subst e
        exact hc j v hj)
      rw [byts_length] at this
      rw [this]
      simp [byts, byt, Function.comp_def]
    rw [hb, run_bytesToString w ad _ _ _ hl, foldl_push_bytes]
    have e : (l.map fun b => (b.toNat : Int)).map (fun n => UInt8.ofNat n.toNat) = l := by
      simp [Function.comp_def]
    rw [e]
    simp [ByteArray.empty, ByteArray.emptyWithCapacity]
    rfl

theorem clone_any (A : Option Addr) (c : Nat) (l : List UInt8) (w : World) (hr : Rd w A (byts l)) (hl : l.length ≤ 140737488351232) :
    Calls Tryd.prog 84 #[.slice A l.length c] w fun e w' => ∃ A' c', e = .returned (.slice A' l.length c') ∧
      w'.ownsRow w.heap.size 5 1 (.slice A' l.length c') l.length (byts l) ∧ Below w.heap.size w w' := by
  have hnil := fun (W : World) => Lib.run_eql_slice_nil (P := Tryd.prog) W 31 5 A l.length c 0 0 Tryd.underlying31
  rcases A with _ | ad
  · have : l = [] := by have := hr.eq_nil; simpa [byts] using this
    subst this
    show Calls Tryd.prog 84 #[.slice none 0 c] w _
    have hn : ∀ W, (binOp .eql 31 (.slice none 0 c) (.slice none 0 0)).run Tryd.prog W = .ok (.bool true) W := hnil
    clear hnil
    go_enter Tryd.func84, Tryd.ntmps84
    go_wp2
    go_ret
    exact ⟨none, 0, rfl, World.ownsRow_nil _ _ _ _, Below.refl _ _⟩
  · have hown : (w.alloc (.cells #[] 5)).ownsRow w.heap.size 5 1 (.slice (some ⟨w.heap.size, 0, none⟩) 0 0) 0 [] := World.ownsRow_made w #[] 0 (Nat.le_refl _) (by unfold maxLen; omega) rfl
    have hr1 := hr.alloc (.cells #[] 5)
    have hL := byts_length l
    have HL := Lib.hid hL
    clear hL
    go_enter Tryd.func84, Tryd.ntmps84
    go_wp2_with (first | (at_builtin; refine wpList_app _ rfl _ _ rfl slB w.heap.size (.slice (some ⟨w.heap.size, 0, none⟩) 0 0) 0 [] rfl hown (some ad) l.length c (byts l) rfl (by rw [HL.out, Nat.mul_one]) hr1 (byts_one l) (by unfold maxLen; omega) (by omega) (by simp) ?_; intro A2 c2 w2 ho2 hg2))
    go_ret
    refine ⟨A2, c2, rfl, by simpa using ho2, ?_⟩
    exact ((Below.refl _ _).alloc (Nat.le_refl _) _).trans (hg2.toBelow (by simp) (by simp [Value.ownBlock]))
/-- block g holds cells of type t -/
def Has (w : World) (g : Nat) (t : TypeId) : Prop := ∃ cs fr, w.heap[g]? = some (.cells cs t fr)
theorem Has.ne {w : World} {g g' : Nat} {t t' : TypeId} (h : Has w g t) (h' : Has w g' t') (ht : t ≠ t') : g ≠ g' := by
  rintro rfl
  obtain ⟨cs, fr, e⟩ := h
  obtain ⟨cs', fr', e'⟩ := h'
  rw [e] at e'
  injection e' with e'
  injection e' with _ e' _
  exact ht e'
theorem Has.lt {w : World} {g : Nat} {t : TypeId} (h : Has w g t) : g < w.heap.size := by
  obtain ⟨cs, fr, e⟩ := h
  exact (Array.getElem?_eq_some_iff.1 e).1
theorem Blk.has {w : World} {g : Nat} {t : TypeId} {cs : Array Value} (h : Blk w g t cs) : Has w g t := ⟨cs, _, h⟩

/-- all but the blocks in S is as it was -/
structure Chg (S : Nat → Prop) (w w' : World) : Prop where
  os : w'.os = w.os
  tape : w'.tape = w.tape
  output : w'.output = w.output
  size : w.heap.size ≤ w'.heap.size
  block : ∀ k, k < w.heap.size → ¬ S k → w'.heap[k]? = w.heap[k]?
section
variable {S S' : Nat → Prop} {w w1 w2 : World}
theorem Chg.refl (S : Nat → Prop) (w : World) : Chg S w w := ⟨rfl, rfl, rfl, Nat.le_refl _, fun _ _ _ => rfl⟩
theorem Chg.trans (h : Chg S w w1) (k : Chg S w1 w2) : Chg S w w2 :=
  ⟨k.os.trans h.os, k.tape.trans h.tape, k.output.trans h.output, Nat.le_trans h.size k.size, fun i hi h1 => (k.block i (Nat.lt_of_lt_of_le hi h.size) h1).trans (h.block i hi h1)⟩
theorem Chg.mono (h : Chg S w w1) (hS : ∀ k, k < w.heap.size → S k → S' k) : Chg S' w w1 := ⟨h.os, h.tape, h.output, h.size, fun k hk hn => h.block k hk fun hs => hn (hS k hk hs)⟩
theorem Chg.trans' (h : Chg S w w1) (k : Chg S' w1 w2) (hS : ∀ k, k < w.heap.size → S' k → S k) : Chg S w w2 :=
  ⟨k.os.trans h.os, k.tape.trans h.tape, k.output.trans h.output, Nat.le_trans h.size k.size, fun i hi h1 => (k.block i (Nat.lt_of_lt_of_le hi h.size) fun hs => h1 (hS i hi hs)).trans (h.block i hi h1)⟩
theorem Chg.of_below (h : Below w.heap.size w w1) : Chg S w w1 := ⟨h.os, h.tape, h.output, h.size, fun k hk _ => h.block k hk⟩
theorem Chg.below (h : Chg S w w1) (k : Below w1.heap.size w1 w2) : Chg S w w2 := h.trans (.of_below k)
theorem Chg.drew (h : Chg S w w1) : Chg S w w1.drew := h.trans ⟨rfl, rfl, rfl, Nat.le_refl _, fun _ _ _ => rfl⟩
theorem Chg.drewN (h : Chg S w w1) (n : Nat) : Chg S w (w1.drewN n) := h.trans ⟨rfl, rfl, rfl, Nat.le_refl _, fun _ _ _ => rfl⟩
theorem Chg.set (h : Chg S w w1) {g : Nat} (hg : S g) (i : Nat) (u : Value) : Chg S w (w1.setCell ⟨g, i, none⟩ u) :=
  h.trans ⟨rfl, rfl, rfl, by simp [World.setCell], fun k _ hk => Below.heap_setCell w1 _ _ k (by rintro rfl; exact hk hg)⟩
theorem Chg.alloc (h : Chg S w w1) (o : Obj) : Chg S w (w1.alloc o) := h.below ((Below.refl _ _).alloc (Nat.le_refl _) o)
theorem Chg.toBelow (h : Chg S w w1) {B : Nat} {w0 : World} (hb : Below B w0 w) (hS : ∀ k, S k → B ≤ k) (hB : B ≤ w.heap.size) : Below B w0 w1 :=
  hb.trans ⟨h.os, h.tape, h.output, h.size, fun k hk => h.block k (by omega) (fun hs => by have := hS k hs; omega)⟩
theorem Has.keep {g : Nat} {t : TypeId} (h : Has w g t) (hc : Chg S w w1) (hg : ¬ S g) : Has w1 g t := by
  obtain ⟨cs, fr, e⟩ := h
  exact ⟨cs, fr, (hc.block g (Array.getElem?_eq_some_iff.1 e).1 hg).trans e⟩
theorem Blk.keep {g : Nat} {t : TypeId} {cs : Array Value} (h : Blk w g t cs) (hc : Chg S w w1) (hg : ¬ S g) : Blk w1 g t cs := (hc.block g h.lt hg).trans h
theorem Rd.keepC {A : Option Addr} {xs : List Value} (h : Rd w A xs) (hc : Chg S w w1) (hA : ∀ ad, A = some ad → ¬ S ad.block) : Rd w1 A xs := fun hn => by
  obtain ⟨ad, e, hb, hcell⟩ := h hn
  refine ⟨ad, e, Nat.lt_of_lt_of_le hb hc.size, fun j u hu => ?_⟩
  rw [World.cell?_of_block (w := w) (hc.block _ (by rw [add_block]; exact hb) (by rw [add_block]; exact hA ad e))]
  exact hcell j u hu
theorem own_keepC {base : Nat} {e : TypeId} {size n : Nat} {v : Value} {xs : List Value} (h : w.ownsRow base e size v n xs) (hc : Chg S w w1) (hv : ∀ g, v.ownBlock = some g → ¬ S g) : w1.ownsRow base e size v n xs := by
  refine ⟨h.1, ?_⟩
  rcases h.2 with h0 | ⟨g, cap, cur, rfl, hbg, hg, r⟩
  · exact .inl h0
  · exact .inr ⟨g, cap, cur, rfl, hbg, (hc.block g (Array.getElem?_eq_some_iff.1 hg).1 (hv g rfl)).trans hg, r⟩
end

/-- append of one element onto a row of a zone's pages: the new row lies in the old block or in a new one; nothing else has turned -/
theorem run_apz {P : Program} (w : World) {t e : TypeId} {z : Value} {bytes : Nat} (S : SlT P t e z 1 bytes) (ty : TypeId) (base : Nat) (A0 : Option Addr) (n c0 : Nat) (xs : List Value) (hap : Ap w base e 1 (.slice A0 n c0) n xs)
    (A : Option Addr) (u : Value) (hr : Rd w A [u]) (h1 : u.oneCell' = true) (h63 : n + 1 ≤ maxLen) (hbytes : (n + 1) * bytes ≤ 140737488355328) (hbase : base ≤ w.heap.size) :
    ∃ A' c' w', (Builtin.append_ #[t, t] ty #[.slice A0 n c0, .slice A 1 1]).run P w = .ok (.slice A' (n + 1) c') w' ∧ w'.ownsRow base e 1 (.slice A' (n + 1) c') (n + 1) (xs ++ [u]) ∧
      Chg (fun k => ∃ ad, A0 = some ad ∧ k = ad.block) w w' ∧ (∀ ad, A' = some ad → (∃ ad0, A0 = some ad0 ∧ ad.block = ad0.block) ∨ w.heap.size ≤ ad.block) := by
  rcases hap with hown | ⟨A1, hv, hA, hxl, hxr⟩
  · obtain ⟨A', c', w', hrun, h2, h3⟩ := run_app (P := P) w S ty base (.slice A0 n c0) n xs hown A 1 1 [u] rfl hr (by simpa using h1) h63 hbytes hbase
    refine ⟨A', c', w', hrun, h2, ⟨h3.grown.os, h3.grown.tape, h3.grown.output, h3.grown.size, fun k hk hn => h3.grown.block k hk fun e' => ?_⟩, fun ad e' => ?_⟩
    · cases hA0 : A0 with
      | none => rw [hA0] at e'; simp [Value.ownBlock] at e'
      | some ad => rw [hA0] at e'; simp [Value.ownBlock] at e'; exact hn ⟨ad, hA0, e'⟩
    · rcases h3.loc ad.block (by rw [e']; rfl) with h4 | h4
      · cases hA0 : A0 with
        | none => rw [hA0] at h4; simp [Value.ownBlock] at h4
        | some ad0 => rw [hA0] at h4; simp [Value.ownBlock] at h4; exact .inl ⟨ad0, rfl, h4.symm⟩
      · exact .inr h4
  · injection hv with e1 _ e2
    subst e1
    have e2' := e2.symm
    subst e2'
    obtain ⟨i, hi, hz0, hz1, hz2⟩ := info_parts S.hi
    obtain ⟨ad, rfl, _, hcells⟩ := hr (by simp)
    have hxr' : ∀ b, A0 = some b → ∀ j u, xs[j]? = some u → w.cell? (b.add j) = some u := by
      intro b hb j u hu
      obtain ⟨ad', h', _, hc⟩ := hxr (by intro e0; subst e0; simp at hu)
      rw [hb] at h'; injection h' with h'; subst h'
      exact hc j u hu
    have fin : ∀ v' w', (Builtin.append_ #[t, t] ty #[.slice A0 n n, .slice (some ad) 1 1]).run P w = .ok v' w' → w'.ownsRow w.heap.size e 1 v' (n + 1) (xs ++ [u]) → w.grownBy w' none →
        ∃ A' c' w', (Builtin.append_ #[t, t] ty #[.slice A0 n n, .slice (some ad) 1 1]).run P w = .ok (.slice A' (n + 1) c') w' ∧ w'.ownsRow base e 1 (.slice A' (n + 1) c') (n + 1) (xs ++ [u]) ∧
          Chg (fun k => ∃ ad, A0 = some ad ∧ k = ad.block) w w' ∧ (∀ ad, A' = some ad → (∃ ad0, A0 = some ad0 ∧ ad.block = ad0.block) ∨ w.heap.size ≤ ad.block) := by
      intro v' w' hrun hown hg
      obtain ⟨A', c', rfl, _, _, hA', _⟩ := own_slice hown
      exact ⟨A', c', w', hrun, own_mono hown hbase, ⟨hg.os, hg.tape, hg.output, hg.size, fun k hk _ => hg.block k hk (by simp)⟩, fun ad e' => .inr (hA' ad e').1⟩
    cases hA0 : A0 with
    | some b =>
      rw [hA0] at fin hxr'
      obtain ⟨v', w', hrun, r1, r2⟩ := run_append_arg_grows (P := P) w t ty e i z 1 bytes S.ht hi hz0 hz1 hz2 S.hz S.hs b n n xs hxl (hxr' b rfl) ad 1 1 [u] rfl hcells (by omega) h63 hbytes
      exact fin v' w' hrun r1 r2
    | none =>
      obtain rfl := hA hA0
      rw [hA0] at fin
      obtain rfl : xs = [] := List.eq_nil_of_length_eq_zero (by simpa using hxl)
      obtain ⟨v', w', hrun, r1, r2, _⟩ := run_append_own (P := P) w w.heap.size t ty e i z 1 bytes S.ht hi hz0 hz1 hz2 S.hz S.hs (.slice none 0 0) 0 [] (World.ownsRow_nil w _ e 1) ad 1 1 [u] rfl hcells (by simpa using h1) h63 hbytes (Nat.le_refl _)
      exact fin v' w' hrun r1 r2

theorem step_apz {P : Program} (w : World) {ops : Array Oper} {o : Oper} {a : Act} {K : Act → World → Prop} {Q : Exit → Act → World → Prop} {E : Prop} (hgd : o.guard = none) (s x : Operand) {t : TypeId}
    (ho : o.op = .call { callee := .builtin .append, args := #[s, x], argTypes := #[t, t] })
    {e : TypeId} {z : Value} {bytes : Nat} (S : SlT P t e z 1 bytes) (base : Nat) (A0 : Option Addr) (n c0 : Nat) (xs : List Value) (hs : a.eval s = .slice A0 n c0) (hap : Ap w base e 1 (.slice A0 n c0) n xs)
    (A : Option Addr) (u : Value) (hx : a.eval x = .slice A 1 1) (hr : Rd w A [u]) (h1 : u.oneCell' = true) (h63 : n + 1 ≤ maxLen) (hbytes : (n + 1) * bytes ≤ 140737488355328) (hbase : base ≤ w.heap.size)
    (h : ∀ A' c' w', w'.ownsRow base e 1 (.slice A' (n + 1) c') (n + 1) (xs ++ [u]) → Chg (fun k => ∃ ad, A0 = some ad ∧ k = ad.block) w w' → (∀ ad, A' = some ad → (∃ ad0, A0 = some ad0 ∧ ad.block = ad0.block) ∨ w.heap.size ≤ ad.block) →
      K (a.put o.dst (.slice A' (n + 1) c')) w') :
    if Region.wanted o (yielded ops a.tmps) = true then Oper.wp P o a w K Q else E := by
  have hw : Region.wanted o (yielded ops a.tmps) = true := by simp [Region.wanted, hgd]
  rw [if_pos hw]
  obtain ⟨A', c', w', hrun, h2, h3, h4⟩ := run_apz (P := P) w S o.type base A0 n c0 xs hap A u hr h1 h63 hbytes hbase
  unfold Oper.wp execOp
  simp only [ho, resolve, invoke, builtin, Sem.run_bind, Sem.run_pure, Result.andThen_ok, List.map_toArray, List.map_cons, List.map_nil, hs, hx, hrun]
  exact h A' c' w' h2 h3 h4
theorem wpList_apz {P : Program} {w : World} {ops : Array Oper} {rest : List Oper} {o : Oper} {a : Act} {Q : Exit → Act → World → Prop} (hgd : o.guard = none) (s x : Operand) {t : TypeId}
    (ho : o.op = .call { callee := .builtin .append, args := #[s, x], argTypes := #[t, t] })
    {e : TypeId} {z : Value} {bytes : Nat} (S : SlT P t e z 1 bytes) (base : Nat) (A0 : Option Addr) (n c0 : Nat) (xs : List Value) (hs : a.eval s = .slice A0 n c0) (hap : Ap w base e 1 (.slice A0 n c0) n xs)
    (A : Option Addr) (u : Value) (hx : a.eval x = .slice A 1 1) (hr : Rd w A [u]) (h1 : u.oneCell' = true) (h63 : n + 1 ≤ maxLen) (hbytes : (n + 1) * bytes ≤ 140737488355328) (hbase : base ≤ w.heap.size)
    (h : ∀ A' c' w', w'.ownsRow base e 1 (.slice A' (n + 1) c') (n + 1) (xs ++ [u]) → Chg (fun k => ∃ ad, A0 = some ad ∧ k = ad.block) w w' → (∀ ad, A' = some ad → (∃ ad0, A0 = some ad0 ∧ ad.block = ad0.block) ∨ w.heap.size ≤ ad.block) →
      wpList P ops Q rest (a.put o.dst (.slice A' (n + 1) c')) w') : wpList P ops Q (o :: rest) a w := by
  refine wpList_plain hgd fun K hK => ?_
  obtain ⟨A', c', w', hrun, h2, h3, h4⟩ := run_apz (P := P) w S o.type base A0 n c0 xs hap A u hr h1 h63 hbytes hbase
  unfold Oper.wp execOp
  simp only [ho, resolve, invoke, builtin, Sem.run_bind, Sem.run_pure, Result.andThen_ok, List.map_toArray, List.map_cons, List.map_nil, hs, hx, hrun]
  exact hK _ _ (h A' c' w' h2 h3 h4)

def ints (p : List Int) : List Value := p.map (Value.int .i64)
theorem ints_length (l : List Int) : (ints l).length = l.length := by simp [ints]
theorem ints_one (l : List Int) : ∀ v ∈ ints l, v.oneCell' = true := by
  intro v hv
  obtain ⟨x, _, rfl⟩ := List.mem_map.1 hv
  rfl
theorem own_has {w : World} {base : Nat} {e : TypeId} {size n c : Nat} {A : Option Addr} {xs : List Value} (h : w.ownsRow base e size (.slice A n c) n xs) : ∀ ad, A = some ad → Has w ad.block e := by
  intro ad e'
  rcases h.2 with ⟨h0, _⟩ | ⟨g, cap, cur, h0, hg1, hg2, _⟩
  · injection h0 with h0 _ _; rw [e'] at h0; cases h0
  · injection h0 with h0 _ _
    rw [e'] at h0
    injection h0 with h0
    subst h0
    exact ⟨_, _, hg2⟩
/-- an owned row's front -/
theorem own_take {w : World} {base : Nat} {e : TypeId} {n c m : Nat} {A : Option Addr} {xs : List Value} (h : w.ownsRow base e 1 (.slice A n c) n xs) (hm : m ≤ n) : w.ownsRow base e 1 (.slice A m c) m (xs.take m) := by
  obtain ⟨h1, h2⟩ := h
  refine ⟨by rw [List.length_take, h1]; simp; omega, ?_⟩
  rcases h2 with ⟨h0, hn⟩ | ⟨g, cap, cur, h0, hg1, hg2, hg3, hg4, hg5, hg6⟩
  · injection h0 with e1 e2 e3
    subst e1 e3
    have : m = 0 := by omega
    subst this
    exact .inl ⟨rfl, rfl⟩
  · injection h0 with e1 e2 e3
    subst e1 e3
    refine .inr ⟨g, c, cur, rfl, hg1, hg2, by omega, hg4, hg5, ?_⟩
    rw [← hg6, List.take_take]
    congr 1
    omega
end Go.Proofs.YthhpcilinkebeaaDoor
