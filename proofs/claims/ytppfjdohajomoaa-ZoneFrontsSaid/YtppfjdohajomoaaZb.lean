/- Zone: appending to a row of pages. -/
import Derived.Test.YtppfjdohajomoaaZa
import Derived.Test.YtppfjdohajomoaaWb
namespace Go.Proofs.Ytppfjdohajomoaa
open Go.RowKit
set_option maxHeartbeats 2000000
set_option maxRecDepth 100000

/-- append of one element onto a row of a zone's pages: the new row lies in the old block or in a new one; nothing else has turned -/
theorem run_apz {P : Program} (w : World) {t e : TypeId} {z : Value} {bytes : Nat} (S : SlT P t e z 1 bytes) (ty : TypeId) (base : Nat) (A0 : Option Addr) (n c0 : Nat) (xs : List Value) (hap : Ap w base e 1 (.slice A0 n c0) n xs)
    (A : Option Addr) (u : Value) (hr : Rd w A [u]) (h1 : u.oneCell' = true) (h63 : n + 1 ≤ maxLen) (hbytes : (n + 1) * bytes ≤ 140737488355328) (hbase : base ≤ w.heap.size) :
    ∃ A' c' w', (Builtin.append_ #[t, t] ty #[.slice A0 n c0, .slice A 1 1]).run P w = .ok (.slice A' (n + 1) c') w' ∧ w'.ownsRow base e 1 (.slice A' (n + 1) c') (n + 1) (xs ++ [u]) ∧
      Chg (fun k => ∃ ad, A0 = some ad ∧ k = ad.block) w w' ∧ (∀ ad, A' = some ad → (∃ ad0, A0 = some ad0 ∧ ad.block = ad0.block) ∨ w.heap.size ≤ ad.block) := by
  rcases hap with hown | ⟨A1, hv, hA, hxl, hxr⟩
  · obtain ⟨A', c', w', hrun, h2, h3⟩ := run_app (P := P) w S ty base (.slice A0 n c0) n xs hown A 1 1 [u] rfl hr (by simpa using h1) h63 hbytes hbase
    refine ⟨A', c', w', hrun, h2, ⟨h3.grown.os, h3.grown.tape, h3.grown.output, h3.grown.size, fun k hk hn => h3.grown.block k hk fun e' => ?_⟩, fun ad e' => ?_⟩
    · cases hA0 : A0 with
      | none => rw [hA0] at e'; simp [Value.ownBlock] at e'
      | some ad => rw [hA0] at e'; simp [Value.ownBlock] at e'; exact hn ⟨ad, hA0, e'⟩
    · rcases h3.loc ad.block (by rw [e']; rfl) with h4 | h4
      · cases hA0 : A0 with
        | none => rw [hA0] at h4; simp [Value.ownBlock] at h4
        | some ad0 => rw [hA0] at h4; simp [Value.ownBlock] at h4; exact .inl ⟨ad0, rfl, h4.symm⟩
      · exact .inr h4
  · injection hv with e1 _ e2
    subst e1
    have e2' := e2.symm
    subst e2'
    obtain ⟨i, hi, hz0, hz1, hz2⟩ := info_parts S.hi
    obtain ⟨ad, rfl, _, hcells⟩ := hr (by simp)
    have hxr' : ∀ b, A0 = some b → ∀ j u, xs[j]? = some u → w.cell? (b.add j) = some u := by
      intro b hb j u hu
      obtain ⟨ad', h', _, hc⟩ := hxr (by intro e0; subst e0; simp at hu)
      rw [hb] at h'; injection h' with h'; subst h'
      exact hc j u hu
    have fin : ∀ v' w', (Builtin.append_ #[t, t] ty #[.slice A0 n n, .slice (some ad) 1 1]).run P w = .ok v' w' → w'.ownsRow w.heap.size e 1 v' (n + 1) (xs ++ [u]) → w.grownBy w' none →
        ∃ A' c' w', (Builtin.append_ #[t, t] ty #[.slice A0 n n, .slice (some ad) 1 1]).run P w = .ok (.slice A' (n + 1) c') w' ∧ w'.ownsRow base e 1 (.slice A' (n + 1) c') (n + 1) (xs ++ [u]) ∧
          Chg (fun k => ∃ ad, A0 = some ad ∧ k = ad.block) w w' ∧ (∀ ad, A' = some ad → (∃ ad0, A0 = some ad0 ∧ ad.block = ad0.block) ∨ w.heap.size ≤ ad.block) := by
      intro v' w' hrun hown hg
      obtain ⟨A', c', rfl, _, _, hA', _⟩ := own_slice hown
      exact ⟨A', c', w', hrun, own_mono hown hbase, ⟨hg.os, hg.tape, hg.output, hg.size, fun k hk _ => hg.block k hk (by simp)⟩, fun ad e' => .inr (hA' ad e').1⟩
    cases hA0 : A0 with
    | some b =>
      rw [hA0] at fin hxr'
      obtain ⟨v', w', hrun, r1, r2⟩ := run_append_arg_grows (P := P) w t ty e i z 1 bytes S.ht hi hz0 hz1 hz2 S.hz S.hs b n n xs hxl (hxr' b rfl) ad 1 1 [u] rfl hcells (by omega) h63 hbytes
      exact fin v' w' hrun r1 r2
    | none =>
      obtain rfl := hA hA0
      rw [hA0] at fin
      obtain rfl : xs = [] := List.eq_nil_of_length_eq_zero (by simpa using hxl)
      obtain ⟨v', w', hrun, r1, r2, _⟩ := run_append_own (P := P) w w.heap.size t ty e i z 1 bytes S.ht hi hz0 hz1 hz2 S.hz S.hs (.slice none 0 0) 0 [] (World.ownsRow_nil w _ e 1) ad 1 1 [u] rfl hcells (by simpa using h1) h63 hbytes (Nat.le_refl _)
      exact fin v' w' hrun r1 r2

theorem step_apz {P : Program} (w : World) {ops : Array Oper} {o : Oper} {a : Act} {K : Act → World → Prop} {Q : Exit → Act → World → Prop} {E : Prop} (hgd : o.guard = none) (s x : Operand) {t : TypeId}
    (ho : o.op = .call { callee := .builtin .append, args := #[s, x], argTypes := #[t, t] })
    {e : TypeId} {z : Value} {bytes : Nat} (S : SlT P t e z 1 bytes) (base : Nat) (A0 : Option Addr) (n c0 : Nat) (xs : List Value) (hs : a.eval s = .slice A0 n c0) (hap : Ap w base e 1 (.slice A0 n c0) n xs)
    (A : Option Addr) (u : Value) (hx : a.eval x = .slice A 1 1) (hr : Rd w A [u]) (h1 : u.oneCell' = true) (h63 : n + 1 ≤ maxLen) (hbytes : (n + 1) * bytes ≤ 140737488355328) (hbase : base ≤ w.heap.size)
    (h : ∀ A' c' w', w'.ownsRow base e 1 (.slice A' (n + 1) c') (n + 1) (xs ++ [u]) → Chg (fun k => ∃ ad, A0 = some ad ∧ k = ad.block) w w' → (∀ ad, A' = some ad → (∃ ad0, A0 = some ad0 ∧ ad.block = ad0.block) ∨ w.heap.size ≤ ad.block) →
      K (a.put o.dst (.slice A' (n + 1) c')) w') :
    if Region.wanted o (yielded ops a.tmps) = true then Oper.wp P o a w K Q else E := by
  have hw : Region.wanted o (yielded ops a.tmps) = true := by simp [Region.wanted, hgd]
  rw [if_pos hw]
  obtain ⟨A', c', w', hrun, h2, h3, h4⟩ := run_apz (P := P) w S o.type base A0 n c0 xs hap A u hr h1 h63 hbytes hbase
  unfold Oper.wp execOp
  simp only [ho, resolve, invoke, builtin, Sem.run_bind, Sem.run_pure, Result.andThen_ok, List.map_toArray, List.map_cons, List.map_nil, hs, hx, hrun]
  exact h A' c' w' h2 h3 h4
end Go.Proofs.Ytppfjdohajomoaa
