/- Append of zeros, make with a length and a capacity, copy onto a row of the call's own. -/
import Derived.Test.YthhpcilinkebeaaDoorWb
import Derived.Lib.AppendZerosOnto
import Derived.Laws.CopyOwn
namespace Go.Proofs.YthhpcilinkebeaaDoor
open Go.RowKit

theorem run_append_room_zeros {P : Program} (w : World) (t tn ty e : TypeId) (i : TypeInfo) (z : Value) (kq kn : IntKind) (ht : P.underlying t = some (.slice e)) (htn : P.underlying tn = some (.int kn)) (hi : P.info? e = some i) (hz : i.zero = some z)
    (g sLen sCap : Nat) (cur : Array Value) (hg : w.heap[g]? = some (.cells cur e (0, 0))) (k : Nat) (h0 : 0 < k) (hs : 0 < i.size) (hzs : z.cells.size = i.size) (h1 : ∀ u ∈ (Builtin.zeroCells z.cells k).toList, u.oneCell' = true)
    (hroom : sLen + k ≤ sCap) (hfit : (sLen + k) * i.size ≤ cur.size) (h63 : (k : Int) ≤ 9223372036854775807) (h48 : k * i.bytes ≤ 281474976710656) :
    (Builtin.append_ #[t, tn] ty #[.slice (some ⟨g, 0, none⟩) sLen sCap, .int kq k]).run P w =
      .ok (.slice (some ⟨g, 0, none⟩) (sLen + k) sCap) (w.setRow g (cur.toList.take (sLen * i.size) ++ (Builtin.zeroCells z.cells k).toList ++ cur.toList.drop (sLen * i.size + (Builtin.zeroCells z.cells k).toList.length)).toArray) := by
  have hlen : (Builtin.zeroCells z.cells k).toList.length = k * i.size := by rw [Array.length_toList, size_zeroCells, hzs]
  have hst := run_storeCells_at P g (sLen * i.size) e (Builtin.zeroCells z.cells k).toList 0 cur w hg (by rw [hlen, Nat.add_zero, ← Nat.add_mul]; exact hfit) h1
  simp only [Nat.add_zero] at hst
  have hk : k ≠ 0 := by omega
  have hw : IntKind.i64.wrap (k : Int) = k := by rw [IntKind.wrap_i64]; omega
  have hneg : ¬ ((k : Int) < 0) := by omega
  have h48i : ¬ (281474976710656 < (k : Int) * (i.bytes : Int)) := by
    rw [← Int.natCast_mul]
    omega
  have hns : ¬ (k * i.size = 0) := Nat.mul_ne_zero hk (by omega)
  simp [Builtin.append_, run_underlying ht, run_underlying htn, sizeOf, typeInfo, zeroValue, hi, hz, asInt, asIntOf, hw, hneg, hns, h48i, hroom, Addr.add_lit, hst]

theorem run_append_zero_zeros {P : Program} (w : World) (t tn ty e : TypeId) (i : TypeInfo) (kq kn : IntKind) (ht : P.underlying t = some (.slice e)) (htn : P.underlying tn = some (.int kn)) (hi : P.info? e = some i)
    (base : Option Addr) (sLen sCap : Nat) (hroom : sLen ≤ sCap) :
    (Builtin.append_ #[t, tn] ty #[.slice base sLen sCap, .int kq 0]).run P w = .ok (.slice base sLen sCap) w := by
  have hw : IntKind.i64.wrap 0 = 0 := rfl
  cases base <;> simp [Builtin.append_, run_underlying ht, run_underlying htn, sizeOf, typeInfo, hi, asInt, asIntOf, hw, hroom, storeCells]

theorem toList_zeroCells_one (z : Value) (k : Nat) : (Builtin.zeroCells #[z] k).toList = List.replicate k z := by
  apply List.ext_getElem
  · simp [Builtin.zeroCells]
  · intro n h1 h2
    simp [Builtin.zeroCells, Nat.mod_one]

/-- append(v, make([]T, k)...) onto an owned row of elements of one cell -/
theorem run_appz {P : Program} (w : World) {t e : TypeId} {z : Value} {bytes : Nat} (S : SlT P t e z 1 bytes) (hz1 : z.cells = #[z]) (hzo : z.oneCell' = true) (tn ty : TypeId) (kn kq : IntKind) (htn : P.underlying tn = some (.int kn)) (base : Nat)
    (v : Value) (n : Nat) (xs : List Value) (hown : w.ownsRow base e 1 v n xs) (k : Nat) (h63 : n + k ≤ maxLen) (hbytes : (n + k) * bytes ≤ 140737488355328) (hbase : base ≤ w.heap.size) :
    ∃ A' c' w', (Builtin.append_ #[t, tn] ty #[v, .int kq (k : Int)]).run P w = .ok (.slice A' (n + k) c') w' ∧ w'.ownsRow base e 1 (.slice A' (n + k) c') (n + k) (xs ++ List.replicate k z) ∧ Grew w w' v (.slice A' (n + k) c') := by
  obtain ⟨i, hi, hz0, hs1, hb1⟩ := info_parts S.hi
  have h63' : ((n + k : Nat) : Int) ≤ 9223372036854775807 := by unfold maxLen at h63; omega
  have hkb : k * i.bytes ≤ 281474976710656 := by rw [hb1]; exact Nat.le_trans (Nat.le_trans (Nat.mul_le_mul_right _ (by omega)) hbytes) (by decide)
  have hzc : (Builtin.zeroCells z.cells k).toList = List.replicate k z := by rw [hz1, toList_zeroCells_one]
  have hlen : (xs ++ List.replicate k z).length = (n + k) * 1 := by rw [List.length_append, hown.1, List.length_replicate]; omega
  rcases Nat.eq_zero_or_pos k with h0 | h0
  · subst h0
    obtain ⟨A, c, rfl, hnc, _⟩ := own_slice hown
    refine ⟨A, c, w, ?_, by simpa using hown, Grew.refl _ _⟩
    exact run_append_zero_zeros w t tn ty e i kq kn S.ht htn hi A n c hnc
  · have fin : ∀ (olds : List Value) (cap : Nat) (v : Value), olds = xs → v.ownBlock = v.ownBlock → n + k ≤ grownCap w (n + k) cap e → grownCap w (n + k) cap e ≤ maxLen →
        (w.drew.alloc (.cells (olds.toArray ++ Builtin.zeroCells z.cells k ++ Builtin.zeroCells z.cells (grownCap w (n + k) cap e - (n + k))) e)).ownsRow base e 1 (.slice (some ⟨w.heap.size, 0, none⟩) (n + k) (grownCap w (n + k) cap e)) (n + k) (xs ++ List.replicate k z) ∧
        Grew w (w.drew.alloc (.cells (olds.toArray ++ Builtin.zeroCells z.cells k ++ Builtin.zeroCells z.cells (grownCap w (n + k) cap e - (n + k))) e)) v (.slice (some ⟨w.heap.size, 0, none⟩) (n + k) (grownCap w (n + k) cap e)) := by
      intro olds cap v ho _ hge hcm
      subst ho
      refine ⟨⟨hlen, .inr ⟨w.heap.size, _, _, rfl, hbase, heap_alloc_new w.drew _, hge, hcm, ?_, ?_⟩⟩, ⟨⟨rfl, rfl, rfl, by simp, fun j hj _ => Below.heap_alloc w.drew _ j hj⟩, fun g hg => ?_⟩⟩
      · have := hown.1
        simp only [Array.size_append, List.size_toArray, size_zeroCells, hz1, List.size_toArray, List.length_cons, List.length_nil]
        omega
      · simp only [Array.toList_append, hzc, List.append_assoc]
        rw [← List.append_assoc, ← hlen]
        exact List.take_left
      · have : w.heap.size = g := by simpa [Value.ownBlock] using hg
        exact .inr (by omega)
    rcases hown.2 with ⟨rfl, rfl⟩ | ⟨g, cap, cur, rfl, hbg, hg, hnc, hcm, hcs, htake⟩
    · have hx : xs = [] := List.eq_nil_of_length_eq_zero (by simpa using hown.1)
      have hr := Lib.run_append_nil_zeros (P := P) w t tn ty e i z kq kn S.ht htn hi hz0 k h0 (by omega) (by omega) hkb
      have hf := fin [] 0 (.slice none 0 0) hx.symm rfl (grownCap_ge _ _ _ _) (grownCap_le_maxLen _ _ _ _ h63)
      refine ⟨_, _, _, ?_, hf.1, hf.2⟩
      rw [hr]
      simp
    · by_cases hroom : n + k ≤ cap
      · have hr := run_append_room_zeros (P := P) w t tn ty e i z kq kn S.ht htn hi hz0 g n cap cur hg k h0 (by omega) (by rw [hz1, hs1]; rfl) (by rw [hzc]; intro u hu; rw [List.eq_of_mem_replicate hu]; exact hzo) hroom (by rw [hs1, hcs]; omega) (by omega) hkb
        refine ⟨_, _, _, hr, ⟨hlen, .inr ⟨g, cap, _, rfl, hbg, setRow_heap w g cur _ e _ hg, hroom, hcm, ?_, ?_⟩⟩, ⟨⟨rfl, rfl, rfl, by simp, fun j _ hj => setRow_other w g j _ (fun e' => hj (by simp [Value.ownBlock, e']))⟩, fun g' hg' => .inl hg'⟩⟩
        · simp only [List.size_toArray, List.length_append, List.length_take, List.length_drop, Array.length_toList, hzc, List.length_replicate, hs1]
          omega
        · rw [hzc, hs1, htake, ← hlen]
          exact List.take_left
      · have holds : ∀ j u, xs[j]? = some u → w.cell? ((⟨g, 0, none⟩ : Addr).add j) = some u := hown.cells (g := g) rfl
        have hfc := run_firstCells_some (P := P) w.drew i.size n ⟨g, 0, none⟩ n cap xs (by rw [hs1]; exact hown.1) holds
        have hr := Lib.run_append_grow_zeros (P := P) w t tn ty e i z kq kn S.ht htn hi hz0 (some ⟨g, 0, none⟩) n cap xs hfc k h0 (by omega) (by omega) h63' hkb (by rw [hb1]; exact growslice_fits (by omega) hbytes)
        have hf := fin xs cap (.slice (some ⟨g, 0, none⟩) n cap) rfl rfl (grownCap_ge _ _ _ _) (grownCap_le_maxLen _ _ _ _ h63)
        exact ⟨_, _, _, hr, hf.1, hf.2⟩

theorem wpList_appz {P : Program} (w : World) {ops : Array Oper} {rest : List Oper} {o : Oper} {a : Act} {Q : Exit → Act → World → Prop} (hgd : o.guard = none) (s x : Operand) {t tn : TypeId}
    (ho : o.op = .call { callee := .builtin .append, args := #[s, x], argTypes := #[t, tn] })
    {e : TypeId} {z : Value} {bytes : Nat} (S : SlT P t e z 1 bytes) (hz1 : z.cells = #[z]) (hzo : z.oneCell' = true) (kn kq : IntKind) (htn : P.underlying tn = some (.int kn)) (base : Nat)
    (v : Value) (n : Nat) (xs : List Value) (hs : a.eval s = v) (hown : w.ownsRow base e 1 v n xs) (k : Nat) (hx : a.eval x = .int kq (k : Int)) (h63 : n + k ≤ maxLen) (hbytes : (n + k) * bytes ≤ 140737488355328) (hbase : base ≤ w.heap.size)
    (h : ∀ A' c' w', w'.ownsRow base e 1 (.slice A' (n + k) c') (n + k) (xs ++ List.replicate k z) → Grew w w' v (.slice A' (n + k) c') → wpList P ops Q rest (a.put o.dst (.slice A' (n + k) c')) w') : wpList P ops Q (o :: rest) a w := by
  refine wpList_plain hgd fun K hK => ?_
  obtain ⟨A', c', w', hrun, h2, h3⟩ := run_appz (P := P) w S hz1 hzo tn o.type kn kq htn base v n xs hown k h63 hbytes hbase
  unfold Oper.wp execOp
  simp only [ho, resolve, invoke, builtin, Sem.run_bind, Sem.run_pure, Result.andThen_ok, List.map_toArray, List.map_cons, List.map_nil, hs, hx, hrun]
  exact hK _ _ (h A' c' w' h2 h3)

/-- make([]T, n, c), elements of one cell, as an equation for every world -/
theorem run_mk {P : Program} {t e : TypeId} {z : Value} {bytes : Nat} (S : SlT P t e z 1 bytes) (hz1 : z.cells = #[z]) (kl kc : IntKind) (n c : Nat) (hnc : n ≤ c) (hb : bytes * c ≤ 281474976710656) (h63 : c ≤ 9223372036854775807) (w : World) :
    (Instr.makeSlice t (.int kl (n : Int)) (.int kc (c : Int))).run P w = .ok (.slice (some ⟨w.heap.size, 0, none⟩) n c) (w.alloc (.cells (List.replicate c z).toArray e)) := by
  obtain ⟨i, hi, hz0, hs1, hb1⟩ := info_parts S.hi
  have hr := run_make (P := P) w t e i z S.ht hi hz0 kl kc n c (by omega) (by omega) (by rw [hb1, ← Int.natCast_mul]; omega) (by omega)
  simp only [Int.toNat_natCast, hs1, Nat.mul_one] at hr
  rw [hr]
  congr 4
  apply Array.ext'
  rw [hz1, toList_madeCells_one]
theorem own_mk {w : World} (e : TypeId) (z : Value) (n c : Nat) (hnc : n ≤ c) (h63 : c ≤ maxLen) : (w.alloc (.cells (List.replicate c z).toArray e)).ownsRow w.heap.size e 1 (.slice (some ⟨w.heap.size, 0, none⟩) n c) n (List.replicate n z) :=
  ⟨by simp, .inr ⟨_, _, _, rfl, Nat.le_refl _, heap_alloc_new w _, hnc, h63, by simp, by simp [List.take_replicate]; omega⟩⟩

/-- copy(v, src) onto an owned row of elements of one cell, src no longer than v -/
theorem wpList_copyv {P : Program} {w : World} {ops : Array Oper} {rest : List Oper} {o : Oper} {a : Act} {Q : Exit → Act → World → Prop} (hgd : o.guard = none) (d s : Operand) {t : TypeId}
    (ho : o.op = .call { callee := .builtin .copy, args := #[d, s], argTypes := #[t, t] }) {e : TypeId} {z : Value} {bytes : Nat} (S : SlT P t e z 1 bytes)
    (base : Nat) (A : Option Addr) (n c : Nat) (xs : List Value) (hd : a.eval d = .slice A n c) (hown : w.ownsRow base e 1 (.slice A n c) n xs)
    (B : Option Addr) (m k : Nat) (cs : List Value) (hs : a.eval s = .slice B m k) (hl : cs.length = m) (hr : Rd w B cs) (h1 : ∀ u ∈ cs, u.oneCell' = true) (hm : m ≤ n) (hm0 : 0 < m)
    (h : ∀ w', w'.ownsRow base e 1 (.slice A n c) n (cs ++ xs.drop m) → Grew w w' (.slice A n c) (.slice A n c) → wpList P ops Q rest (a.put o.dst (goInt m)) w') : wpList P ops Q (o :: rest) a w := by
  obtain ⟨i, hi, hz0, hs1, hb1⟩ := info_parts S.hi
  rcases hown.2 with ⟨_, h0⟩ | ⟨g, cap, cur, hv, hbg, hg, hnc, hcm, hcs, htake⟩
  · omega
  · injection hv with eA _ ec
    subst eA ec
    have hne : cs ≠ [] := by intro e0; subst e0; simp at hl; omega
    obtain ⟨ad, rfl, _, hcell⟩ := hr hne
    have hcur : cur.size = c := by omega
    refine wpList_copy_own hgd d s t t ho e S.ht (by rw [hi, ← hs1]; rfl) g 0 n c ad m k hd hs cur e hg cs (by rw [hl]; exact (Nat.min_eq_left hm).symm) hcell (by omega) h1 ?_
    rw [hl]
    refine h _ ⟨?_, .inr ⟨g, c, _, rfl, hbg, setRow_heap w g cur _ e _ hg, hnc, hcm, ?_, ?_⟩⟩ ⟨⟨rfl, rfl, rfl, by simp, fun j _ hj => setRow_other w g j _ (fun e' => hj (by simp [Value.ownBlock, e']))⟩, fun g' hg' => .inl hg'⟩
    · rw [List.length_append, List.length_drop, hl, hown.1]; omega
    · simp [hl]; omega
    · simp only [List.take_zero, List.nil_append, Nat.zero_add, Nat.mul_one] at htake ⊢
      rw [← htake, List.drop_take, List.take_append, List.take_of_length_le (by omega), hl]
end Go.Proofs.YthhpcilinkebeaaDoor
