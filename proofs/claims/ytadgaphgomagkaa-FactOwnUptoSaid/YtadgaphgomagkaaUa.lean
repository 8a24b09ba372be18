/- FactOwn: bytes and values are not shared; sequences may be left, and ranged over again: the walk. -/
import Derived.Test.YtadgaphgomagkaaUb
namespace Go.Proofs.Ytadgaphgomagkaa
open Go.RowKit Go.Shelf
attribute [local go_sem] Oper.semAt_some
set_option maxHeartbeats 8000000
set_option maxRecDepth 100000

theorem results_bool {fn : Func} {p : Tmp} (h : fn.results = #[.cell p 4]) (tmps : Array Value) (w : World) (g : Nat) (b : Bool)
    (hp : tmps.getD p undef = .pointer (some ⟨g, 0, none⟩)) (hg : w.cell? ⟨g, 0, none⟩ = some (.bool b)) :
    (results fn tmps).run Try.prog w = .ok (.bool b) w := by
  have hp' : tmps[p]?.getD undef = .pointer (some ⟨g, 0, none⟩) := by simpa using hp
  simp [results, h, hp', go_sem, hg]
theorem own_setF {w : World} {base : Nat} {e : TypeId} {n c : Nat} {A : Option Addr} {xs : List Value} (h : w.ownsRow base e 1 (.slice A n c) n xs) (i : Nat) (hi : i < n) :
    ∃ g, A = some ⟨g, 0, none⟩ ∧ base ≤ g ∧ g < w.heap.size ∧ w.cell? ⟨g, i, none⟩ = xs[i]? ∧ w.frozen? ⟨g, i, none⟩ = false ∧ ∀ v : Value, (w.setCell ⟨g, i, none⟩ v).ownsRow base e 1 (.slice A n c) n (xs.set i v) := by
  obtain ⟨h1, h2⟩ := h
  rcases h2 with ⟨h0, hn⟩ | ⟨g, cap, cur, h0, hg1, hg2, hg3, hg4, hg5, hg6⟩
  · omega
  · injection h0 with e1 e2 e3
    subst e1 e3
    have hb : Blk w g e cur := hg2
    have hcur : i < cur.size := by omega
    refine ⟨g, rfl, hg1, hb.lt, ?_, hb.frozen i, fun v => ⟨by rw [List.length_set]; exact h1, .inr ⟨g, c, cur.setIfInBounds i v, rfl, hg1, hb.set i v, hg3, hg4, by simpa using hg5, ?_⟩⟩⟩
    · rw [hb.cell, ← hg6, List.getElem?_take, if_pos (by omega)]
      simp
    · rw [← hg6]
      simp only [Array.toList_setIfInBounds, List.take_set]
/-- bytes, whatever they are -/
def U8s (xs : List Value) : Prop := ∀ u ∈ xs, ∃ z : Int, u = .int .u8 z
theorem U8s.byts (l : List UInt8) : U8s (byts l) := fun u hu => by
  obtain ⟨b, _, rfl⟩ := List.mem_map.1 hu
  exact ⟨_, rfl⟩
theorem U8s.set {xs : List Value} (h : U8s xs) (i : Nat) (z : Int) : U8s (xs.set i (.int .u8 z)) := fun u hu => by
  rcases List.mem_or_eq_of_mem_set hu with h1 | h1
  · exact h u h1
  · exact ⟨z, h1⟩
/-- what Get hands on, found or not -/
theorem get_own (g : Nat) (A : Option Addr) (c : Nat) (l : List FM) (key : ByteArray) (w : World) (h : TblAt w g A l c) (hok : ∀ f ∈ l, f.ok w) (hl : l.length ≤ 1048576) :
    Calls Try.prog 38 #[.pointer (some ⟨g, 0, none⟩), .string key] w fun e w' => ∃ (k : ByteArray) (s : Nat) (A' : Option Addr) (c' : Nat) (v : List UInt8) (b : Bool),
      e = .returned (.tuple #[.agg #[.string k, .int .u64 (s : Nat), .slice A' v.length c'], .bool b]) ∧ v.length ≤ 1048576 ∧ w'.ownsRow w.heap.size 5 1 (.slice A' v.length c') v.length (byts v) ∧ Below w.heap.size w w' := by
  refine (get_any g A c l key w h hok hl).mono ?_
  rintro e w' ⟨hb, hm⟩
  cases hg : getF l key with
  | none =>
    rw [hg] at hm
    exact ⟨⟨#[]⟩, 0, none, 0, [], false, hm, by simp, World.ownsRow_nil _ _ _ _, hb⟩
  | some f =>
    rw [hg] at hm
    obtain ⟨A', c', he, ho⟩ := hm
    refine ⟨f.k, f.s, A', c', f.l, true, he, ?_, ho, hb⟩
    unfold getF at hg
    split at hg
    · rename_i f2 hf2
      split at hg
      · injection hg with hg
        subst hg
        exact (hok _ (List.mem_of_getElem? hf2)).few
      · cases hg
    · cases hg
/-- the three boxes of FactOwn -/
structure Bx3 (gB : Nat) (A : Option Addr) (n c : Nat) (stop : Int) (w0 W : World) : Prop where
  b0 : Blk W gB 56 #[.slice A n c]
  b1 : Blk W (gB + 1) 3 #[.int .i64 stop]
  b2 : Blk W (gB + 1 + 1) 4 #[.bool false]
  bel : Below gB w0 W
  siz : gB + 1 + 1 + 1 ≤ W.heap.size
theorem Bx3.below {gB : Nat} {A : Option Addr} {n c : Nat} {stop : Int} {w0 W W' : World} (h : Bx3 gB A n c stop w0 W) (hb : Below W.heap.size W W') : Bx3 gB A n c stop w0 W' :=
  ⟨h.b0.below' hb, h.b1.below' hb, h.b2.below' hb, h.bel.trans (hb.mono (by have := h.siz; omega)), Nat.le_trans h.siz hb.size⟩
theorem Bx3.end_ {gB : Nat} {A : Option Addr} {n c : Nat} {stop : Int} {w0 W : World} (h : Bx3 gB A n c stop w0 W) (b : Bool) (hg : gB = w0.heap.size) :
    (W.setCell ⟨gB + 1 + 1, 0, none⟩ (.bool b)).cell? ⟨gB + 1 + 1, 0, none⟩ = some (.bool b) ∧ Below w0.heap.size w0 (W.setCell ⟨gB + 1 + 1, 0, none⟩ (.bool b)) := by
  refine ⟨(h.b2.set 0 _).cell 0, ?_⟩
  rw [← hg]
  exact h.bel.trans (Below.setCell (Below.refl gB W) (p := ⟨gB + 1 + 1, 0, none⟩) (by show gB ≤ gB + 1 + 1; omega) _)
theorem Bx3.but {gB g : Nat} {A : Option Addr} {n c : Nat} {stop : Int} {w0 W W' : World} (h : Bx3 gB A n c stop w0 W) (hb : But g W W') (hg : gB + 1 + 1 + 1 ≤ g) : Bx3 gB A n c stop w0 W' := by
  have hk : ∀ {k : Nat} {t : TypeId} {cs : Array Value}, k < g → Blk W k t cs → Blk W' k t cs := fun hkg hB => (hb.block _ hB.lt (by omega)).trans hB
  exact ⟨hk (by omega) h.b0, hk (by omega) h.b1, hk (by omega) h.b2,
    ⟨hb.os.trans h.bel.os, hb.tape.trans h.bel.tape, hb.output.trans h.bel.output, Nat.le_trans h.bel.size hb.size, fun k hk => (hb.block k (by have := h.siz; omega) (by omega)).trans (h.bel.block k hk)⟩, Nat.le_trans h.siz hb.size⟩
theorem Bx3.turned {gB : Nat} {A : Option Addr} {n c : Nat} {stop : Int} {w0 W W' : World} {row : Option Nat} (h : Bx3 gB A n c stop w0 W) (hg : W.grownBy W' row) (hr : ∀ r, row = some r → gB + 1 + 1 + 1 ≤ r ∧ ∃ o : Obj, W.heap[r]? = some o ∧ o.isCells = false) : Bx3 gB A n c stop w0 W' := by
  have hr2 : ∀ r, row = some r → ∃ o : Obj, W.heap[r]? = some o ∧ o.isCells = false := fun r e => (hr r e).2
  exact ⟨h.b0.turned hg hr2, h.b1.turned hg hr2, h.b2.turned hg hr2,
    h.bel.trans ⟨hg.os, hg.tape, hg.output, hg.size, fun k hk => hg.block k (by have := h.siz; omega) fun e => by have := (hr k e.symm).1; omega⟩, Nat.le_trans h.siz hg.size⟩
/-- the count of a range's rounds, in its box; else nothing below n₀ has turned -/
structure NAt (W0 : World) (n₀ g k : Nat) (W : World) : Prop where
  blk : Blk W g 3 #[.int .i64 (k : Nat)]
  exc : Exc n₀ g W0 W
  siz : n₀ ≤ W.heap.size
theorem NAt.kept {W0 : World} {n₀ g k B : Nat} {A C : World} {row : Option Nat} (h : NAt W0 n₀ g k A) (hB : n₀ ≤ B) (hg : A.grownBy C row) (hr : ∀ r, row = some r → B ≤ r ∧ ∃ o : Obj, A.heap[r]? = some o ∧ o.isCells = false) : NAt W0 n₀ g k C :=
  ⟨h.blk.turned hg fun r e => (hr r e).2, h.exc.trans (Exc.below (B := n₀) ⟨hg.os, hg.tape, hg.output, hg.size, fun q hq => hg.block q (by have := h.siz; omega) fun e => by have := (hr q e.symm).1; omega⟩ (Nat.le_refl _)), Nat.le_trans h.siz hg.size⟩
theorem NAt.below {W0 : World} {n₀ g k : Nat} {A C : World} (h : NAt W0 n₀ g k A) (hb : Below A.heap.size A C) : NAt W0 n₀ g k C :=
  ⟨h.blk.below' hb, h.exc.trans (Exc.below hb h.siz), Nat.le_trans h.siz hb.size⟩
theorem NAt.set {W0 : World} {n₀ g k : Nat} {A : World} (h : NAt W0 n₀ g k A) (j : Nat) : NAt W0 n₀ g j (A.setCell ⟨g, 0, none⟩ (.int .i64 (j : Nat))) :=
  ⟨h.blk.set 0 _, h.exc.trans (Exc.set n₀ g 0 A _), by have := h.siz; simpa using this⟩
theorem Bx3.exc {gB n₀ g : Nat} {A : Option Addr} {n c : Nat} {stop : Int} {w0 W W' : World} (h : Bx3 gB A n c stop w0 W) (hb : Exc n₀ g W W') (hg : gB + 1 + 1 + 1 ≤ g) (hn : gB + 1 + 1 + 1 ≤ n₀) : Bx3 gB A n c stop w0 W' := by
  have hk : ∀ {k : Nat} {t : TypeId} {cs : Array Value}, k < gB + 1 + 1 + 1 → Blk W k t cs → Blk W' k t cs := fun hkg hB => (hb.block _ (by omega) (by omega)).trans hB
  exact ⟨hk (by omega) h.b0, hk (by omega) h.b1, hk (by omega) h.b2,
    ⟨hb.os.trans h.bel.os, hb.tape.trans h.bel.tape, hb.output.trans h.bel.output, Nat.le_trans h.bel.size hb.size, fun k hk => (hb.block k (by omega) (by omega)).trans (h.bel.block k hk)⟩, Nat.le_trans h.siz hb.size⟩
/-- a range whose rounds may break: one end for both ways out -/
theorem wpIn_each_brk {P : Program} {α : Type} {g : Operand} {ps : Array Tmp} {assign body : Code} {Q : Exit → Act → World → Prop} {a : Act} {w : World} {gf : Nat} {lb : Array Value}
    (hg : a.eval g = .func (.func gf) #[] lb) (eg : ∀ args w, (callFunc gf args).run P w = .ok (.enter gf args) w)
    {enc : α → Value} {n₀ g₀ : Nat} {M : List α → α → World → World → Prop} {S : List α → Prop} {N : Nat} (hn₀ : n₀ ≤ w.heap.size) (hseq : EachM P gf lb enc n₀ g₀ M S N w) (hps : ps.size = 1)
    (id : Nat) (hbrk : ∀ a w, Q .normal a w → Q (.exit id) a w)
    (I Ib : List α → World → Prop) (hI : OwnFrom w.heap.size I) (hIb : OwnFrom w.heap.size Ib) (h0 : I [] w)
    (hround : ∀ (l : Nat) (pre : List α) (x : α) (W0 W : World), w.heap.size ≤ l → I pre W0 → Below W0.heap.size W0 W → M pre x W0 W → pre.length < N → (∃ r, W.heap[l]? = some (.loop r)) →
      assign.wpIn (Fence.wide.inRound l) 0 P (Exit.then (fun a₁ W2 => KeepsOthers W W2 ∧ Exc n₀ g₀ W W2 ∧ ∀ r, body.wpIn (Fence.wide.inRound l) 0 P (EachPost n₀ g₀ I (fun c p W => c = .exit id ∧ Ib p W) (pre ++ [x]) (W2.putObj l (.loop r))) a₁ (W2.putObj l (.loop r))) (fun _ _ _ => False))
        { tmps := (ps.zip #[enc x]).foldl (fun t (p, v) => t.setIfInBounds p v) a.tmps, defers := [] } W)
    (hend : ∀ (D : Nat) (W : World), w.heap.size ≤ D → ((∃ xs, S xs ∧ I xs W) ∨ (∃ pre, Ib pre W)) → W.heap[D]? = some (.deferred (some [])) → Q .normal { a with defers := { target := .collected D, args := #[] } :: a.defers } W) :
    (Code.rangeFunc g ps assign body).wpIn Fence.wide 0 P Q a w :=
  wpIn_each hg eg hn₀ hseq hps I (fun c p W => c = .exit id ∧ Ib p W) hI (fun _ _ _ _ _ hs hg hr => ⟨hs.1, hIb _ _ _ _ hs.2 hg hr⟩) h0 hround (fun D xs W hD hS hi hK => hend D W hD (.inl ⟨xs, hS, hi⟩) hK)
    (fun D c pre W hD hi hK => by obtain ⟨rfl, hi⟩ := hi; exact wpIn_exit (hbrk _ _ (hend D W hD (.inr ⟨pre, hi⟩) hK)))
theorem factOwn_any (w : World) (A : Option Addr) (c : Nat) (l : List FM) (stop : Int) (hr : Rd w A (fcells l)) (hok : ∀ f ∈ l, f.ok w) (hl : l.length ≤ 1048576) :
    Calls Try.prog 7 #[.slice A l.length c, .int .i64 stop] w fun e w' => e = .returned (.bool true) ∧ Below w.heap.size w w' := by
  refine (callsIn_wide (n := 0)).1 ?_
  refine callsIn_of_wp_marks Try.func7 rfl trivial ?_ rfl
  simp only [Try.ntmps7, List.size_toArray, List.length_cons, List.length_nil, Nat.reduceAdd, Nat.reduceSub, Array.replicate_succ, Array.replicate_zero, List.push_toArray, List.append_toArray, List.nil_append, List.cons_append]
  refine wpIn_wide.2 ?_
  have hX : Bx3 w.heap.size A l.length c stop w (((w.alloc (.cells #[.slice A l.length c] 56)).alloc (.cells #[.int .i64 stop] 3)).alloc (.cells #[.bool false] 4)) := by
    have h1 := (Blk.new (w.alloc (.cells #[.slice A l.length c] 56)) 3 #[.int .i64 stop]).alloc (.cells #[.bool false] 4)
    have h2 := Blk.new ((w.alloc (.cells #[.slice A l.length c] 56)).alloc (.cells #[.int .i64 stop] 3)) 4 #[.bool false]
    rw [World.size_alloc] at h1
    rw [World.size_alloc, World.size_alloc] at h2
    exact ⟨((Blk.new w 56 #[.slice A l.length c]).alloc (.cells #[.int .i64 stop] 3)).alloc (.cells #[.bool false] 4), h1, h2,
      (((Below.refl w.heap.size w).alloc (Nat.le_refl _) (.cells #[.slice A l.length c] 56)).alloc (by simp) (.cells #[.int .i64 stop] 3)).alloc (by rw [World.size_alloc, World.size_alloc]; omega) (.cells #[.bool false] 4), by simp⟩
  go_wp2_with fail
  generalize ((w.alloc (.cells #[.slice A l.length c] 56)).alloc (.cells #[.int .i64 stop] 3)).alloc (.cells #[.bool false] 4) = W0 at *
  obtain ⟨gB, hgB0⟩ : ∃ gB, gB = w.heap.size := ⟨_, rfl⟩
  rw [← hgB0] at hX ⊢
  have hgB := Lib.hid hgB0
  clear hgB0
  refine (known11_any W0).mono ?_
  rintro e w1 ⟨rfl, hb1⟩
  replace hX := hX.below hb1
  clear hb1
  have hr0 : ∀ W, Below gB w W → Rd W A (fcells l) := fun W h => hr.below (by rw [← hgB.out]; exact h)
  have hok0 : ∀ W, Below gB w W → ∀ f ∈ l, f.ok W := fun W h f hf => (hok f hf).below (by rw [← hgB.out]; exact h)
  clear hr hok
  have hfew := few_any A c l 100 w1 (hr0 _ hX.bel) (hok0 _ hX.bel) hl
  have hbl := fun h => buildR_le l 40 100 h (by decide)
  have hfl : fewF l 100 = true → l.length ≤ 100 := fun h => by simp only [fewF, Bool.and_eq_true, decide_eq_true_eq] at h; omega
  rw [show ((100 : Nat) : Int) = 100 from rfl] at hbl
  generalize fewF l 100 = fw at *
  have x0 : w1.cell? ⟨gB, 0, none⟩ = some (.slice A l.length c) := hX.b0.cell 0
  go_wp2_with fail
  refine hfew.mono ?_
  rintro e w2 ⟨rfl, hb2⟩
  clear hfew x0
  replace hX := hX.below hb2
  clear hb2
  have y0 : w2.cell? ⟨gB + 1 + 1, 0, none⟩ = some (.bool false) := hX.b2.cell 0
  have yf := hX.b2.frozen 0
  have x0 : w2.cell? ⟨gB, 0, none⟩ = some (.slice A l.length c) := hX.b0.cell 0
  cases fw with
  | false =>
    go_wp2_with fail
    obtain ⟨h1, h2⟩ := hX.end_ true hgB.out
    exact ⟨_, results_bool rfl _ _ _ true rfl h1, rfl, h2⟩
  | true =>
    replace hbl := hbl rfl
    replace hfl := hfl rfl
    have hri := refRight_any A c l w2 (hr0 _ hX.bel) hl
    cases hrl : rightF l with
    | false =>
      rw [hrl] at hri
      go_wp2_with fail
      refine hri.mono ?_
      rintro e w3 ⟨rfl, hb3⟩
      replace hX := hX.below hb3
      have y0 : w3.cell? ⟨gB + 1 + 1, 0, none⟩ = some (.bool false) := hX.b2.cell 0
      have yf := hX.b2.frozen 0
      go_wp2_with fail
      obtain ⟨h1, h2⟩ := hX.end_ true hgB.out
      exact ⟨_, results_bool rfl _ _ _ true rfl h1, rfl, h2⟩
    | true =>
      rw [hrl] at hri
      go_wp2_with fail
      refine hri.mono ?_
      rintro e w3 ⟨rfl, hb3⟩
      replace hX := hX.below hb3
      clear hri x0 y0 yf hb3
      have x0 : w3.cell? ⟨gB, 0, none⟩ = some (.slice A l.length c) := hX.b0.cell 0
      have hbu := fbuild_any A c l 40 w3 (hr0 _ hX.bel) (hok0 _ hX.bel) hl
      have hob := open_build l 40 (fun f hf => (hok0 _ hX.bel f hf).seq) (by omega) (by omega)
      generalize buildR l 40 = R at *
      obtain ⟨b, er⟩ := R
      simp only at hbl hob
      go_wp2_with fail
      refine hbu.mono ?_
      rintro e w4 ⟨A4, c4, rfl, ho4, hb4⟩
      replace hX := hX.below hb4
      have hm0 := hX.siz
      clear hbu x0 hb4
      simp only at ho4 ⊢
      by_cases her : er = 0
      · subst her
        replace hob := hob rfl
        have hb12 : 12 ≤ b.length := by
          rcases Nat.lt_or_ge b.length 12 with h | h
          · have h1 := congrArg Prod.fst hob
            simp [openP, h] at h1
          · exact h
        have hownE : (w4.alloc (.cells #[] 5)).ownsRow w4.heap.size 5 1 (.slice (some ⟨w4.heap.size, 0, none⟩) 0 0) 0 [] := World.ownsRow_made w4 #[] 0 (Nat.le_refl _) (by unfold maxLen; omega) rfl
        have hr4 := (Rd.of_own ho4).alloc (.cells #[] 5)
        have hL := byts_length b
        have HL := Lib.hid hL
        clear hL
        go_wp2_with (at_builtin; refine wpList_app _ rfl _ _ rfl slB w4.heap.size (.slice (some ⟨w4.heap.size, 0, none⟩) 0 0) 0 [] rfl hownE A4 b.length c4 (byts b) rfl (by rw [HL.out, Nat.mul_one]) hr4 (byts_one b) (by unfold maxLen; omega) (by omega) (by simp) ?_; intro A5 c5 w5 ho5 hg5; (replace ho5 := (show w5.ownsRow w4.heap.size 5 1 (.slice A5 b.length c5) b.length (byts b) by simpa using ho5)); (have hb5 := ((Below.refl w4.heap.size w4).alloc (Nat.le_refl _) (.cells #[] 5)).trans (hg5.toBelow (by simp) (by simp [Value.ownBlock]))); rw [Nat.zero_add])
        replace hX := hX.below hb5
        clear hb5 hownE hr4 hg5
        have hop := open_any A5 c5 b w5 (Rd.of_own ho5) (own_cap ho5).1 (by omega) fun ad h => ((own_cap ho5).2.2 ad h).2
        rw [hob] at hop
        refine hop.mono ?_
        rintro e w6 ⟨hb6, h6 | ⟨_, g, At, ct, L, rfl, hL, hBg, hg, hF⟩⟩
        · exact absurd rfl h6.1
        clear hop ho4 hob
        replace hX := hX.below hb6
        have ho6 := own_below ho5 hb6
        have hm5 : ∀ ad, A5 = some ad → ad.block < w5.heap.size := fun ad h => ((own_cap ho5).2.2 ad h).2
        have hX5 := hX.siz
        simp only at hL
        have hLl : L.length = l.length := by
          have := congrArg List.length hL
          simpa only [List.length_map] using this
        clear ho5 hb6
        go_wp2_with fail
        obtain ⟨gm, rfl, hgm4, hgm6, _⟩ := own_setF ho6 0 (by omega)
        have hgm5 : gm < w5.heap.size := hm5 _ rfl
        go_loopg [10] b.length (fun m s10 wr => ∃ (i : Nat) (xs : List Value), m = b.length - i ∧ i ≤ b.length ∧ s10 = .int .i64 (i : Nat) ∧ xs.length = b.length ∧ U8s xs ∧ wr.ownsRow w4.heap.size 5 1 (.slice (some ⟨gm, 0, none⟩) b.length c5) b.length xs ∧ But gm w6 wr)
        case atStart => exact ⟨0, byts b, by omega, by omega, rfl, HL.out, U8s.byts b, ho6, But.refl _ _⟩
        case round =>
          obtain ⟨i, xs, rfl, hi, rfl, hxl, hxs, hor, hbr⟩ := hrel
          by_cases hlt : i < b.length
          · have r1 : (i : Int) < (b.length : Int) := by omega
            obtain ⟨_, hq, _, _, hcell, hfz, hset⟩ := own_setF hor i hlt
            injection hq with hq
            injection hq with hq
            subst hq
            obtain ⟨z, hz⟩ := hxs xs[i] (List.getElem_mem (by omega))
            rw [List.getElem?_eq_getElem (by omega), hz] at hcell
            have hset2 := fun u => hset (.int .u8 u)
            have hUs := fun u => hxs.set i u
            have hbs := fun u => hbr.trans (But.set gm i wr (.int .u8 u))
            clear hset
            go_wp2_with fail
            go_roundg (b.length - (i + 1))
            case measure => omega
            case rel => exact ⟨i + 1, _, rfl, by omega, by go_num, by rw [List.length_set]; exact hxl, hUs _, hset2 _, hbs _⟩
          · obtain rfl : i = b.length := by omega
            have r1 : ¬ (b.length : Int) < (b.length : Int) := by omega
            replace hX := hX.but hbr (by omega)
            have hBw : Blk wr g 129 #[.slice At L.length ct] := (hbr.block g hBg.lt (by omega)).trans hBg
            have hFw := hF.but hbr (by omega)
            clear hor hxs hxl hbr hBg hF ho6 hm5 hgm4 hgm6 hgm5 hX5
            have hT : TblAt wr g At L ct := ⟨hBw, Rd.of_own hFw.own, (own_cap hFw.own).1⟩
            have hAt : ∀ ad, At = some ad → ad.block < wr.heap.size := fun ad h => ((own_cap hFw.own).2.2 ad h).2
            have hLok := hFw.ok
            have hLlo : ∀ f ∈ L, ∀ ad, f.A = some ad → ad.block < wr.heap.size := fun f hf ad h => (hFw.lo f hf ad h).2
            clear hFw hBw
            have x0 : wr.cell? ⟨gB, 0, none⟩ = some (.slice A l.length c) := hX.b0.cell 0
            generalize wr = w7 at *
            go_wp2_with fail
            clear x0
            go_loopg [11, 12, 13, 14] l.length (fun m s11 s12 s13 s14 wr => ∃ (i : Nat), m = l.length - i ∧ i ≤ l.length ∧ s11 = .int .i64 (i : Nat) ∧ Below w7.heap.size w7 wr)
            case atStart => exact ⟨0, by omega, by omega, rfl, Below.refl _ _⟩
            case round =>
              obtain ⟨i, rfl, hi, rfl, hb⟩ := hrel
              generalize wr = wo at *
              have hXr := hX.below hb
              have x0 : wo.cell? ⟨gB, 0, none⟩ = some (.slice A l.length c) := hXr.b0.cell 0
              by_cases hlt : i < l.length
              · have r1 : (i : Int) < (l.length : Int) := by omega
                obtain ⟨la, rfl, c0, _, _⟩ := facts_at (hr0 _ hXr.bel) i hlt
                generalize l[i].k = key at *
                have hgt := get_own g At ct L key wo ⟨hT.blk.below' hb, hT.rd.below hb, hT.cap⟩ (fun q hq => (hLok q hq).below hb) (by omega)
                go_wp2_with fail
                refine hgt.mono ?_
                rintro e w8 ⟨k8, s8, A8, c8, v8, b8, rfl, hv8, ho8, hb8⟩
                clear hgt c0
                have hBx := Blk.new w8 71 #[.string k8, .int .u64 (s8 : Nat), .slice A8 v8.length c8]
                have hx8 := (Below.refl w8.heap.size w8).alloc (Nat.le_refl _) (.cells #[.string k8, .int .u64 (s8 : Nat), .slice A8 v8.length c8] 71)
                have ho9 := own_below ho8 hx8
                have hb09 := hb.trans (hb8.trans (hx8.mono hb8.size) |>.mono hb.size)
                have hol := own_cap ho8
                have hbl8 := hb8.size
                have hbr0 := hb.size
                go_wp2_with fail
                generalize w8.alloc (.cells #[.string k8, .int .u64 (s8 : Nat), .slice A8 v8.length c8] 71) = w9 at *
                generalize hgx : w8.heap.size = gx at *
                have hgx7 : w7.heap.size ≤ gx := by omega
                have HGX := Lib.hid hgx
                clear hgx
                go_loopg [14] v8.length (fun m s14 wr => ∃ (k : Nat) (xs : List Value), m = v8.length - k ∧ k ≤ v8.length ∧ s14 = .int .i64 (k : Nat) ∧ xs.length = v8.length ∧ U8s xs ∧ wr.ownsRow wo.heap.size 5 1 (.slice A8 v8.length c8) v8.length xs ∧ Blk wr gx 71 #[.string k8, .int .u64 (s8 : Nat), .slice A8 v8.length c8] ∧ Below w7.heap.size w7 wr)
                case atStart => exact ⟨0, byts v8, by omega, by omega, rfl, byts_length _, U8s.byts _, ho9, hBx, hb09⟩
                case round =>
                  clear hBx ho9 hb09 hx8
                  obtain ⟨k, xs, rfl, hk, rfl, hxl, hxs, hoq, hBq, hbq⟩ := hrel
                  have z2 := hBq.cell 2
                  by_cases hlk : k < v8.length
                  · have r2 : (k : Int) < (v8.length : Int) := by omega
                    obtain ⟨ga, hA8, hga, hgal, hcell, hfz, hset⟩ := own_setF hoq k hlk
                    have hgag : ga < gx := (hol.2.2 _ hA8).2
                    subst hA8
                    obtain ⟨z, hz⟩ := hxs xs[k] (List.getElem_mem (by omega))
                    rw [List.getElem?_eq_getElem (by omega), hz] at hcell
                    have hset2 := fun u => hset (.int .u8 u)
                    have hUs := fun u => hxs.set k u
                    have hBs : ∀ u : Int, Blk (wr.setCell ⟨ga, k, none⟩ (.int .u8 u)) gx 71 #[.string k8, .int .u64 (s8 : Nat), .slice (some ⟨ga, 0, none⟩) v8.length c8] := fun u => by
                      exact (Below.heap_setCell wr ⟨ga, k, none⟩ _ gx (by show gx ≠ ga; omega)).trans hBq
                    have hbs : ∀ u : Int, Below w7.heap.size w7 (wr.setCell ⟨ga, k, none⟩ (.int .u8 u)) := fun u => hbq.setCell (p := ⟨ga, k, none⟩) (by show w7.heap.size ≤ ga; omega) _
                    clear hset
                    go_wp2_with fail
                    go_region
                    go_wp2_with fail
                    go_roundg (v8.length - (k + 1))
                    case measure => omega
                    case rel => exact ⟨k + 1, _, rfl, by omega, by go_num, by rw [List.length_set]; exact hxl, hUs _, hset2 _, hBs _, (hbs _).drew⟩
                  · obtain rfl : k = v8.length := by omega
                    have r2 : ¬ (v8.length : Int) < (v8.length : Int) := by omega
                    go_wp2_with fail
                    go_roundg (l.length - (i + 1))
                    case measure => omega
                    case rel => exact ⟨i + 1, rfl, by omega, by go_num, hbq⟩
              · obtain rfl : i = l.length := by omega
                have r1 : ¬ (l.length : Int) < (l.length : Int) := by omega
                have hTo : TblAt wo g At L ct := ⟨hT.blk.below' hb, hT.rd.below hb, hT.cap⟩
                have hAo : ∀ ad, At = some ad → ad.block < wo.heap.size := fun ad h => Nat.lt_of_lt_of_le (hAt ad h) hb.size
                have hLo : ∀ f ∈ L, f.ok wo := fun f hf => (hLok f hf).below hb
                have hLl2 : ∀ f ∈ L, ∀ ad, f.A = some ad → ad.block < wo.heap.size := fun f hf ad h => Nat.lt_of_lt_of_le (hLlo f hf ad h) hb.size
                clear hT hAt hLok hLlo hX hb
                have hall := all_any g At ct L wo hTo
                go_wp2_with fail
                refine hall.mono ?_
                rintro e w10 ⟨rfl, rfl⟩
                clear hall x0
                go_wp2_with fail
                have hXo := hXr
                clear hXr
                obtain ⟨gv, hgv0⟩ : ∃ gv, gv = wo.heap.size := ⟨_, rfl⟩
                have hbA := ((Below.refl wo.heap.size wo).alloc (Nat.le_refl _) (.cells #[.slice At l.length ct] 56)).alloc (by simp) (.cells #[.int .i64 0] 3)
                obtain ⟨WA, hWA⟩ : ∃ WA, (wo.alloc (.cells #[.slice At l.length ct] 56)).alloc (.cells #[.int .i64 0] 3) = WA := ⟨_, rfl⟩
                have hsA : WA.heap.size = gv + 1 + 1 := by rw [← hWA, hgv0, World.size_alloc, World.size_alloc]
                have hBv : Blk WA gv 56 #[.slice At l.length ct] := by rw [← hWA, hgv0]; exact (Blk.new wo _ _).alloc _
                have hBn : Blk WA (gv + 1) 3 #[.int .i64 0] := by
                  rw [← hWA, hgv0]
                  have := Blk.new (wo.alloc (.cells #[.slice At l.length ct] 56)) 3 #[.int .i64 0]
                  rwa [World.size_alloc] at this
                rw [hWA] at hbA ⊢
                have hXA := hXo.below hbA
                have hgB3 := hXo.siz
                rw [← hgv0] at hAo hLl2 hbA hgB3 ⊢
                have hrA : Rd WA At (fcells L) := hTo.rd.below (by rw [← hgv0]; exact hbA)
                have hLA : ∀ f ∈ L, f.ok WA := fun f hf => (hLo f hf).below (by rw [← hgv0]; exact hbA)
                have HGV := Lib.hid hgv0
                clear hgv0 hWA hTo hLo hXo hbA
                refine (wpIn_wide (n := 0)).1 ?_
                refine wpIn_each_brk (gf := 104) (lb := #[.pointer (some ⟨gv, 0, none⟩)]) rfl (enters_of Try.func104 (by kernel_rfl) rfl) (enc := FM.val) (n₀ := gv + 2) (g₀ := gv + 1) (M := FreshL _) (S := fun xs => xs.map FM.fv = L.map FM.fv)
                  (by omega) (over1_each gv (gv + 2) (gv + 1) At ct L WA (by rw [hLl]; exact hBv) hrA (fun ad e => by have := hAo ad e; omega) hLA (fun f hf ad e => by have := hLl2 f hf ad e; omega) (by omega) (by omega)) rfl 6 (fun _ _ h => h)
                  (fun pre W => NAt WA (gv + 2) (gv + 1) pre.length W) (fun _ W => ∃ k, NAt WA (gv + 2) (gv + 1) k W) (fun _ _ _ _ hs hg hr => hs.kept (by omega) hg hr) (fun _ _ _ _ hs hg hr => hs.elim fun k hk => ⟨k, hk.kept (by omega) hg hr⟩) ⟨hBn, Exc.refl _ _ _, by omega⟩ ?round ?done
                case round =>
                  rintro lr pre x W1 W hlr hI hb1 ⟨⟨hxo, hxf⟩, _⟩ hlen ⟨r0, hr0'⟩
                  have hI2 := hI.below hb1
                  gi_wp2
                  refine ⟨KeepsOthers.refl _, Exc.refl _ _ _, fun r => ?_⟩
                  have hI3 := hI2.kept (B := gv + 2) (by omega) (grownBy_putObj' W lr (.loop r)) (fun q e => by injection e with e; subst e; exact ⟨by omega, _, hr0', rfl⟩)
                  generalize W.putObj lr (.loop r) = W3 at *
                  have hX3 := hXA.exc hI3.exc (by omega) (by omega)
                  have y0 := hI3.blk.cell 0
                  have yf := hI3.blk.frozen 0
                  have y1 : W3.cell? ⟨gB + 1, 0, none⟩ = some (.int .i64 stop) := hX3.b1.cell 0
                  have hNS := hI3.set ((pre ++ [x]).length : Nat)
                  rw [show (((pre ++ [x]).length : Nat) : Int) = (pre.length : Int) + 1 by simp] at hNS
                  gi_wp2
                  · exact ⟨KeepsOthers.setCell _ _ _, rfl, _, hNS⟩
                  · exact ⟨KeepsOthers.setCell _ _ _, Exc.set _ _ 0 _ _, hNS⟩
                case done =>
                  rintro D W hD hS hK
                  obtain ⟨k, hI⟩ : ∃ k, NAt WA (gv + 2) (gv + 1) k W := by
                    rcases hS with ⟨xs, _, h⟩ | ⟨_, h⟩
                    · exact ⟨_, h⟩
                    · exact h
                  have y0 := hI.blk.cell 0
                  have yf := hI.blk.frozen 0
                  have hXD := hXA.exc hI.exc (by omega) (by omega)
                  have hgvD : gv + 1 + 1 ≤ W.heap.size := hI.siz
                  have hBvD : Blk W gv 56 #[.slice At l.length ct] := (hI.exc.block gv (by omega) (by omega)).trans hBv
                  have hrD : Rd W At (fcells L) := hrA.exc hI.exc fun ad e => by have := hAo ad e; omega
                  have hLD : ∀ f ∈ L, f.ok W := fun f hf => ⟨(hLA f hf).rd.exc hI.exc fun ad e => by have := hLl2 f hf ad e; omega, (hLA f hf).cap, (hLA f hf).few, (hLA f hf).seq, (hLA f hf).key⟩
                  have hDl : D < W.heap.size := (Array.getElem?_eq_some_iff.1 hK).1
                  clear hXA hBv hBn hrA hLA hS
                  go_wp2_with fail
                  have hbS := But.set (gv + 1) 0 W (.int .i64 0)
                  have hBn2 := hI.blk.set 0 (.int .i64 0)
                  have hX2 := hXD.but hbS (by omega)
                  have hBv2 : Blk (W.setCell ⟨gv + 1, 0, none⟩ (.int .i64 0)) gv 56 #[.slice At l.length ct] := (hbS.block gv (by omega) (by omega)).trans hBvD
                  have hr2 := hrD.but hbS fun ad e => by have := hAo ad e; omega
                  have hL2 : ∀ f ∈ L, f.ok (W.setCell ⟨gv + 1, 0, none⟩ (.int .i64 0)) := fun f hf => (hLD f hf).but hbS fun ad e => by have := hLl2 f hf ad e; omega
                  have hK2 : (W.setCell ⟨gv + 1, 0, none⟩ (.int .i64 0)).heap[D]? = some (.deferred (some [])) := (hbS.block D hDl (by omega)).trans hK
                  have hs2 : (W.setCell ⟨gv + 1, 0, none⟩ (.int .i64 0)).heap.size = W.heap.size := by simp
                  clear hXD hBvD hrD hLD hbS hK yf y0
                  generalize W.setCell ⟨gv + 1, 0, none⟩ (.int .i64 0) = W2 at *
                  clear hI
                  rw [← hs2] at hDl hgvD
                  clear hs2
                  obtain ⟨n2, hn2⟩ : ∃ n2, n2 = W2.heap.size := ⟨_, rfl⟩
                  rw [← hn2] at hDl hgvD
                  refine (wpIn_wide (n := 0)).1 ?_
                  refine wpIn_each (gf := 104) (lb := #[.pointer (some ⟨gv, 0, none⟩)]) rfl (enters_of Try.func104 (by kernel_rfl) rfl) (enc := FM.val) (n₀ := n2) (g₀ := gv + 1) (M := FreshL L) (S := fun xs => xs.map FM.fv = L.map FM.fv)
                    (by omega) (over1_each gv n2 (gv + 1) At ct L W2 (by rw [hLl]; exact hBv2) hr2 (fun ad e => by have := hAo ad e; omega) hL2 (fun f hf ad e => by have := hLl2 f hf ad e; omega) (by omega) (by omega)) rfl
                    (fun pre W => NAt W2 n2 (gv + 1) pre.length W) (fun _ _ _ => False) (fun _ _ _ _ hs hg hr => hs.kept (by omega) hg hr) (fun _ _ _ _ _ hs _ _ => hs) ⟨hBn2, Exc.refl _ _ _, by omega⟩ ?round2 ?done2 ?stop2
                  case stop2 =>
                    rintro _ _ _ _ _ h _
                    exact h.elim
                  case round2 =>
                    rintro lr pre ⟨xk, xs, xA, xc, xl⟩ W1 W hlr hI hb1 ⟨⟨hxo, hxf⟩, hxM⟩ hlen ⟨r0, hr0'⟩
                    have hI2 := hI.below hb1
                    simp only [FM.val]
                    have hbx := (Below.refl W.heap.size W).alloc (Nat.le_refl _) (.cells #[.string xk, .int .u64 (xs : Nat), .slice xA xl.length xc] 71)
                    have hsW := hI2.siz
                    gi_wp2
                    refine ⟨KeepsOthers.alloc _ _, Exc.below hbx (by omega), fun r => ?_⟩
                    have hlrs : lr < W.heap.size := (Array.getElem?_eq_some_iff.1 hr0').1
                    have hBx := Blk.new W 71 #[.string xk, .int .u64 (xs : Nat), .slice xA xl.length xc]
                    have hI3 := hI2.below hbx
                    have hx2 := hxo.below hbx
                    have hrow : ∀ q, some lr = some q → n2 ≤ q ∧ ∃ o : Obj, (W.alloc (.cells #[.string xk, .int .u64 (xs : Nat), .slice xA xl.length xc] 71)).heap[q]? = some o ∧ o.isCells = false := fun q e => by
                      injection e with e
                      subst e
                      exact ⟨by omega, _, (hbx.block _ hlrs).trans hr0', rfl⟩
                    generalize hgx : W.heap.size = gx at *
                    have HGX := Lib.hid hgx
                    clear hgx
                    generalize W.alloc (.cells #[.string xk, .int .u64 (xs : Nat), .slice xA xl.length xc] 71) = Wa at *
                    have hg3 := grownBy_putObj' Wa lr (.loop r)
                    have hI4 := hI3.kept (B := n2) (by omega) hg3 hrow
                    have hBx4 := hBx.turned hg3 fun q e => (hrow q e).2
                    have hx4 : (⟨xk, xs, xA, xc, xl⟩ : FM).ok (Wa.putObj lr (.loop r)) := ⟨hx2.rd.turned hg3 fun q e => (hrow q e).2, hx2.cap, hx2.few, hx2.seq, hx2.key⟩
                    generalize Wa.putObj lr (.loop r) = W4 at *
                    have hX4 := hX2.exc hI4.exc (by omega) (by omega)
                    have hpl : pre.length < l.length := by omega
                    have hsame : (⟨xk, xs, xA, xc, xl⟩ : FM).fv = l[pre.length].fv := by
                      have h1 : (pre ++ [(⟨xk, xs, xA, xc, xl⟩ : FM)]).map FM.fv = (l.map FM.fv).take (pre.length + 1) := by rw [hxM, List.map_take, hL]
                      have h2 := congrArg (fun z => z[pre.length]?) h1
                      simp only [List.map_append, List.map_cons, List.map_nil] at h2
                      rw [List.getElem?_append_right (by simp), List.getElem?_take, if_pos (by omega)] at h2
                      simp [hpl] at h2
                      exact h2
                    have hfo := hok0 _ hX4.bel l[pre.length] (List.getElem_mem hpl)
                    obtain ⟨la, hla, c0, c1, c2⟩ := facts_at (hr0 _ hX4.bel) pre.length hpl
                    have hrl4 := hr0 _ hX4.bel
                    obtain ⟨f, hfe2⟩ : ∃ f, l[pre.length] = f := ⟨_, rfl⟩
                    rw [hfe2] at hsame hfo c0 c1 c2
                    have y0 := hI4.blk.cell 0
                    have x0 : W4.cell? ⟨gB, 0, none⟩ = some (.slice A l.length c) := hX4.b0.cell 0
                    have z0 := hBx4.cell 0
                    have z1 := hBx4.cell 1
                    have z2 := hBx4.cell 2
                    have k1 : ¬ (l.length : Int) ≤ (pre.length : Int) := by omega
                    clear hxM hr0' hI2 hI hb1 hxo
                    subst hla
                    have hlf : l[pre.length]? = some f := by rw [List.getElem?_eq_getElem hpl, hfe2]
                    gi_wp2
                    refine regFo32 (n := l.length) (x := ⟨xk, xs, xA, xc, xl⟩) (f := f) hrl4.drew hlf hpl x0 y0 hBx4 ⟨hx4.rd, hx4.cap, hx4.few, hx4.seq, hx4.key⟩ ⟨hfo.rd, hfo.cap, hfo.few, hfo.seq, hfo.key⟩ hsame ?_
                    intro w9 _ _ _ _ _ _ _ _ _ _ _ _ hb9
                    have hI9 := hI4.below hb9
                    have y9 := hI9.blk.cell 0
                    have f9 := hI9.blk.frozen 0
                    have hNS := hI9.set ((pre ++ [(⟨xk, xs, xA, xc, xl⟩ : FM)]).length : Nat)
                    rw [show (((pre ++ [(⟨xk, xs, xA, xc, xl⟩ : FM)]).length : Nat) : Int) = (pre.length : Int) + 1 by simp] at hNS
                    clear y0 x0 z0 z1 z2 c0 c1 c2
                    gi_wp2
                    refine ⟨(KeepsOthers.of_grownBy (row := none) ⟨hb9.os, hb9.tape, hb9.output, hb9.size, fun k hk _ => hb9.block k hk⟩ (fun _ _ e _ => by cases e)).trans (KeepsOthers.setCell _ _ _), (Exc.below hb9 (by have := hI4.siz; omega)).trans (Exc.set _ _ 0 _ _), ?_⟩
                    rw [← hn2]
                    exact hNS
                  case done2 =>
                    rintro D2 xs W3 hD2 hS hI hK3
                    have hxl : xs.length = l.length := by
                      have := congrArg List.length hS
                      simp only [List.length_map] at this
                      omega
                    have y0 := hI.blk.cell 0
                    rw [hxl] at y0
                    have hX3 := hX2.exc hI.exc (by omega) (by omega)
                    have x0 : W3.cell? ⟨gB, 0, none⟩ = some (.slice A l.length c) := hX3.b0.cell 0
                    have b0 := hX3.b2.cell 0
                    have bf := hX3.b2.frozen 0
                    have hK1 : W3.heap[D]? = some (.deferred (some [])) := (hI.exc.block D (by omega) (by omega)).trans hK2
                    obtain ⟨h1, h2⟩ := hX3.end_ true hgB.out
                    have hKs := fun k (hk : k ≠ gB + 1 + 1) => Below.heap_setCell W3 ⟨gB + 1 + 1, 0, none⟩ (.bool true) k hk
                    have hX3s := hX3.siz
                    have hD2l : D2 < W3.heap.size := (Array.getElem?_eq_some_iff.1 hK3).1
                    clear hI hS hxl
                    go_wp2_with fail
                    generalize W3.setCell ⟨gB + 1 + 1, 0, none⟩ (.bool true) = W4 at *
                    refine ⟨by simp, .inl ⟨_, _, rfl, run_takeDeferred ((hKs D2 (by omega)).trans hK3), ?_⟩⟩
                    refine ⟨by simp, .inl ⟨_, _, rfl, run_takeDeferred ((World.putObj_heap_other (by omega)).trans ((hKs D (by omega)).trans hK1)), ?_⟩⟩
                    have hp : ∀ (V : World) (k : Nat), Below w.heap.size w V → V.cell? ⟨gB + 1 + 1, 0, none⟩ = some (.bool true) → gB + 1 + 1 < k → Below w.heap.size w (V.putObj k (.deferred none)) ∧ (V.putObj k (.deferred none)).cell? ⟨gB + 1 + 1, 0, none⟩ = some (.bool true) := fun V k hb hc hk => by
                      have hgw := hgB.out
                      refine ⟨hb.trans (below_putObj V _ (by omega)), ?_⟩
                      rw [World.cell?_of_block (w := V) (World.putObj_heap_other (by show gB + 1 + 1 ≠ k; omega))]
                      exact hc
                    obtain ⟨h3, h4⟩ := hp _ D2 h2 h1 (by omega)
                    obtain ⟨h5, h6⟩ := hp _ D h3 h4 (by omega)
                    exact ⟨_, results_bool rfl _ _ _ true rfl h6, rfl, h5⟩
      · have k1 : ((er : Int) != 0) = true := by simpa using her
        have y0 : w4.cell? ⟨gB + 1 + 1, 0, none⟩ = some (.bool false) := hX.b2.cell 0
        have yf := hX.b2.frozen 0
        go_wp2_with fail
        obtain ⟨h1, h2⟩ := hX.end_ true hgB.out
        exact ⟨_, results_bool rfl _ _ _ true rfl h1, rfl, h2⟩
end Go.Proofs.Ytadgaphgomagkaa
