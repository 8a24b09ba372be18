/- The law FrameWrites: its walk. -/
import Derived.Test.YtppfjdohajomoaaFy
import Derived.Test.YtppfjdohajomoaaFv
namespace Go.Proofs.Ytppfjdohajomoaa
open Go.RowKit
set_option maxHeartbeats 4000000
set_option maxRecDepth 100000

theorem one_blk {w w1 : World} {t1 : TypeId} {cs1 : Array Value} (h : Below (w.alloc (.cells cs1 t1)).heap.size (w.alloc (.cells cs1 t1)) w1) : Below w.heap.size w w1 ∧ Blk w1 w.heap.size t1 cs1 :=
  ⟨below_after1 h, (Blk.new w t1 cs1).below' h⟩
theorem app_empty {w w' : World} {A' : Option Addr} {n c' : Nat} {xs : List Value} {o : Obj} (ho' : w'.ownsRow w.heap.size 5 1 (.slice A' (0 + n) c') (0 + n) ([] ++ xs)) (h : Grew (w.alloc o) w' (.slice (some ⟨w.heap.size, 0, none⟩) 0 0) (.slice A' (0 + n) c')) :
    w'.ownsRow w.heap.size 5 1 (.slice A' n c') n xs ∧ Below w.heap.size w w' ∧ Rd w' A' xs ∧ n ≤ c' ∧ w.heap.size ≤ w'.heap.size := by
  have ho : w'.ownsRow w.heap.size 5 1 (.slice A' n c') n xs := by simpa using ho'
  have hb : Below w.heap.size w w' := ((Below.refl _ _).alloc (Nat.le_refl _) o).trans (h.toBelow (B := w.heap.size) (by simp) (by intro g hg; simp [Value.ownBlock] at hg; omega))
  exact ⟨ho, hb, Rd.of_own ho, (own_cap ho).1, hb.size⟩

theorem wpList_appG {ops : Array Oper} {rest : List Oper} {o : Oper} {a : Act} (w : World) {Q : Exit → Act → World → Prop} (hgd : Region.wanted o (yielded ops a.tmps) = true) (s x : Operand) {t : TypeId}
    (ho : o.op = .call { callee := .builtin .append, args := #[s, x], argTypes := #[t, t] })
    {e : TypeId} {z : Value} {size bytes : Nat} {P : Program} (S : SlT P t e z size bytes) (base : Nat)
    (v : Value) (n : Nat) (xs : List Value) (hs : a.eval s = v) (hown : w.ownsRow base e size v n xs)
    (A : Option Addr) (m c : Nat) (news : List Value) (hx : a.eval x = .slice A m c) (hl : news.length = m * size) (hr : Rd w A news) (h1 : ∀ u ∈ news, u.oneCell' = true)
    (h63 : n + m ≤ maxLen) (hbytes : (n + m) * bytes ≤ 140737488355328) (hbase : base ≤ w.heap.size)
    (h : ∀ A' c' w', w'.ownsRow base e size (.slice A' (n + m) c') (n + m) (xs ++ news) → Grew w w' v (.slice A' (n + m) c') → wpList P ops Q rest (a.put o.dst (.slice A' (n + m) c')) w') : wpList P ops Q (o :: rest) a w := by
  refine wpList_step fun K hK => ?_
  rw [if_pos hgd]
  obtain ⟨A', c', w', hrun, h2, h3⟩ := run_app (P := P) w S o.type base v n xs hown A m c news hl hr h1 h63 hbytes hbase
  unfold Oper.wp execOp
  simp only [ho, resolve, invoke, builtin, Sem.run_bind, Sem.run_pure, Result.andThen_ok, List.map_toArray, List.map_cons, List.map_nil, hs, hx, hrun]
  exact hK _ _ (h A' c' w' h2 h3)

theorem frameWrites_any (A B : Option Addr) (c d v s1 : Nat) (size r1 h1 z1 : Int) (l : List UInt8) (ps : List Sb) (w : World) (hx : Rd w A (byts l)) (hv : v < 18446744073709551616) (hs1 : s1 < 18446744073709551616)
    (hr : Rd w B (ps.map Sb.val)) (hl : ps.length ≤ 5864062014806) (hok : ∀ s ∈ ps, s.ok w) :
    Calls Try.prog 8 #[.slice A l.length c, .int .u64 v, .slice B ps.length d, .int .i64 size, .agg #[.int .u64 s1, .int .i64 r1, .int .i64 h1, .int .i64 z1]] w
      fun e w' => e = .returned (.bool true) ∧ Below w.heap.size w w' := by
  have hjoin : ∀ W, Below w.heap.size w W → Calls Try.prog 23 #[.slice B ps.length d] W fun e w' => ∃ A' c', e = .returned (.tuple #[.slice A' (joinL ps).length c', .bool (joinOk ps)]) ∧ Rd w' A' (byts (joinL ps)) ∧ (joinL ps).length ≤ c' ∧ (∀ ad, A' = some ad → ad.block < w'.heap.size) ∧ Below W.heap.size W w' := fun W hW =>
    (joined_any B d ps W (hr.below hW) hl fun s hs => Sb.ok_below (hok s hs) hW).mono fun e w' h => by
      obtain ⟨A', c', he, ho, hb⟩ := h
      exact ⟨A', c', he, Rd.of_own ho, (own_cap ho).1, fun ad h => ((own_cap ho).2.2 ad h).2, hb⟩
  by_cases hlong : 65536 < l.length
  · have g1 : (65536 : Int) < (l.length : Int) := by omega
    clear hlong
    generalize (joinL ps) = L at *
    generalize (joinOk ps) = J at *
    go_enter Try.func8, Try.ntmps8
    go_wp2_with (first
      | (go_at_call 22; refine (known_any _).mono ?_; rintro e w1 ⟨rfl, hb1⟩; obtain ⟨hbw1, B1⟩ := one_blk hb1; clear hb1)
      | (go_at_call 23; refine (hjoin _ hbw1).mono ?_; rintro e w2 ⟨A2, c2, rfl, hr2, hc2, ha2, hb2⟩))
    go_ret
    exact ⟨rfl, hbw1.trans (hb2.mono hbw1.size)⟩
  · by_cases hJ : joinOk ps = true
    · have g1 : ¬ (65536 : Int) < (l.length : Int) := by omega
      have g2 : l.length ≤ 65536 := by omega
      have hLe : joinL ps = flat ps := by unfold joinL; rw [if_pos hJ]
      have hL65 : (flat ps).length ≤ 65536 := by
        simp only [joinOk, decide_eq_true_eq] at hJ
        rcases hJ with rfl | h
        · simp [flat]
        · exact h.2
      rw [hJ, hLe] at hjoin
      have hv10 : (numB v).length ≤ 10 := (numF_length 9 v).1
      have hL10 : (numB (flat ps).length).length ≤ 10 := (numF_length 9 (flat ps).length).1
      have hN : ∀ (W : World) (A' : Option Addr) (c' : Nat), Rd W A' (byts l) → l.length ≤ c' → Calls Try.prog 28 #[.slice A' l.length c', .int .u64 v] W fun e w' => ∃ A'' c'', e = .returned (.slice A'' (l ++ numB v).length c'') ∧ Rd w' A'' (byts (l ++ numB v)) ∧ Below W.heap.size W w' := fun W A' c' h1 h2 =>
        (number_any A' c' v l W h1 h2 (by omega) hv).mono fun e w' h => by
          obtain ⟨A'', c'', he, ho, hb⟩ := h
          exact ⟨A'', c'', he, Rd.of_own ho, hb⟩
      have hrN : ∀ (W : World) (b : Nat) (A' : Option Addr) (c' : Nat), W.ownsRow b 5 1 (.slice A' l.length c') l.length (byts l) → b ≤ W.heap.size → Calls Try.prog 30 #[.slice A' l.length c', .int .u64 v] W fun e w' => ∃ A'' c'', e = .returned (.slice A'' (l ++ numB v).length c'') ∧ Rd w' A'' (byts (l ++ numB v)) ∧ Below b W w' := fun W b A' c' h1 h2 =>
        (refNumber_any A' c' v l.length b (byts l) W h1 h2 (by omega) hv).mono fun e w' h => by
          obtain ⟨A'', c'', he, ho, hb⟩ := h
          rw [← byts_append] at ho
          exact ⟨A'', c'', by rw [List.length_append]; exact he, Rd.of_own ho, hb.toBelow h2 (fun g hg => (h1.lt g hg).1)⟩
      have hB : ∀ (W : World) (A' : Option Addr) (c' : Nat), Below w.heap.size w W → Rd W A' (byts l) → l.length ≤ c' → Calls Try.prog 31 #[.slice A' l.length c', .slice B ps.length d] W fun e w' => ∃ A'' c'', e = .returned (.slice A'' (l ++ (numB (flat ps).length ++ flat ps)).length c'') ∧ Rd w' A'' (byts (l ++ (numB (flat ps).length ++ flat ps))) ∧ Below W.heap.size W w' := fun W A' c' hW h1 h2 =>
        (bytes_any A' B c' d l ps W h1 h2 (hr.below hW) hl (fun s hs => Sb.ok_below (hok s hs) hW) (by omega)).mono fun e w' h => by
          obtain ⟨A'', c'', he, ho, hb⟩ := h
          exact ⟨A'', c'', he, Rd.of_own ho, hb⟩
      have hrB : ∀ (W : World) (b : Nat) (A' B' : Option Addr) (c' d' : Nat), W.ownsRow b 5 1 (.slice A' l.length c') l.length (byts l) → b ≤ W.heap.size → Rd W B' (byts (flat ps)) → (∀ ad, B' = some ad → ad.block < b) →
          Calls Try.prog 32 #[.slice A' l.length c', .slice B' (flat ps).length d'] W fun e w' => ∃ A'' c'', e = .returned (.slice A'' (l ++ (numB (flat ps).length ++ flat ps)).length c'') ∧ Rd w' A'' (byts (l ++ (numB (flat ps).length ++ flat ps))) ∧ Below b W w' := fun W b A' B' c' d' h1 h2 h3 h4 =>
        (refBytes_any A' B' c' d' l.length b (byts l) (flat ps) W h1 h2 h3 h4 (by omega) (by omega)).mono fun e w' h => by
          obtain ⟨A'', c'', he, ho, hb⟩ := h
          rw [← byts_append, ← byts_append, List.append_assoc] at ho
          exact ⟨A'', c'', by rw [List.length_append, List.length_append, ← Nat.add_assoc]; exact he, Rd.of_own ho, hb.toBelow h2 (fun g hg => (h1.lt g hg).1)⟩
      have hR : ∀ (W : World) (A' : Option Addr) (c' : Nat), Rd W A' (byts (flat ps)) → (flat ps).length ≤ c' → Calls Try.prog 33 #[.int .u64 v, .slice A' (flat ps).length c'] W fun e w' => ∃ A'' c'', e = .returned (.slice A'' (recB v (flat ps)).length c'') ∧ Rd w' A'' (byts (recB v (flat ps))) ∧ Below W.heap.size W w' := fun W A' c' h1 h2 =>
        (record_any A' c' v (flat ps) W h1 (by omega) h2 hv).mono fun e w' h => by
          obtain ⟨A'', c'', out, he, rfl, ho, hb⟩ := h
          exact ⟨A'', c'', he, Rd.of_own ho, hb⟩
      have hrR : ∀ (W : World) (A' : Option Addr) (c' : Nat), Rd W A' (byts (flat ps)) → Calls Try.prog 34 #[.int .u64 v, .slice A' (flat ps).length c'] W fun e w' => ∃ A'' c'', e = .returned (.slice A'' (recB v (flat ps)).length c'') ∧ Rd w' A'' (byts (recB v (flat ps))) ∧ Below W.heap.size W w' := fun W A' c' h1 =>
        (refRecord_any A' c' v (flat ps) W h1 (by omega)).mono fun e w' h => by
          obtain ⟨A'', c'', out, he, rfl, ho, hb⟩ := h
          exact ⟨A'', c'', he, Rd.of_own ho, hb⟩
      have hM := fun W => room_any size W
      have hrM := fun W => refRoom_any size W
      have hP : ∀ (W : World) (A' : Option Addr) (c' : Nat), Rd W A' (byts (flat ps)) → (flat ps).length ≤ c' → Calls Try.prog 26 #[.int .i64 size, .agg #[.int .u64 s1, .int .i64 r1, .int .i64 h1, .int .i64 z1], .slice A' (flat ps).length c'] W fun e w' => ∃ A'' c'', e = .returned (.tuple #[.slice A'' (pageR size r1 h1 s1 (flat ps)).1.length c'', .int .i64 ((pageR size r1 h1 s1 (flat ps)).2 : Nat)]) ∧ Rd w' A'' (byts (pageR size r1 h1 s1 (flat ps)).1) ∧ Below W.heap.size W w' := fun W A' c' h2 h3 =>
        (page_any A' c' s1 size r1 h1 z1 (flat ps) W h2 h3 hs1).mono fun e w' h => by
          obtain ⟨A'', c'', out, he, rfl, ho, hb⟩ := h
          exact ⟨A'', c'', he, Rd.of_own ho, hb⟩
      have hrP : ∀ (W : World) (A' : Option Addr) (c' : Nat), Rd W A' (byts (flat ps)) → Calls Try.prog 37 #[.int .i64 size, .agg #[.int .u64 s1, .int .i64 r1, .int .i64 h1, .int .i64 z1], .slice A' (flat ps).length c'] W fun e w' => ∃ A'' c'', e = .returned (.tuple #[.slice A'' (pageR size r1 h1 s1 (flat ps)).1.length c'', .int .i64 ((pageR size r1 h1 s1 (flat ps)).2 : Nat)]) ∧ Rd w' A'' (byts (pageR size r1 h1 s1 (flat ps)).1) ∧ Below W.heap.size W w' := fun W A' c' h2 =>
        (refPage_any A' c' s1 size r1 h1 z1 (flat ps) W h2).mono fun e w' h => by
          obtain ⟨A'', c'', out, he, rfl, ho, hb⟩ := h
          exact ⟨A'', c'', he, Rd.of_own ho, hb⟩
      have hsm : ∀ (X : List UInt8) (W : World) (A' B' : Option Addr) (c' d' : Nat), Rd W A' (byts X) → Rd W B' (byts X) → Calls Try.prog 27 #[.slice A' X.length c', .slice B' X.length d'] W fun e w' => e = .returned (.bool true) ∧ W = w' := fun X W A' B' c' d' h1 h2 => by
        have := same_any A' B' c' d' X X W h1 h2
        rwa [show (X == X) = true from by simp] at this
      clear hLe hJ hv10 hL10 hok hl hr
      generalize (l ++ (numB (flat ps).length ++ flat ps)) = X2 at *
      generalize recB v (flat ps) = X3 at *
      generalize pageR size r1 h1 s1 (flat ps) = R at *
      obtain ⟨PG, k⟩ := R
      generalize (l ++ numB v) = X1 at *
      generalize flat ps = L at *
      generalize roomN size = RM at *
      have hm1 := hsm X1
      have hm2 := hsm X2
      have hm3 := hsm l
      have hm4 := hsm X3
      have hm5 := hsm PG
      clear hsm
      simp only at hP hrP
      have q1 : ((RM : Int) != (RM : Int)) = false := by simp
      have q2 : ((k : Int) == (k : Int)) = true := by simp
      have HL := Lib.hid (byts_length l)
      go_enter Try.func8, Try.ntmps8
      go_wp2_with (first
        | (go_at_call 22; refine (known_any _).mono ?_; rintro e w1 ⟨rfl, hb1⟩; obtain ⟨hbw1, B1⟩ := one_blk hb1; clear hb1)
        | (go_at_call 23; refine (hjoin _ hbw1).mono ?_; rintro e w2 ⟨A2, c2, rfl, hr2, hc2, ha2, hb2⟩; have hbw2 : Below w.heap.size w w2 := hbw1.trans (hb2.mono hbw1.size); have B2 := B1.below' hb2; have hx2 := (hx.below hbw2).alloc (.cells #[] 5); clear hjoin B1)
        | (go_at_call 27; have _h := hb13; refine (hm5 _ _ _ _ _ (hr12.below hb13) hr13).mono ?_; rintro e w' ⟨rfl, rfl⟩)
        | (go_at_call 37; refine (hrP _ _ _ (hr2.below hb2_12)).mono ?_; rintro e w13 ⟨A13, c13, rfl, hr13, hb13⟩)
        | (go_at_call 26; refine (hP _ _ _ (hr2.below hb2_11) hc2).mono ?_; rintro e w12 ⟨A12, c12, rfl, hr12, hb12⟩; have hb2_12 := hb2_11.trans (hb12.mono hb2_11.size); have B12 := B11.below' hb12; have e0 : w12.cell? ⟨w.heap.size, 0, none⟩ = some (.int .u64 (s1 : Nat)) := B12.cell 0; have e1 : w12.cell? ⟨w.heap.size, 1, none⟩ = some (.int .i64 r1) := B12.cell 1; have e2 : w12.cell? ⟨w.heap.size, 2, none⟩ = some (.int .i64 h1) := B12.cell 2; have e3 : w12.cell? ⟨w.heap.size, 3, none⟩ = some (.int .i64 z1) := B12.cell 3)
        | ((with_reducible show wpList _ _ _ (Oper.mk _ (Op.load _ _) _ _ _ _ :: _) _ _); refine wpList_ld rfl 46 _ rfl stHead' w.heap.size rfl _ _ B11 rfl ?_)
        | (go_at_call 35; refine (hM _).mono ?_; rintro e w' ⟨rfl, rfl⟩)
        | (go_at_call 36; refine (hrM _).mono ?_; rintro e w' ⟨rfl, rfl⟩)
        | (go_at_call 27; have _h := hb11; refine (hm4 _ _ _ _ _ (hr10.below hb11) hr11).mono ?_; rintro e w' ⟨rfl, rfl⟩)
        | (go_at_call 34; refine (hrR _ _ _ (hr2.below hb2_10)).mono ?_; rintro e w11 ⟨A11, c11, rfl, hr11, hb11⟩; have hb2_11 := hb2_10.trans (hb11.mono hb2_10.size); have B11 := B2.below' hb2_11; clear B2)
        | (go_at_call 33; refine (hR _ _ _ (hr2.below hb2_9) hc2).mono ?_; rintro e w10 ⟨A10, c10, rfl, hr10, hb10⟩; have hb2_10 := hb2_9.trans (hb10.mono hb2_9.size))
        | (go_at_call 27; have _h := mk2; refine (hm3 _ _ _ _ _ (hr3.below hb3_9) (hx.below (hbw2.trans (hb2_9.mono hbw2.size)))).mono ?_; rintro e w' ⟨rfl, rfl⟩)
        | (go_at_call 27; have _h := hb9; refine (hm2 _ _ _ _ _ (hr7.below (hb8.trans (hb9.mono (Nat.le_refl _)))) hr9).mono ?_; rintro e w' ⟨rfl, rfl⟩; have mk2 : True := trivial)
        | (go_at_call 32; refine (hrB _ w7.heap.size _ _ _ _ ho8 hz8 (hr2.below (hb2_7.trans (hb8.mono hb2_7.size))) (fun ad h => Nat.lt_of_lt_of_le (ha2 ad h) hb2_7.size)).mono ?_; rintro e w9 ⟨A9, c9, rfl, hr9, hb9⟩; have hb7_9 : Below w7.heap.size w7 w9 := hb8.trans hb9; have hb2_9 := hb2_7.trans (hb7_9.mono hb2_7.size); have hb3_9 := hb3_7.trans (hb7_9.mono hb3_7.size))
        | (at_builtin; have _h := hb7; refine wpList_appG _ rfl _ _ rfl slB w7.heap.size (.slice (some ⟨w7.heap.size, 0, none⟩) 0 0) 0 [] rfl (World.ownsRow_made w7 #[] 0 (Nat.le_refl _) (by unfold maxLen; omega) rfl) A l.length c (byts l) rfl (by rw [HL.out, Nat.mul_one]) hx7 (byts_one l) (by unfold maxLen; omega) (by omega) (by simp) ?_; intro A8 c8 w8 ho8' hg8; obtain ⟨ho8, hb8, hr8, hc8, hz8⟩ := app_empty ho8' hg8; clear ho8' hg8)
        | (go_at_call 31; refine (hB _ _ _ (hbw2.trans (hb2_6.mono hbw2.size)) (hr3.below hb3_6) hc3).mono ?_; rintro e w7 ⟨A7, c7, rfl, hr7, hb7⟩; have hb2_7 := hb2_6.trans (hb7.mono hb2_6.size); have hb3_7 := hb3_6.trans (hb7.mono hb3_6.size); have hx7 := (hx.below (hbw2.trans (hb2_7.mono hbw2.size))).alloc (.cells #[] 5))
        | (go_at_call 27; refine (hm1 _ _ _ _ _ (hr4.below hb4_6) hr6).mono ?_; rintro e w' ⟨rfl, rfl⟩)
        | (go_at_call 30; refine (hrN _ w4.heap.size _ _ ho5 hz5).mono ?_; rintro e w6 ⟨A6, c6, rfl, hr6, hb6⟩; have hb4_6 : Below w4.heap.size w4 w6 := hb5.trans hb6; have hb3_6 := hb4.trans (hb4_6.mono hb4.size); have hb2_6 := hb2_4.trans (hb4_6.mono hb2_4.size))
        | (at_builtin; have _h := hb4; refine wpList_app _ rfl _ _ rfl slB w4.heap.size (.slice (some ⟨w4.heap.size, 0, none⟩) 0 0) 0 [] rfl (World.ownsRow_made w4 #[] 0 (Nat.le_refl _) (by unfold maxLen; omega) rfl) A l.length c (byts l) rfl (by rw [HL.out, Nat.mul_one]) hx4 (byts_one l) (by unfold maxLen; omega) (by omega) (by simp) ?_; intro A5 c5 w5 ho5' hg5; obtain ⟨ho5, hb5, hr5, hc5, hz5⟩ := app_empty ho5' hg5; clear ho5' hg5)
        | (go_at_call 28; refine (hN _ _ _ hr3 hc3).mono ?_; rintro e w4 ⟨A4, c4, rfl, hr4, hb4⟩; have hb2_4 := hb3.trans (hb4.mono hb3.size); have hx4 := (hx.below (hbw2.trans (hb2_4.mono hbw2.size))).alloc (.cells #[] 5))
        | (at_builtin; have _h := hb2; refine wpList_app _ rfl _ _ rfl slB w2.heap.size (.slice (some ⟨w2.heap.size, 0, none⟩) 0 0) 0 [] rfl (World.ownsRow_made w2 #[] 0 (Nat.le_refl _) (by unfold maxLen; omega) rfl) A l.length c (byts l) rfl (by rw [HL.out, Nat.mul_one]) hx2 (byts_one l) (by unfold maxLen; omega) (by omega) (by simp) ?_; intro A3 c3 w3 ho3' hg3; obtain ⟨ho3, hb3, hr3, hc3, hz3⟩ := app_empty ho3' hg3; clear ho3' hg3))
      go_ret
      exact ⟨rfl, hbw2.trans ((hb2_12.trans (hb13.mono hb2_12.size)).mono hbw2.size)⟩
    · have hJ' : joinOk ps = false := by simpa using hJ
      have g1 : ¬ (65536 : Int) < (l.length : Int) := by omega
      rw [hJ'] at hjoin
      clear hlong hJ hJ'
      generalize (joinL ps) = L at *
      go_enter Try.func8, Try.ntmps8
      go_wp2_with (first
        | (go_at_call 22; refine (known_any _).mono ?_; rintro e w1 ⟨rfl, hb1⟩; obtain ⟨hbw1, B1⟩ := one_blk hb1; clear hb1)
        | (go_at_call 23; refine (hjoin _ hbw1).mono ?_; rintro e w2 ⟨A2, c2, rfl, hr2, hc2, ha2, hb2⟩))
      go_ret
      exact ⟨rfl, hbw1.trans (hb2.mono hbw1.size)⟩
end Go.Proofs.Ytppfjdohajomoaa
