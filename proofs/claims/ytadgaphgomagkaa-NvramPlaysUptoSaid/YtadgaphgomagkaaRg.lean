/- The plays of the log's device: the walk. -/
import Derived.Test.YtadgaphgomagkaaRk
import Derived.Deep.CutBlock
import Derived.Deep.RegionHeld3
namespace Go.Proofs.Ytadgaphgomagkaa
open Go.RowKit
set_option maxHeartbeats 8000000
set_option maxRecDepth 100000

theorem nvramPlays_any (w : World) (A1 : Option Addr) (c1' : Nat) (l : List NAct) (size at_ n : Int) (hr1 : Rd w A1 (acells l)) (hok : ∀ a ∈ l, a.ok w) (hpc : ∀ a ∈ l, a.p.length ≤ 2000000 ∧ a.l.length ≤ 2000000) (hl : l.length ≤ 1048576) (hn1 : -9223372036854775808 ≤ n ∧ n ≤ 9223372036854775807) (ha1 : -9223372036854775808 ≤ at_ ∧ at_ ≤ 9223372036854775807) :
    Calls Try.prog 4 #[.int .i64 size, .slice A1 l.length c1', .int .i64 at_, .int .i64 n] w fun e w' => e = .returned (.bool true) ∧ Below w.heap.size w w' := by
  go_enter Try.func4, Try.ntmps4
  go_wp2_with fail
  refine (known4_any w).mono ?_
  rintro e wk ⟨rfl, hbk⟩
  go_wp2_with fail
  refine (few_any wk A1 c1' l (hr1.below hbk) (fun a ha => (hok a ha).below hbk) (by omega)).mono ?_
  rintro e w0 ⟨b1, rfl, hf1, hba⟩
  have hb0 := hbk.trans (hba.mono hbk.size)
  cases b1 with
  | false =>
    go_wp2_with fail
    go_ret
    exact ⟨rfl, hb0⟩
  | true =>
  have hf1 := hf1 rfl
  clear hbk hba
  by_cases hbig : 4096 < size ∧ size ≤ 67108864
  · skip
    as_aux_lemma => /-{-/
      obtain ⟨s1, s2⟩ := hbig
      go_wp2_with fail
      go_ret
      exact ⟨rfl, hb0⟩
    /-}-/
  by_cases hbad : size < 64 ∨ 67108864 < size
  · skip
    as_aux_lemma => /-{-/
      have hsd : (¬ 4096 < size) ∨ (4096 < size ∧ ¬ size ≤ 67108864) := by omega
      clear hbig
      rcases hsd with s1 | ⟨s1, s2⟩
      all_goals
        go_wp2_with fail
        refine (newPower_any w0).mono ?_
        rintro e w1 ⟨rfl, hp1, hb1⟩
        go_wp2_with fail
        refine (nvNew_bad w1 _ size hbad).mono ?_
        rintro e w2 ⟨rfl, rfl⟩
        go_wp2_with fail
        refine (refNew_bad w1 size hbad).mono ?_
        rintro e w2 ⟨rfl, rfl⟩
        clear hbad
        go_wp2_with fail
        go_ret
        exact ⟨rfl, hb0.trans (hb1.mono hb0.size)⟩
    /-}-/
  have s1 : ¬ 4096 < size := by omega
  obtain ⟨z, rfl⟩ : ∃ z : Nat, size = (z : Int) := ⟨size.toNat, by omega⟩
  have hz1 : 64 ≤ z := by omega
  have hz2 : z ≤ 4096 := by omega
  clear hbig hbad
  go_wp2_with fail
  refine (newPower_any w0).mono ?_
  rintro e w1 ⟨rfl, hp1, hb1⟩
  go_wp2_with fail
  refine (nvNew_ok w1 w0.heap.size w0.heap.size z hz1 (by omega) hb1.size false 0 0 _ hp1).mono ?_
  rintro e w2 ⟨D, G, rfl, hd2, ⟨dA, dc, hp2, ho2⟩, hG2, hc2⟩
  have hb2 : Below w0.heap.size w0 w2 := Chg.toBelow hc2 hb1 (fun k hk => by rw [show k = w0.heap.size from hk]; exact Nat.le_refl _) hb1.size
  have hS2 : NvP w2 w0.heap.size D w0.heap.size G (List.replicate z 0) [] false 0 [] 0 := ⟨[], none, 0, hd2, link_nil _, PwD.new hp2 ho2 (Nat.le_refl _), hb2.size, by simp; omega⟩
  clear hd2 hp2 ho2 hc2 hp1 hb1
  go_wp2_with fail
  refine (refNew_ok w2 w0.heap.size G z hz1 (by omega) hb2.size hS2.hasG.lt).mono ?_
  rintro e w3 ⟨R, rfl, hR3, hb3⟩
  have hT0 : TwoP w0 w3 w0.heap.size D w0.heap.size R G (List.replicate z 0) [] false 0 [] 0 0 := ⟨⟨0, by omega, hS2.below hb3⟩, hR3, by simp, hb2.trans (hb3.mono hb2.size), by simp; omega, by omega⟩
  clear hS2 hR3 hb3 hb2 hG2
  go_wp2_with fail
  go_loopg [14, 15, 16, 17] l.length (fun m s14 s15 s16 s17 wr => ∃ (k : Nat) (kept : List UInt8) (L : List (Nat × UInt8)) (off : Bool) (armed : Nat) (picks : List Int) (qA : Option Addr) (qc : Nat), m = l.length - k ∧ k ≤ l.length ∧ s17 = .int .i64 (k : Nat) ∧ s14 = .int .i64 (armed : Nat) ∧ s15 = .slice qA picks.length qc ∧ s16 = .bool off ∧ kept.length = z ∧
    TwoP w0 wr w0.heap.size D w0.heap.size R G kept L off armed picks 0 k ∧ Rd w qA (ints picks) ∧ (∀ x ∈ picks, x ≤ 9223372036854775807) ∧ picks.length ≤ 2000000)
  case atStart => exact ⟨0, _, _, _, _, _, none, 0, rfl, by omega, rfl, rfl, rfl, rfl, by simp, hT0, Rd.none_, by simp, by simp⟩
  case round =>
    clear hT0
    obtain ⟨k, kept, L, off, armed, picks, qA, qc, rfl, hk, rfl, rfl, rfl, rfl, hkl, hT, hq, hqx, hqn⟩ := hrel
    have hbw : Below w.heap.size w wr := hb0.trans (hT.bel.mono hb0.size)
    by_cases hlt : k < l.length
    · have r1 : (k : Int) < (l.length : Int) := by omega
      have hpk := hpc _ (List.getElem_mem hlt)
      have hax := hok _ (List.getElem_mem hlt)
      obtain ⟨ad, rfl, c0, c1, c2, c3, c4⟩ := acts_at (hr1.below hbw) k hlt
      clear hpc hok
      generalize l[k] = x at *
      go_upto_if 72 with fail
      have hX := Blk.new wr 38 #[.int .i64 x.op, .int .i64 x.at_, .int .i64 x.n, .slice x.A x.l.length x.c, .slice x.pA x.p.length x.pc]
      have hbA := (Below.refl wr.heap.size wr).alloc (Nat.le_refl _) (.cells #[.int .i64 x.op, .int .i64 x.at_, .int .i64 x.n, .slice x.A x.l.length x.c, .slice x.pA x.p.length x.pc] 38)
      have hT5 := hT.below hbA
      have hbw5 := hbw.trans (hbA.mono hbw.size)
      clear hT hbA hbw c0 c1 c2 c3 c4
      generalize wr.heap.size = X at *
      generalize wr.alloc (.cells #[.int .i64 x.op, .int .i64 x.at_, .int .i64 x.n, .slice x.A x.l.length x.c, .slice x.pA x.p.length x.pc] 38) = w5 at *
      go_cut [19] (fun s19 wx => s19 = .int .i64 ((if off then 8 else 0 : Nat) : Nat) ∧ w5 = wx)
      case first =>
        as_aux_lemma => /-{-/
          cases off
          all_goals
            go_wp2_with fail
            go_meet
            exact ⟨rfl, rfl⟩
        /-}-/
      case rest =>
      obtain ⟨rfl, rfl⟩ := hcut
      generalize hv0 : (if off then 8 else 0 : Nat) = v0 at *
      have HV0 := Lib.hid hv0
      clear hv0
      have X0 : w5.cell? ⟨X, 0, none⟩ = some (.int .i64 x.op) := hX.cell 0
      have X1 : w5.cell? ⟨X, 1, none⟩ = some (.int .i64 x.at_) := hX.cell 1
      have X3 : w5.cell? ⟨X, 3, none⟩ = some (.slice x.A x.l.length x.c) := hX.cell 3
      have hfc := tp_fits hT5 x.at_ (x.l.length : Nat)
      rw [hkl] at hfc
      go_upto_region 22 with fail
      go_cut [89] (fun s89 wx => s89 = .bool (decide (x.op = 1) && (!off && !(fitsB z x.at_ (x.l.length : Nat)))) ∧ w5 = wx)
      case first =>
        as_aux_lemma => /-{-/
          clear HV0
          by_cases ho : x.op = 1
          · have b1 : (x.op == 1) = true := by simp [ho]
            have HOB := Lib.hid (show decide (x.op = 1) = true from by simp [ho])
            generalize fitsB z x.at_ (x.l.length : Nat) = fb at *
            clear ho
            cases off
            · cases fb
              all_goals
                go_wp2_with (go_at_call 18; refine hfc.mono ?_; rintro e w7 ⟨rfl, rfl⟩)
                go_meet
                exact ⟨by rw [HOB.out]; rfl, rfl⟩
            · go_wp2_with fail
              go_meet
              exact ⟨by rw [HOB.out]; rfl, rfl⟩
          · have b1 : (x.op == 1) = false := by simp [ho]
            have HOB := Lib.hid (show decide (x.op = 1) = false from by simp [ho])
            clear ho
            go_wp2_with fail
            go_meet
            exact ⟨by rw [HOB.out]; rfl, rfl⟩
        /-}-/
      case rest =>
      obtain ⟨rfl, rfl⟩ := hcut
      clear hfc
      generalize hfb : fitsB z x.at_ (x.l.length : Nat) = fb at *
      go_upto_if 89 with fail
      go_cut [19] (fun s19 wx => s19 = .int .i64 (wantA off x.op fb : Nat) ∧ w5 = wx)
      case first =>
        as_aux_lemma => /-{-/
          have e9 : (decide (x.op = 1) && (!off && !fb)) = true → wantA off x.op fb = 1 := by
            intro h
            simp at h
            simp [wantA, h]
          have e8 : (decide (x.op = 1) && (!off && !fb)) = false → wantA off x.op fb = v0 := by
            intro h
            rw [← HV0.out]
            cases off
            · simp at h ⊢
              unfold wantA
              simp
              exact h
            · simp [wantA]
          clear HV0
          cases ht : (decide (x.op = 1) && (!off && !fb))
          · have e8 := e8 ht
            clear e9 ht
            go_wp2_with fail
            go_meet
            exact ⟨by rw [e8], rfl⟩
          · have e9 := e9 ht
            clear e8 ht
            go_wp2_with fail
            go_meet
            exact ⟨by rw [e9]; rfl, rfl⟩
        /-}-/
      case rest =>
      obtain ⟨rfl, rfl⟩ := hcut
      generalize hwa : wantA off x.op fb = wa at *
      have HWA := Lib.hid hwa
      clear hwa
      go_upto_region 24 with fail
      go_cut [105] (fun s105 wx => s105 = .bool (armB x.op wa armed) ∧ w5 = wx)
      case first =>
        as_aux_lemma => /-{-/
          have HAB := Lib.hid (show armB x.op wa armed = (((decide (x.op = 1) || decide (x.op = 2)) && (decide (wa = 0))) && decide (0 < armed)) from by unfold armB; rw [Bool.eq_iff_iff]; simp [and_assoc])
          have c0 : (((wa : Nat) : Int) == 0) = decide (wa = 0) := by rw [Bool.eq_iff_iff]; simp
          by_cases ho : x.op = 1
          · have b1 : (x.op == 1) = true := by simp [ho]
            have HOB := Lib.hid (show decide (x.op = 1) = true from by simp [ho])
            clear ho
            by_cases hw0 : wa = 0
            · subst hw0
              go_wp2_with fail
              go_meet
              exact ⟨by rw [HAB.out, HOB.out]; simp, rfl⟩
            · have d0 : (((wa : Nat) : Int) == 0) = false := by simpa using hw0
              have HW0 := Lib.hid (show decide (wa = 0) = false from by simpa using hw0)
              clear hw0 c0
              go_wp2_with fail
              go_meet
              exact ⟨by rw [HAB.out, HOB.out, HW0.out]; simp, rfl⟩
          · have b1 : (x.op == 1) = false := by simp [ho]
            have HOB := Lib.hid (show decide (x.op = 1) = false from by simp [ho])
            clear ho
            by_cases ho2 : x.op = 2
            · have b2 : (x.op == 2) = true := by simp [ho2]
              have HO2 := Lib.hid (show decide (x.op = 2) = true from by simp [ho2])
              clear ho2
              by_cases hw0 : wa = 0
              · subst hw0
                go_wp2_with fail
                go_meet
                exact ⟨by rw [HAB.out, HOB.out, HO2.out]; simp, rfl⟩
              · have d0 : (((wa : Nat) : Int) == 0) = false := by simpa using hw0
                have HW0 := Lib.hid (show decide (wa = 0) = false from by simpa using hw0)
                clear hw0 c0
                go_wp2_with fail
                go_meet
                exact ⟨by rw [HAB.out, HOB.out, HO2.out, HW0.out]; simp, rfl⟩
            · have b2 : (x.op == 2) = false := by simp [ho2]
              have HO2 := Lib.hid (show decide (x.op = 2) = false from by simp [ho2])
              clear ho2 c0
              go_wp2_with fail
              go_meet
              exact ⟨by rw [HAB.out, HOB.out, HO2.out]; simp, rfl⟩
        /-}-/
      case rest =>
      obtain ⟨rfl, rfl⟩ := hcut
      go_upto_if 105 with fail
      go_cut [14, 16, 19] (fun s14 s16 s19 wx => ∃ (wv a2 : Nat) (o2 : Bool), s14 = .int .i64 (a2 : Nat) ∧ s16 = .bool o2 ∧ s19 = .int .i64 (wv : Nat) ∧ EPost w0 wx w0.heap.size D w0.heap.size R G z X kept L off armed picks k x.op wa wv a2 o2 ∧ Blk wx X 38 #[.int .i64 x.op, .int .i64 x.at_, .int .i64 x.n, .slice x.A x.l.length x.c, .slice x.pA x.p.length x.pc] ∧ Below w.heap.size w wx)
      case first =>
        as_aux_lemma => /-{-/
          have hoff : armB x.op wa armed = true → off = false := by
            intro h
            cases off
            · rfl
            · have : wa = 8 := by rw [← HWA.out]; rfl
              unfold armB at h
              simp at h
              omega
          cases hab : armB x.op wa armed
          · go_wp2_with fail
            go_meet
            exact ⟨wa, armed, off, rfl, rfl, rfl, .inr ⟨fun h => absurd (hab.symm.trans h) (by simp), rfl, (by rw [hab]; rfl), rfl, hT5⟩, hX, hbw5⟩
          · have ho := hoff hab
            subst ho
            have ha0 : 0 < armed := by unfold armB at hab; simp at hab; omega
            have harm := hT5.arm
            by_cases ha1 : armed = 1
            · subst ha1
              have hrc := tp_refcut hT5 (by omega) qA qc picks (hq.below hbw5) hqx
              have HABS := Lib.hid hab
              clear hab hoff
              go_wp2_with (go_at_call 26; refine hrc.mono ?_; rintro e w7 ⟨rfl, hrf, hnv, hbl, hcr⟩)
              go_meet
              have hbz : Below w.heap.size w w7 := hb0.trans (hbl.mono hb0.size)
              exact ⟨8, 0, true, rfl, rfl, rfl, .inl ⟨HABS.out, rfl, rfl, rfl, rfl, rfl, by simpa using hnv, hrf, hbl⟩, blk_keepR hX hcr, hbz⟩
            · have HAB := Lib.hid hab
              obtain ⟨a2, rfl⟩ : ∃ a2, armed = a2 + 2 := ⟨armed - 2, by omega⟩
              have HA1 := Lib.hid ha1
              clear hab hoff ha1
              have q1 : (((a2 + 2 : Nat) : Int) - 1 == 0) = false := by simp; omega
              go_wp2_with fail
              go_meet
              exact ⟨wa, a2 + 1, false, by congr 1; omega, rfl, rfl, .inr ⟨fun _ => HA1.out, rfl, by rw [HAB.out]; rfl, rfl, hT5⟩, hX, hbw5⟩
        /-}-/
      case rest =>
      obtain ⟨wv, a2, o2, rfl, rfl, rfl, hE, hX6, hbw6⟩ := hcut
      obtain ⟨w6, e6⟩ : ∃ y, y = wc := ⟨wc, rfl⟩
      subst e6
      have hfew := hT5.few
      have hlen := hT5.len
      clear X0 X1 X3 hT5 hX hbw5
      have X0 : w6.cell? ⟨X, 0, none⟩ = some (.int .i64 x.op) := hX6.cell 0
      have X2 : w6.cell? ⟨X, 2, none⟩ = some (.int .i64 x.n) := hX6.cell 2
      have X4 : w6.cell? ⟨X, 4, none⟩ = some (.slice x.pA x.p.length x.pc) := hX6.cell 4
      have hk3 : k ≤ 300 := by have := hf1 trivial; omega
      go_upto_block 2 with fail
      go_cut [14, 15, 16, 20] (fun s14 s15 s16 s20 wx => RPost w w0 wx D R G z X x k wv s14 s15 s16 s20)
      case first =>
        by_cases o1 : x.op = 1
        · skip
          as_aux_lemma => /-{-/
            have b1 : (x.op == 1) = true := by simp [o1]
            have X1 : w6.cell? ⟨X, 1, none⟩ = some (.int .i64 x.at_) := hX6.cell 1
            have X3 : w6.cell? ⟨X, 3, none⟩ = some (.slice x.A x.l.length x.c) := hX6.cell 3
            have hg : ∀ g : Nat, g = wv → g = (if 2 < x.op ∨ x.op < 1 then 0 else wv) := fun g h => by rw [if_neg (by omega)]; exact h
            have HG := Lib.hid hg
            have hbyt := hax.byt.below hbw6
            have hcap := hax.cap
            have hop := fun (w1 : World) (A : Option Addr) (ps : List Sb) => op_write (w1 := w1) hE o1 HWA.out hfb hkl hk3 hfew hlen (A := A) (ps := ps)
            have hll := hpk.2
            obtain ⟨hh, hhe⟩ : ∃ hh, hh = x.l.length / 2 := ⟨_, rfl⟩
            have hquo : Int.tdiv (x.l.length : Int) 2 = (hh : Int) := by rw [hhe, Int.tdiv_eq_ediv_of_nonneg (by omega)]; omega
            have hhl : hh ≤ x.l.length := by omega
            have hAl : x.l ≠ [] → ∀ ad', x.A = some ad' → ad'.block < w0.heap.size := fun hne ad' e => by
              obtain ⟨a2, e2, hlt2, _⟩ := hax.byt.at_ (k := 0) (by rw [byts_length]; exact List.length_pos_iff.2 hne)
              rw [e] at e2; injection e2 with e2; subst e2
              have := hb0.size; omega
            clear o1 hg hE hhe
            have hXA : Blk w6 X 38 (actCells x) := hX6
            clear hX6
            go_upto_region 34 with fail
            go_cut [20] (fun s20 wx => s20 = .int .i64 (wv : Nat) ∧ D34 w0 wx D R G z x kept L picks k wv a2 o2 ∧ KeepA w6 wx)
            case first =>
              as_aux_lemma =>
                have hdr : Rd w6 (if x.c = hh then x.A else x.A.map (·.add hh)) (byts (x.l.drop hh)) := by
                  have := hbyt.drop hh x.c (by rw [byts_length]; exact hcap)
                  simpa [byts, List.map_drop] using this
                have htk : Rd w6 x.A (byts (x.l.take hh)) := by
                  have := hbyt.take hh
                  simpa [byts, List.map_take] using this
                have l1 : (x.l.take hh).length = hh := by rw [List.length_take]; omega
                have l2 : (x.l.drop hh).length = x.l.length - hh := List.length_drop
                have hwc : ∀ A2, A2 = (if x.c = hh then x.A else x.A.map (·.add hh)) → Calls Try.prog 19 #[.pointer (some ⟨D, 0, none⟩), .int .i64 x.at_, .slice (some ⟨w6.heap.size, 0, none⟩) 2 2] (w6.alloc (.cells #[.slice x.A hh x.c, .slice A2 (x.l.length - hh) (x.c - hh)] 35)).drew fun e wx => e = .returned (.int .i64 (wv : Nat)) ∧ D34 w0 wx D R G z x kept L picks k wv a2 o2 ∧ KeepA w6 wx := by
                  intro A2 hA2
                  subst hA2
                  have hbz : Below w6.heap.size w6 (w6.alloc (.cells #[.slice x.A hh x.c, .slice (if x.c = hh then x.A else x.A.map (·.add hh)) (x.l.length - hh) (x.c - hh)] 35)).drew := ((Below.refl _ _).alloc (Nat.le_refl _) _).drew
                  refine hop _ (some ⟨w6.heap.size, 0, none⟩) [⟨x.A, x.c, x.l.take hh⟩, ⟨if x.c = hh then x.A else x.A.map (·.add hh), x.c - hh, x.l.drop hh⟩] hbz ?_ rfl ?_ (flat_two _ _ _ _ _ _) hll
                  · have := Rd.many w6 [.slice x.A hh x.c, .slice (if x.c = hh then x.A else x.A.map (·.add hh)) (x.l.length - hh) (x.c - hh)] 35
                    simp only [List.map_cons, List.map_nil, Sb.val, l1, l2]
                    exact this
                  · intro s hs
                    simp only [List.mem_cons, List.not_mem_nil, or_false] at hs
                    rcases hs with rfl | rfl
                    · exact ⟨htk.below hbz, by simp only [l1]; omega, by simp only [l1]; omega⟩
                    · exact ⟨hdr.below hbz, by simp only [l2]; omega, by simp only [l2]; omega⟩
                have x1 : w6.drew.cell? ⟨X, 1, none⟩ = some (.int .i64 x.at_) := X1
                have x3 : w6.drew.cell? ⟨X, 3, none⟩ = some (.slice x.A x.l.length x.c) := X3
                have hf : ∀ o, (w6.alloc o).drew.cell? ⟨X, 1, none⟩ = some (.int .i64 x.at_) := fun o => (hXA.alloc o).cell 1
                have hnc : hh ≤ x.c := by omega
                have i1 : (hh : Int) ≤ (x.c : Int) := by omega
                have i2 : (hh : Int) ≤ (x.l.length : Int) := by omega
                clear hop hdr htk hbyt X0 X1 X2 X3 X4
                unfold actCells at hXA
                generalize x.A = bA at *
                by_cases hc : x.c = hh
                · have hw2 := hwc bA (by rw [if_pos hc])
                  simp only [hc, Nat.sub_self] at hw2 x3 hXA i1
                  clear hc hf hwc
                  have z1 := (hXA.alloc (.cells #[.slice bA hh hh, .slice (bA) (x.l.length - hh) 0] 35)).cell 1
                  have z3 := (hXA.alloc (.cells #[.slice bA hh hh, .slice (bA) (x.l.length - hh) 0] 35)).cell 3
                  go_region_held3 (fun w' => w'.cell? ⟨X, 1, none⟩ = some (.int .i64 x.at_) ∧ w'.cell? ⟨X, 3, none⟩ = some (.slice bA x.l.length hh))
                    (first
                      | exact ⟨x1, x3⟩
                      | exact ⟨z1, z3⟩
                      | exact ⟨y1, y3⟩)
                    (first
                      | (go_simp; go_at_call 19; (with_reducible refine hw2.mono ?_); rintro e w7 ⟨rfl, hd7, hk7⟩; have y1 := (hk7 X _ hXA).cell 1; have y3 := (hk7 X _ hXA).cell 3))
                  all_goals (go_wp2_with fail; go_meet; exact ⟨rfl, hd7, hk7⟩)
                · cases bA with
                  | none =>
                    have hw2 := hwc (none) (by rw [if_neg hc]; rfl)
                    clear hf hwc
                    have z1 := (hXA.alloc (.cells #[.slice none hh x.c, .slice (none) (x.l.length - hh) (x.c - hh)] 35)).cell 1
                    have z3 := (hXA.alloc (.cells #[.slice none hh x.c, .slice (none) (x.l.length - hh) (x.c - hh)] 35)).cell 3
                    go_region_held3 (fun w' => w'.cell? ⟨X, 1, none⟩ = some (.int .i64 x.at_) ∧ w'.cell? ⟨X, 3, none⟩ = some (.slice none x.l.length x.c))
                      (first
                        | exact ⟨x1, x3⟩
                        | exact ⟨z1, z3⟩
                        | exact ⟨y1, y3⟩)
                      (first
                        | (go_simp; go_at_call 19; (with_reducible refine hw2.mono ?_); rintro e w7 ⟨rfl, hd7, hk7⟩; have y1 := (hk7 X _ hXA).cell 1; have y3 := (hk7 X _ hXA).cell 3))
                    all_goals (go_wp2_with fail; go_meet; exact ⟨rfl, hd7, hk7⟩)
                  | some bad =>
                    have hw2 := hwc (some (bad.add hh)) (by rw [if_neg hc]; rfl)
                    clear hf hwc
                    have z1 := (hXA.alloc (.cells #[.slice (some bad) hh x.c, .slice (some (bad.add hh)) (x.l.length - hh) (x.c - hh)] 35)).cell 1
                    have z3 := (hXA.alloc (.cells #[.slice (some bad) hh x.c, .slice (some (bad.add hh)) (x.l.length - hh) (x.c - hh)] 35)).cell 3
                    go_region_held3 (fun w' => w'.cell? ⟨X, 1, none⟩ = some (.int .i64 x.at_) ∧ w'.cell? ⟨X, 3, none⟩ = some (.slice (some bad) x.l.length x.c))
                      (first
                        | exact ⟨x1, x3⟩
                        | exact ⟨z1, z3⟩
                        | exact ⟨y1, y3⟩)
                      (first
                        | (go_simp; go_at_call 19; (with_reducible refine hw2.mono ?_); rintro e w7 ⟨rfl, hd7, hk7⟩; have y1 := (hk7 X _ hXA).cell 1; have y3 := (hk7 X _ hXA).cell 3))
                    all_goals (go_wp2_with fail; go_meet; exact ⟨rfl, hd7, hk7⟩)
            case rest =>
            obtain ⟨rfl, hD, hk7⟩ := hcut
            have hXc := hk7 X _ hXA
            rcases hD with ⟨hwv, kept', L', hkz, hT7⟩ | ⟨rfl, rfl, b, hb, hbz, hM7⟩
            · have c0 : ((wv : Int) == 0) = false := by simpa using hwv
              clear hwv hop
              go_wp2_with fail
              go_meet
              exact ⟨_, _, _, _, _, qA, qc, wv, rfl, rfl, rfl, rfl, hkz, hT7, hq, hqx, hqn, hXc, HG.out wv rfl⟩
            · have Y1 : wc.cell? ⟨X, 1, none⟩ = some (.int .i64 x.at_) := hXc.cell 1
              have Y3 : wc.cell? ⟨X, 3, none⟩ = some (.slice x.A x.l.length x.c) := hXc.cell 3
              have hbw7 := hb0.trans (hM7.bel.mono hb0.size)
              have hrw := mid_rwrite hM7 (by omega) x.A x.c (hax.byt.below hbw7) hAl (by rw [hkl]; exact hbz)
              rw [← hb] at hrw
              clear hb hop hM7
              go_wp2_with (go_at_call 20; refine hrw.mono ?_; rintro e w8 ⟨rfl, hT8, hk8⟩)
              go_meet
              exact ⟨_, _, _, _, _, qA, qc, 0, rfl, rfl, rfl, rfl, hkl, hT8, hq, hqx, hqn, hk8 X _ hXc, HG.out 0 rfl⟩
          /-}-/
        have b1 : (x.op == 1) = false := by simp [o1]
        by_cases o2' : x.op = 2
        · skip
          as_aux_lemma => /-{-/
            have b2 : (x.op == 2) = true := by simp [o2']
            have hg : ∀ g : Nat, g = wv → g = (if 2 < x.op ∨ x.op < 1 then 0 else wv) := fun g h => by rw [if_neg (by omega)]; exact h
            have HG := Lib.hid hg
            have hab : armB x.op wa armed = decide (wa = 0 ∧ 0 < armed) := by unfold armB; simp [o2']
            rcases hE with ⟨_, ha1, rfl, rfl, rfl, _, hnv, hrf, hbl⟩ | ⟨hne, rfl, ha2, rfl, hT⟩
            · have hdn := dn_persist hnv hrf hbl hfew (by omega) hlen
              clear hg hab o1 o2'
              go_wp2_with (go_at_call 21; refine hdn.mono ?_; rintro e w7 ⟨rfl, hT7, hk7⟩)
              go_meet
              exact ⟨_, _, _, _, _, qA, qc, 8, rfl, rfl, rfl, rfl, by rw [app_length]; exact hkl, hT7, hq, hqx, hqn, hk7 X _ hX6, HG.out 8 rfl⟩
            · cases o2
              · have hw0 : wv = 0 := by rw [← HWA.out]; simp [wantA, o1]
                subst hw0
                have hna : armed ≠ 1 := by
                  intro h1
                  subst h1
                  exact hne (by rw [hab]; simp) rfl
                have ha3 : a2 = armed - 1 := by
                  rw [ha2, hab]
                  split
                  · rfl
                  · rename_i h
                    simp at h
                    omega
                have hpe := tp_persist hT hna (by omega)
                rw [← ha3] at hpe
                clear hg hab o1 o2' hne ha2 ha3 hna
                go_wp2_with (first
                  | (go_at_call 22; have _h := hM7; refine (mid_rpersist hM7 (by omega)).mono ?_; rintro e w8 ⟨rfl, hT8, hk8⟩)
                  | (go_at_call 21; refine hpe.mono ?_; rintro e w7 ⟨rfl, hM7, hk7⟩))
                go_meet
                exact ⟨_, _, _, _, _, qA, qc, 0, rfl, rfl, rfl, rfl, by rw [app_length]; exact hkl, hT8, hq, hqx, hqn, hk8 X _ (hk7 X _ hX6), HG.out 0 rfl⟩
              · have hw8 : wv = 8 := by rw [← HWA.out]; rfl
                subst hw8
                have ha3 : a2 = armed := by rw [ha2, hab]; simp
                subst ha3
                have hpe := tp_persist_off hT
                clear hg hab o1 o2' hne ha2
                go_wp2_with (go_at_call 21; refine hpe.mono ?_; rintro e w7 ⟨rfl, rfl⟩)
                go_meet
                exact ⟨_, _, _, _, _, qA, qc, 8, rfl, rfl, rfl, rfl, hkl, hT.next, hq, hqx, hqn, hX6, HG.out 8 rfl⟩
          /-}-/
        as_aux_lemma => /-{-/
          have b2 : (x.op == 2) = false := by simp [o2']
          have hab : armB x.op wa armed = false := by unfold armB; simp [o1, o2']
          rcases hE with ⟨h, _⟩ | ⟨_, rfl, ha2, ho2, hT⟩
          · rw [hab] at h; cases h
          rw [hab] at ha2
          simp only [Bool.false_eq_true, if_false] at ha2
          subst ha2
          subst ho2
          clear hab
          by_cases o3 : x.op = 3
          · have b3 : (x.op == 3) = true := by simp [o3]
            have hg : (0 : Nat) = (if 2 < x.op ∨ x.op < 1 then 0 else wv) := by rw [if_pos (.inl (by omega))]
            have HG := Lib.hid hg
            have hdc := tp_dcut hT (by omega) x.pA x.pc x.p (hax.pck.below hbw6) (fun y hy => (hax.prng y hy).2)
            clear o1 o2' o3 hg
            go_wp2_with (first
              | (go_at_call 26; have _h := hM7; refine (mid_rcut hM7 (by omega) x.pA x.pc (hax.pck.below hbw7) (fun y hy => (hax.prng y hy).2)).mono ?_; rintro e w8 ⟨rfl, hT8, hk8⟩)
              | (go_at_call 24; refine hdc.mono ?_; rintro e w7 ⟨rfl, hM7, hk7⟩; have Y4 : w7.cell? ⟨X, 4, none⟩ = some (.slice x.pA x.p.length x.pc) := (hk7 X _ hX6).cell 4; have hbw7 := hb0.trans (hM7.bel.mono hb0.size)))
            go_meet
            exact ⟨_, _, _, _, _, qA, qc, 0, rfl, rfl, rfl, rfl, by rw [app_length]; exact hkl, hT8, hq, hqx, hqn, hk8 X _ (hk7 X _ hX6), HG.out⟩
          have b3 : (x.op == 3) = false := by simp [o3]
          by_cases o4 : x.op = 4
          · have b4 : (x.op == 4) = true := by simp [o4]
            have hg : (0 : Nat) = (if 2 < x.op ∨ x.op < 1 then 0 else wv) := by rw [if_pos (.inl (by omega))]
            have HG := Lib.hid hg
            have har := tp_arm hT x.n hax.nrng.2 x.pA x.pc x.p (hax.pck.below hbw6) hpk.1 (fun y hy => (hax.prng y hy).2)
            clear o1 o2' o3 o4 hg
            have hmx : x.n < 1 → (max x.n 1).toNat = 1 := fun h => by omega
            have hmy : ¬ x.n < 1 → (((max x.n 1).toNat : Nat) : Int) = x.n := fun h => by omega
            generalize (max x.n 1).toNat = N at *
            by_cases hn : x.n < 1
            · have hN := hmx hn
              subst hN
              clear hmx hmy
              go_wp2_with (go_at_call 27; refine har.mono ?_; rintro e w7 ⟨rfl, hT7, hk7⟩; have Y2 : w7.cell? ⟨X, 2, none⟩ = some (.int .i64 x.n) := (hk7 X _ hX6).cell 2; have Y4 : w7.cell? ⟨X, 4, none⟩ = some (.slice x.pA x.p.length x.pc) := (hk7 X _ hX6).cell 4)
              go_meet
              exact ⟨_, _, _, _, _, x.pA, x.pc, 0, rfl, rfl, rfl, rfl, hkl, hT7, hax.pck, (fun y hy => (hax.prng y hy).2), hpk.1, hk7 X _ hX6, HG.out⟩
            · have hN := hmy hn
              clear hmx hmy
              have HN := Lib.hid hN
              clear hN
              go_wp2_with (go_at_call 27; refine har.mono ?_; rintro e w7 ⟨rfl, hT7, hk7⟩; have Y2 : w7.cell? ⟨X, 2, none⟩ = some (.int .i64 x.n) := (hk7 X _ hX6).cell 2; have Y4 : w7.cell? ⟨X, 4, none⟩ = some (.slice x.pA x.p.length x.pc) := (hk7 X _ hX6).cell 4)
              go_meet
              exact ⟨_, _, _, _, _, x.pA, x.pc, 0, by rw [HN.out], rfl, rfl, rfl, hkl, hT7, hax.pck, (fun y hy => (hax.prng y hy).2), hpk.1, hk7 X _ hX6, HG.out⟩
          have b4 : (x.op == 4) = false := by simp [o4]
          have hg : (0 : Nat) = (if 2 < x.op ∨ x.op < 1 then 0 else wv) := by rw [if_pos (by omega)]
          have HG := Lib.hid hg
          by_cases o5 : x.op = 5
          · have b5 : (x.op == 5) = true := by simp [o5]
            have hon := tp_on hT
            clear o1 o2' o3 o4 o5 hg
            go_wp2_with (go_at_call 28; refine hon.mono ?_; rintro e w7 ⟨rfl, hT7, hk7⟩)
            go_meet
            exact ⟨_, _, _, _, _, qA, qc, 0, rfl, rfl, rfl, rfl, hkl, hT7, hq, hqx, hqn, hk7 X _ hX6, HG.out⟩
          · have b5 : (x.op == 5) = false := by simp [o5]
            clear o1 o2' o3 o4 o5 hg
            go_wp2_with fail
            go_meet
            exact ⟨_, _, _, _, _, qA, qc, 0, rfl, rfl, rfl, rfl, hkl, hT.next, hq, hqx, hqn, hX6, HG.out⟩
        /-}-/
      case rest =>
      obtain ⟨keptN, LN, offN, armedN, picksN, qN, qcN, g, rfl, rfl, rfl, rfl, hklN, hTN, hqN, hqxN, hqnN, hXN, hgN⟩ := hcut
      obtain ⟨w8, e8⟩ : ∃ y, y = wc := ⟨wc, rfl⟩
      subst e8
      have HGN := Lib.hid hgN
      clear hgN
      have hbw8 := hb0.trans (hTN.bel.mono hb0.size)
      clear hE hX6 hbw6 X0 X2 X4 hfew hlen hq hqx hqn hkl
      have X0 : w8.cell? ⟨X, 0, none⟩ = some (.int .i64 x.op) := hXN.cell 0
      go_upto_region 53 with fail
      go_cut [185] (fun s185 wx => s185 = .bool (decide (2 < x.op) || decide (x.op < 1)) ∧ w8 = wx)
      case first =>
        as_aux_lemma => /-{-/
          by_cases p1 : 2 < x.op
          · have HP := Lib.hid (show decide (2 < x.op) = true from by simp [p1])
            go_wp2_with fail
            go_meet
            exact ⟨by rw [HP.out]; rfl, rfl⟩
          · have HP := Lib.hid (show decide (2 < x.op) = false from by simp [p1])
            by_cases p2 : x.op < 1
            · have HQ := Lib.hid (show decide (x.op < 1) = true from by simp [p2])
              go_wp2_with fail
              go_meet
              exact ⟨by rw [HP.out, HQ.out]; rfl, rfl⟩
            · have HQ := Lib.hid (show decide (x.op < 1) = false from by simp [p2])
              go_wp2_with fail
              go_meet
              exact ⟨by rw [HP.out, HQ.out]; rfl, rfl⟩
        /-}-/
      case rest =>
      obtain ⟨rfl, rfl⟩ := hcut
      generalize hop2 : (decide (2 < x.op) || decide (x.op < 1)) = t185 at *
      have hgt : g = if t185 = true then 0 else wv := by rw [HGN.out, ← hop2]; simp
      go_upto_if 185 with fail
      go_cut [19] (fun s19 wx => s19 = .int .i64 (g : Nat) ∧ w8 = wx)
      case first =>
        as_aux_lemma => /-{-/
          cases t185
          · have hg2 : g = wv := by simpa using hgt
            clear hgt
            subst hg2
            go_wp2_with fail
            go_meet
            exact ⟨rfl, rfl⟩
          · have hg2 : g = 0 := by simpa using hgt
            clear hgt
            subst hg2
            go_wp2_with fail
            go_meet
            exact ⟨rfl, rfl⟩
        /-}-/
      case rest =>
      obtain ⟨rfl, rfl⟩ := hcut
      clear hgt hop2
      go_upto_region 55 with fail
      go_cut [204] (fun s204 wx => s204 = .bool false ∧ ∃ n, wx = w8.drewN n)
      case first =>
        as_aux_lemma => /-{-/
          obtain ⟨mN, hmN, hnN⟩ := hTN.nv
          obtain ⟨kA, kc, lA, lc, hrN⟩ := hTN.rf
          have R1 : w8.cell? ⟨R, 1, none⟩ = some (.slice lA LN.length lc) := hrN.dev.cell 1
          have hof := fun n => (p_off (hnN.below (below_drewN (Below.refl _ _) n))).mono fun e w' h => And.intro h.1 h.2.symm
          have hpe := fun n => (p_pending (hnN.below (below_drewN (Below.refl _ _) n))).mono fun e w' h => And.intro h.1 h.2.symm
          clear hnN hrN hTN
          cases offN
          all_goals
            go_wp2_with fail
            go_quiet (first | (go_at_call 29; exact Calls.quiet_of_same (hof _)) | (go_at_call 23; exact Calls.quiet_of_same (hpe _)))
            go_wp2_with fail
            go_meet
            exact ⟨rfl, _, rfl⟩
        /-}-/
      case rest =>
      obtain ⟨rfl, nd, rfl⟩ := hcut
      have hbd : Below w8.heap.size w8 (w8.drewN nd) := below_drewN (Below.refl _ _) nd
      have hT9 := hTN.below hbd
      have hbw9 := hbw8.trans (hbd.mono hbw8.size)
      clear hTN hXN X0 hbd hbw8
      generalize w8.drewN nd = w9 at *
      obtain ⟨m9, hm9, hn9⟩ := hT9.nv
      cases offN with
      | true =>
        as_aux_lemma => /-{-/
          have hrd := p_read_off hn9 0 (z : Nat)
          have hk1 : k + 1 ≤ l.length := by omega
          have hwk : IntKind.i64.wrap ((k : Int) + 1) = ((k + 1 : Nat) : Int) := by rw [IntWalk.i64_in _ (by omega)]; omega
          clear hn9
          go_wp2_with fail
          refine hrd.mono ?_
          rintro e w10 ⟨rfl, rfl⟩
          clear hrd
          go_wp2_with fail
          go_quiet (fail)
          go_wp2_with fail
          go_roundg (l.length - (k + 1))
          case measure => omega
          case rel => exact ⟨k + 1, _, _, _, _, _, qN, qcN, rfl, hk1, by go_num, rfl, rfl, rfl, hklN, hT9.below (below_drewN (Below.refl _ _) _), hqN, hqxN, hqnN⟩
        /-}-/
      | false =>
        as_aux_lemma => /-{-/
          have hrd := p_read hn9 0 z (by omega)
          have hk1 : k + 1 ≤ l.length := by omega
          rw [List.drop_zero, List.take_of_length_le (by rw [app_length]; omega)] at hrd
          clear hn9
          go_wp2_with fail
          refine hrd.mono ?_
          rintro e w10 ⟨A8, c8, rfl, ho8, hb8⟩
          have hT10 := hT9.below hb8
          have hr8 := Rd.of_own ho8
          have hlz : (app keptN LN).length = z := by rw [app_length]; exact hklN
          have hrS := hr8.drew
          have hal := tp_all2 (hT10.below (Below.refl _ _).drew) (by omega) hklN hrS
          have HLZ := Lib.hid hlz
          have HAL := Lib.hid hal
          clear hrd hal hT9 ho8 hr8 hlz
          generalize app keptN LN = bl at *
          go_upto_region 58 with fail
          go_cut [231] (fun s231 wx => s231 = .bool false ∧ Below w10.heap.size w10 wx)
          case first =>
            as_aux_lemma =>
              clear hT10
              refine reg58 HLZ.out hrS HAL.out ?_
              intro w' A' c' hb
              go_wp2_with fail
              go_meet
              exact ⟨rfl, (Below.refl _ _).drew.trans hb⟩
          case rest =>
          obtain ⟨rfl, hbx⟩ := hcut
          go_wp2_with fail
          go_roundg (l.length - (k + 1))
          case measure => omega
          case rel => exact ⟨k + 1, _, _, _, _, _, qN, qcN, rfl, hk1, by go_num, rfl, rfl, rfl, hklN, hT10.below hbx, hqN, hqxN, hqnN⟩
        /-}-/
    · obtain rfl : k = l.length := by omega
      have r1 : ¬ (l.length : Int) < (l.length : Int) := by omega
      have hk3 : l.length ≤ 300 := by have := hf1 trivial; omega
      obtain ⟨m9, hm9, hn9⟩ := hT.nv
      have hfc := tp_fits hT at_ n
      rw [hkl] at hfc
      cases off with
      | true =>
        as_aux_lemma => /-{-/
          have hrd := p_read_off hn9 at_ n
          clear hn9 hT hfc
          go_wp2_with fail
          refine hrd.mono ?_
          rintro e w10 ⟨rfl, rfl⟩
          clear hrd
          go_wp2_with fail
          go_ret
          exact ⟨rfl, hbw⟩
        /-}-/
      | false =>
        cases hff : fitsB z at_ n with
        | false =>
          as_aux_lemma => /-{-/
            have hrd := p_read_arg hn9 at_ n (by rw [hkl]; exact hff)
            rw [hff] at hfc
            clear hn9 hT hff
            go_wp2_with fail
            refine hrd.mono ?_
            rintro e w10 ⟨rfl, rfl⟩
            clear hrd
            go_wp2_with (go_at_call 18; refine hfc.mono ?_; rintro e w11 ⟨rfl, rfl⟩)
            go_ret
            exact ⟨rfl, hbw⟩
          /-}-/
        | true =>
          have hn0 : 0 ≤ n := by unfold fitsB at hff; simp at hff; omega
          obtain ⟨nn, rfl⟩ : ∃ nn : Nat, n = (nn : Int) := ⟨n.toNat, by omega⟩
          obtain ⟨b, rfl, hbz⟩ := fits_nat hff
          have hrd := p_read hn9 b nn (by omega)
          rw [hff] at hfc
          clear hff hn0
          go_wp2_with fail
          refine hrd.mono ?_
          rintro e w10 ⟨A8, c8, rfl, ho8, hb8⟩
          have hT10 := hT.below hb8
          have hfc2 := tp_fits hT10 (b : Int) (nn : Int)
          rw [hkl, show fitsB z (b : Int) (nn : Int) = true from by simp [fitsB]; omega] at hfc2
          have hkl' : (app kept L).length = z := by rw [app_length]; exact hkl
          have hr8 := Rd.of_own ho8
          have hrS := hr8.drew
          have hal := tp_all2 (hT10.below (Below.refl _ _).drew) (by omega) hkl hrS
          have HAL := Lib.hid hal
          have HKL := Lib.hid hkl'
          have hbw10 := hbw.trans (hb8.mono hbw.size)
          clear hrd hal ho8 hr8 hkl' hT hn9 hfc
          go_wp2_with (go_at_call 18; refine hfc2.mono ?_; rintro e w11 ⟨rfl, rfl⟩)
          refine reg65 HKL.out hbz (by omega) hrS HAL.out ?_
          intro w' A' c' hb
          go_wp2_with fail
          all_goals
            go_ret
            exact ⟨rfl, hbw10.trans (((Below.refl _ _).drew.trans hb).mono hbw10.size)⟩
end Go.Proofs.Ytadgaphgomagkaa
